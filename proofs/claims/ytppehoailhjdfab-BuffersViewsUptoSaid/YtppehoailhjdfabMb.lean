/-
  The bridges: a function's calls, by what it comes to over abstract heaps: printed by a program of this workplace.
-/
import Derived.Test.YtppehoailhjdfabMd
import Derived.Test.YtppehoailhjdfabProg
set_option linter.unusedVariables false
set_option maxRecDepth 100000
namespace Go.Mx
open Go.Proofs
theorem law21_BuffersViews.br {size1 : Int} {actors2 : Int} {room3 : Int} {moves4 : Sl} {h : Heap} {Q : Bool → Heap → Prop} (H : law21_BuffersViews.M (fun x0 x1 x2 h K => CallT Try.prog 11 [Kd.val (.int .i64) x0, Kd.val (.int .i64) x1, Kd.val (.int .i64) x2] true kbuffersplace h K) (fun x0 x1 x2 h K => CallT Try.prog 12 [Kd.val (.int .i64) x0, Kd.val (.int .i64) x1, Kd.val (.int .i64) x2] true kbuffersplace h K) (fun x0 x1 x2 x3 h K => CallT Try.prog 13 [Kd.val .ptr x0, Kd.val .ptr x1, Kd.val klaw21Move x2, Kd.val .ptr x3] false .bool h K) (fun x0 h K => CallT Try.prog 14 [Kd.val .ptr x0] false .bool h K) (fun x0 h K => CallT Try.prog 16 [Kd.val .ptr x0] false .sl h K) (fun x0 x1 h K => CallT Try.prog 15 [Kd.val .sl x0, Kd.val .sl x1] false .bool h K) (fun x0 h K => CallT Try.prog 18 [Kd.val .ptr x0] false .sl h K) (fun x0 x1 h K => CallT Try.prog 17 [Kd.val .sl x0, Kd.val .sl x1] false .bool h K) (fun x0 x1 x2 x3 h K => CallT Try.prog 19 [Kd.val (.int .i64) x0, Kd.val (.int .i64) x1, Kd.val (.int .i64) x2, Kd.val .sl x3] false .bool h K) size1 actors2 room3 moves4 h Q) :
    CallT Try.prog 4 [Kd.val (.int .i64) size1, Kd.val (.int .i64) actors2, Kd.val (.int .i64) room3, Kd.val .sl moves4] false .bool h Q :=
  fn_sound2 (c := weave (Try.f4.body.getD .skip) law21_BuffersViews.mk) Try.func4 (by kernel_rfl) Try.ntmps4 (rs := [.tmp 8]) (by kernel_rfl) [⟨(.int .i64), size1⟩, ⟨(.int .i64), actors2⟩, ⟨(.int .i64), room3⟩, ⟨.sl, moves4⟩] (by kernel_rfl) (by kernel_rfl) (by kernel_rfl) (by kernel_rfl) H

theorem ref21_New.br {size1 : Int} {actors2 : Int} {room3 : Int} {h : Heap} {Q : Den kbuffersplace → Heap → Prop} (H : ref21_New.M (fun x0 h K => CallT Try.prog 48 [Kd.val (.int .i64) x0] true kbuffersplace h K) size1 actors2 room3 h Q) :
    CallT Try.prog 11 [Kd.val (.int .i64) size1, Kd.val (.int .i64) actors2, Kd.val (.int .i64) room3] true kbuffersplace h Q :=
  fn_sound2 (c := weave (Try.f11.body.getD .skip) ref21_New.mk) Try.func11 (by kernel_rfl) Try.ntmps11 (rs := [.tmp 6, .tmp 7]) (by kernel_rfl) [⟨(.int .i64), size1⟩, ⟨(.int .i64), actors2⟩, ⟨(.int .i64), room3⟩] (by kernel_rfl) (by kernel_rfl) (by kernel_rfl) (by kernel_rfl) H

theorem buffers_New.br {size1 : Int} {actors2 : Int} {room3 : Int} {h : Heap} {Q : Den kbuffersplace → Heap → Prop} (H : buffers_New.M (fun x0 h K => CallT Try.prog 49 [Kd.val (.int .i64) x0] true kbuffersplace h K) (fun x0 x1 h K => CallT Try.prog 50 [Kd.val .ptr x0, Kd.val .bool x1] true .nil h K) size1 actors2 room3 h Q) :
    CallT Try.prog 12 [Kd.val (.int .i64) size1, Kd.val (.int .i64) actors2, Kd.val (.int .i64) room3] true kbuffersplace h Q :=
  fn_sound2 (c := weave (Try.f12.body.getD .skip) buffers_New.mk) Try.func12 (by kernel_rfl) Try.ntmps12 (rs := [.tmp 6, .tmp 7]) (by kernel_rfl) [⟨(.int .i64), size1⟩, ⟨(.int .i64), actors2⟩, ⟨(.int .i64), room3⟩] (by kernel_rfl) (by kernel_rfl) (by kernel_rfl) (by kernel_rfl) H

theorem law21_moved.br {m1 : Option Addr} {r2 : Option Addr} {x3 : Den klaw21Move} {all4 : Option Addr} {h : Heap} {Q : Bool → Heap → Prop} (H : law21_moved.M (fun x0 x1 h K => CallT Try.prog 39 [Kd.val .ptr x0, Kd.val (.int .i64) x1] false .ptr h K) (fun x0 x1 x2 h K => CallT Try.prog 11 [Kd.val (.int .i64) x0, Kd.val (.int .i64) x1, Kd.val (.int .i64) x2] true kbuffersplace h K) (fun x0 x1 h K => CallT Try.prog 51 [Kd.val .ptr x0, Kd.val klaw21Move x1] false kapiEffect h K) (fun x0 x1 x2 h K => CallT Try.prog 52 [Kd.val .ptr x0, Kd.val (.int .i64) x1, Kd.val klaw21Move x2] false kapiEffect h K) (fun x0 h K => CallT Try.prog 42 [Kd.val .ptr x0] true .nil h K) (fun x0 x1 h K => CallT Try.prog 53 [Kd.val .ptr x0, Kd.val (.int .i64) x1] true .nil h K) (fun x0 x1 h K => CallT Try.prog 40 [Kd.val .ptr x0, Kd.val (.int .i64) x1] false .bool h K) (fun x0 x1 h K => CallT Try.prog 54 [Kd.val .ptr x0, Kd.val (.int .i64) x1] false .bool h K) (fun x0 x1 h K => CallT Try.prog 41 [Kd.val .ptr x0, Kd.val (.int .i64) x1] false .sl h K) (fun x0 x1 h K => CallT Try.prog 32 [Kd.val .sl x0, Kd.val .sl x1] false .bool h K) (fun x0 x1 x2 x3 h K => CallT Try.prog 55 [Kd.val .ptr x0, Kd.val .sl x1, Kd.val .sl x2, Kd.val .sl x3] true .nil h K) (fun x0 h K => CallT Try.prog 16 [Kd.val .ptr x0] false .sl h K) (fun x0 x1 h K => CallT Try.prog 15 [Kd.val .sl x0, Kd.val .sl x1] false .bool h K) (fun x0 h K => CallT Try.prog 18 [Kd.val .ptr x0] false .sl h K) (fun x0 x1 h K => CallT Try.prog 17 [Kd.val .sl x0, Kd.val .sl x1] false .bool h K) m1 r2 x3 all4 h Q) :
    CallT Try.prog 13 [Kd.val .ptr m1, Kd.val .ptr r2, Kd.val klaw21Move x3, Kd.val .ptr all4] false .bool h Q :=
  fn_sound2 (c := weave (Try.f13.body.getD .skip) law21_moved.mk) Try.func13 (by kernel_rfl) Try.ntmps13 (rs := [.tmp 8]) (by kernel_rfl) [⟨.ptr, m1⟩, ⟨.ptr, r2⟩, ⟨klaw21Move, x3⟩, ⟨.ptr, all4⟩] (by kernel_rfl) (by kernel_rfl) (by kernel_rfl) (by kernel_rfl) H

theorem law21_shelf_stands.br {s1 : Option Addr} {h : Heap} {Q : Bool → Heap → Prop} (H : law21_shelf_stands.M  s1 h Q) :
    CallT Try.prog 14 [Kd.val .ptr s1] false .bool h Q :=
  fn_sound2 (c := weave (Try.f14.body.getD .skip) law21_shelf_stands.mk) Try.func14 (by kernel_rfl) Try.ntmps14 (rs := [.tmp 2]) (by kernel_rfl) [⟨.ptr, s1⟩] (by kernel_rfl) (by kernel_rfl) (by kernel_rfl) (by kernel_rfl) H

theorem law21_sameNumbers.br {a1 : Sl} {b2 : Sl} {h : Heap} {Q : Bool → Heap → Prop} (H : law21_sameNumbers.M  a1 b2 h Q) :
    CallT Try.prog 15 [Kd.val .sl a1, Kd.val .sl b2] false .bool h Q :=
  fn_sound2 (c := weave (Try.f15.body.getD .skip) law21_sameNumbers.mk) Try.func15 (by kernel_rfl) Try.ntmps15 (rs := [.tmp 4]) (by kernel_rfl) [⟨.sl, a1⟩, ⟨.sl, b2⟩] (by kernel_rfl) (by kernel_rfl) (by kernel_rfl) (by kernel_rfl) H

theorem buffers_Memory_Cells.br {m1 : Option Addr} {h : Heap} {Q : Sl → Heap → Prop} (H : buffers_Memory_Cells.M (fun x0 h K => CallT Try.prog 56 [Kd.val .ptr x0] false .sl h K) m1 h Q) :
    CallT Try.prog 16 [Kd.val .ptr m1] false .sl h Q :=
  fn_sound2 (c := weave (Try.f16.body.getD .skip) buffers_Memory_Cells.mk) Try.func16 (by kernel_rfl) Try.ntmps16 (rs := [.tmp 2]) (by kernel_rfl) [⟨.ptr, m1⟩] (by kernel_rfl) (by kernel_rfl) (by kernel_rfl) (by kernel_rfl) H

theorem law21_sameLog.br {a1 : Sl} {b2 : Sl} {h : Heap} {Q : Bool → Heap → Prop} (H : law21_sameLog.M  a1 b2 h Q) :
    CallT Try.prog 17 [Kd.val .sl a1, Kd.val .sl b2] false .bool h Q :=
  fn_sound2 (c := weave (Try.f17.body.getD .skip) law21_sameLog.mk) Try.func17 (by kernel_rfl) Try.ntmps17 (rs := [.tmp 4]) (by kernel_rfl) [⟨.sl, a1⟩, ⟨.sl, b2⟩] (by kernel_rfl) (by kernel_rfl) (by kernel_rfl) (by kernel_rfl) H

theorem buffers_Memory_Log.br {m1 : Option Addr} {h : Heap} {Q : Sl → Heap → Prop} (H : buffers_Memory_Log.M (fun x0 h K => CallT Try.prog 57 [Kd.val .ptr x0] false .sl h K) m1 h Q) :
    CallT Try.prog 18 [Kd.val .ptr m1] false .sl h Q :=
  fn_sound2 (c := weave (Try.f18.body.getD .skip) buffers_Memory_Log.mk) Try.func18 (by kernel_rfl) Try.ntmps18 (rs := [.tmp 2]) (by kernel_rfl) [⟨.ptr, m1⟩] (by kernel_rfl) (by kernel_rfl) (by kernel_rfl) (by kernel_rfl) H

theorem law21_untold.br {size1 : Int} {actors2 : Int} {room3 : Int} {moves4 : Sl} {h : Heap} {Q : Bool → Heap → Prop} (H : law21_untold.M (fun x0 x1 x2 h K => CallT Try.prog 11 [Kd.val (.int .i64) x0, Kd.val (.int .i64) x1, Kd.val (.int .i64) x2] true kbuffersplace h K) (fun x0 x1 x2 h K => CallT Try.prog 12 [Kd.val (.int .i64) x0, Kd.val (.int .i64) x1, Kd.val (.int .i64) x2] true kbuffersplace h K) (fun x0 x1 x2 x3 h K => CallT Try.prog 13 [Kd.val .ptr x0, Kd.val .ptr x1, Kd.val klaw21Move x2, Kd.val .ptr x3] false .bool h K) (fun x0 x1 x2 h K => CallT Try.prog 58 [Kd.val .ptr x0, Kd.val .ptr x1, Kd.val .ptr x2] false .bool h K) (fun x0 h K => CallT Try.prog 59 [Kd.val .ptr x0] false .bool h K) size1 actors2 room3 moves4 h Q) :
    CallT Try.prog 19 [Kd.val (.int .i64) size1, Kd.val (.int .i64) actors2, Kd.val (.int .i64) room3, Kd.val .sl moves4] false .bool h Q :=
  fn_sound2 (c := weave (Try.f19.body.getD .skip) law21_untold.mk) Try.func19 (by kernel_rfl) Try.ntmps19 (rs := [.tmp 8]) (by kernel_rfl) [⟨(.int .i64), size1⟩, ⟨(.int .i64), actors2⟩, ⟨(.int .i64), room3⟩, ⟨.sl, moves4⟩] (by kernel_rfl) (by kernel_rfl) (by kernel_rfl) (by kernel_rfl) H

theorem law21_sameWaits.br {a1 : Sl} {b2 : Sl} {h : Heap} {Q : Bool → Heap → Prop} (H : law21_sameWaits.M  a1 b2 h Q) :
    CallT Try.prog 32 [Kd.val .sl a1, Kd.val .sl b2] false .bool h Q :=
  fn_sound2 (c := weave (Try.f32.body.getD .skip) law21_sameWaits.mk) Try.func32 (by kernel_rfl) Try.ntmps32 (rs := [.tmp 4]) (by kernel_rfl) [⟨.sl, a1⟩, ⟨.sl, b2⟩] (by kernel_rfl) (by kernel_rfl) (by kernel_rfl) (by kernel_rfl) H

theorem buffers_Memory_View.br {m1 : Option Addr} {actor2 : Int} {h : Heap} {Q : Option Addr → Heap → Prop} (H : buffers_Memory_View.M (fun x0 x1 h K => CallT Try.prog 75 [Kd.val .ptr x0, Kd.val (.int .i64) x1] false .bool h K) m1 actor2 h Q) :
    CallT Try.prog 39 [Kd.val .ptr m1, Kd.val (.int .i64) actor2] false .ptr h Q :=
  fn_sound2 (c := weave (Try.f39.body.getD .skip) buffers_Memory_View.mk) Try.func39 (by kernel_rfl) Try.ntmps39 (rs := [.tmp 4]) (by kernel_rfl) [⟨.ptr, m1⟩, ⟨(.int .i64), actor2⟩] (by kernel_rfl) (by kernel_rfl) (by kernel_rfl) (by kernel_rfl) H

theorem buffers_Memory_Flush.br {m1 : Option Addr} {actor2 : Int} {h : Heap} {Q : Bool → Heap → Prop} (H : buffers_Memory_Flush.M (fun x0 x1 h K => CallT Try.prog 75 [Kd.val .ptr x0, Kd.val (.int .i64) x1] false .bool h K) (fun x0 x1 h K => CallT Try.prog 76 [Kd.val .ptr x0, Kd.val (.int .i64) x1] true .nil h K) (fun x0 x1 x2 h K => CallT Try.prog 77 [Kd.val .ptr x0, Kd.val (.int .i64) x1, Kd.val (.int .i64) x2] false (.int .i64) h K) m1 actor2 h Q) :
    CallT Try.prog 40 [Kd.val .ptr m1, Kd.val (.int .i64) actor2] false .bool h Q :=
  fn_sound2 (c := weave (Try.f40.body.getD .skip) buffers_Memory_Flush.mk) Try.func40 (by kernel_rfl) Try.ntmps40 (rs := [.tmp 4]) (by kernel_rfl) [⟨.ptr, m1⟩, ⟨(.int .i64), actor2⟩] (by kernel_rfl) (by kernel_rfl) (by kernel_rfl) (by kernel_rfl) H

theorem buffers_Memory_Waiting.br {m1 : Option Addr} {actor2 : Int} {h : Heap} {Q : Sl → Heap → Prop} (H : buffers_Memory_Waiting.M (fun x0 x1 h K => CallT Try.prog 75 [Kd.val .ptr x0, Kd.val (.int .i64) x1] false .bool h K) m1 actor2 h Q) :
    CallT Try.prog 41 [Kd.val .ptr m1, Kd.val (.int .i64) actor2] false .sl h Q :=
  fn_sound2 (c := weave (Try.f41.body.getD .skip) buffers_Memory_Waiting.mk) Try.func41 (by kernel_rfl) Try.ntmps41 (rs := [.tmp 4]) (by kernel_rfl) [⟨.ptr, m1⟩, ⟨(.int .i64), actor2⟩] (by kernel_rfl) (by kernel_rfl) (by kernel_rfl) (by kernel_rfl) H

theorem buffers_View_Fence.br {v1 : Option Addr} {h : Heap} {Q : Unit → Heap → Prop} (H : buffers_View_Fence.M (fun x0 x1 h K => CallT Try.prog 78 [Kd.val .ptr x0, Kd.val (.int .i64) x1] true .nil h K) v1 h Q) :
    CallT Try.prog 42 [Kd.val .ptr v1] true .nil h Q :=
  fn_sound2 (c := weave (Try.f42.body.getD .skip) buffers_View_Fence.mk) Try.func42 (by kernel_rfl) Try.ntmps42 (rs := []) (by kernel_rfl) [⟨.ptr, v1⟩] (by kernel_rfl) (by kernel_rfl) (by kernel_rfl) (by kernel_rfl) H

theorem buffers_View_Load.br {v1 : Option Addr} {addr2 : Int} {h : Heap} {Q : Den kapiWait → Heap → Prop} (H : buffers_View_Load.M (fun x0 x1 h K => CallT Try.prog 79 [Kd.val .ptr x0, Kd.val (.int .i64) x1] false .bool h K) (fun x0 h K => CallT Try.prog 80 [Kd.val kbuffersplace x0] false .ptr h K) (fun x0 x1 h K => CallT Try.prog 81 [Kd.val .ptr x0, Kd.val (.int .i64) x1] true kapiWait h K) v1 addr2 h Q) :
    CallT Try.prog 43 [Kd.val .ptr v1, Kd.val (.int .i64) addr2] true kapiWait h Q :=
  fn_sound2 (c := weave (Try.f43.body.getD .skip) buffers_View_Load.mk) Try.func43 (by kernel_rfl) Try.ntmps43 (rs := [.tmp 4, .tmp 5]) (by kernel_rfl) [⟨.ptr, v1⟩, ⟨(.int .i64), addr2⟩] (by kernel_rfl) (by kernel_rfl) (by kernel_rfl) (by kernel_rfl) H

theorem buffers_View_Store.br {v1 : Option Addr} {addr2 : Int} {w3 : Int} {h : Heap} {Q : Int → Heap → Prop} (H : buffers_View_Store.M (fun x0 x1 h K => CallT Try.prog 79 [Kd.val .ptr x0, Kd.val (.int .i64) x1] false .bool h K) (fun x0 x1 h K => CallT Try.prog 40 [Kd.val .ptr x0, Kd.val (.int .i64) x1] false .bool h K) v1 addr2 w3 h Q) :
    CallT Try.prog 44 [Kd.val .ptr v1, Kd.val (.int .i64) addr2, Kd.val (.int .i64) w3] false (.int .i64) h Q :=
  fn_sound2 (c := weave (Try.f44.body.getD .skip) buffers_View_Store.mk) Try.func44 (by kernel_rfl) Try.ntmps44 (rs := [.tmp 6]) (by kernel_rfl) [⟨.ptr, v1⟩, ⟨(.int .i64), addr2⟩, ⟨(.int .i64), w3⟩] (by kernel_rfl) (by kernel_rfl) (by kernel_rfl) (by kernel_rfl) H

theorem buffers_View_CAS.br {v1 : Option Addr} {addr2 : Int} {old3 : Int} {next4 : Int} {h : Heap} {Q : (Bool × (Int × Unit)) → Heap → Prop} (H : buffers_View_CAS.M (fun x0 x1 h K => CallT Try.prog 79 [Kd.val .ptr x0, Kd.val (.int .i64) x1] false .bool h K) (fun x0 x1 h K => CallT Try.prog 78 [Kd.val .ptr x0, Kd.val (.int .i64) x1] true .nil h K) (fun x0 h K => CallT Try.prog 80 [Kd.val kbuffersplace x0] false .ptr h K) (fun x0 x1 x2 x3 h K => CallT Try.prog 82 [Kd.val .ptr x0, Kd.val (.int .i64) x1, Kd.val (.int .i64) x2, Kd.val (.int .i64) x3] true (.pair .bool (.pair (.int .i64) .nil)) h K) v1 addr2 old3 next4 h Q) :
    CallT Try.prog 45 [Kd.val .ptr v1, Kd.val (.int .i64) addr2, Kd.val (.int .i64) old3, Kd.val (.int .i64) next4] true (.pair .bool (.pair (.int .i64) .nil)) h Q :=
  fn_sound2 (c := weave (Try.f45.body.getD .skip) buffers_View_CAS.mk) Try.func45 (by kernel_rfl) Try.ntmps45 (rs := [.tmp 8, .tmp 9]) (by kernel_rfl) [⟨.ptr, v1⟩, ⟨(.int .i64), addr2⟩, ⟨(.int .i64), old3⟩, ⟨(.int .i64), next4⟩] (by kernel_rfl) (by kernel_rfl) (by kernel_rfl) (by kernel_rfl) H

theorem buffers_View_Add.br {v1 : Option Addr} {addr2 : Int} {d3 : Int} {h : Heap} {Q : Den kapiWait → Heap → Prop} (H : buffers_View_Add.M (fun x0 x1 h K => CallT Try.prog 79 [Kd.val .ptr x0, Kd.val (.int .i64) x1] false .bool h K) (fun x0 x1 h K => CallT Try.prog 78 [Kd.val .ptr x0, Kd.val (.int .i64) x1] true .nil h K) (fun x0 h K => CallT Try.prog 80 [Kd.val kbuffersplace x0] false .ptr h K) (fun x0 x1 x2 h K => CallT Try.prog 83 [Kd.val .ptr x0, Kd.val (.int .i64) x1, Kd.val (.int .i64) x2] true kapiWait h K) v1 addr2 d3 h Q) :
    CallT Try.prog 46 [Kd.val .ptr v1, Kd.val (.int .i64) addr2, Kd.val (.int .i64) d3] true kapiWait h Q :=
  fn_sound2 (c := weave (Try.f46.body.getD .skip) buffers_View_Add.mk) Try.func46 (by kernel_rfl) Try.ntmps46 (rs := [.tmp 6, .tmp 7]) (by kernel_rfl) [⟨.ptr, v1⟩, ⟨(.int .i64), addr2⟩, ⟨(.int .i64), d3⟩] (by kernel_rfl) (by kernel_rfl) (by kernel_rfl) (by kernel_rfl) H

theorem buffers_View_Reserve.br {v1 : Option Addr} {n2 : Int} {h : Heap} {Q : Den kapiWait → Heap → Prop} (H : buffers_View_Reserve.M (fun x0 h K => CallT Try.prog 84 [Kd.val .ptr x0] false (.int .i64) h K) (fun x0 h K => CallT Try.prog 85 [Kd.val .ptr x0] false (.int .i64) h K) (fun x0 x1 h K => CallT Try.prog 78 [Kd.val .ptr x0, Kd.val (.int .i64) x1] true .nil h K) (fun x0 h K => CallT Try.prog 80 [Kd.val kbuffersplace x0] false .ptr h K) (fun x0 x1 h K => CallT Try.prog 86 [Kd.val .ptr x0, Kd.val (.int .i64) x1] true kapiWait h K) v1 n2 h Q) :
    CallT Try.prog 47 [Kd.val .ptr v1, Kd.val (.int .i64) n2] true kapiWait h Q :=
  fn_sound2 (c := weave (Try.f47.body.getD .skip) buffers_View_Reserve.mk) Try.func47 (by kernel_rfl) Try.ntmps47 (rs := [.tmp 4, .tmp 5]) (by kernel_rfl) [⟨.ptr, v1⟩, ⟨(.int .i64), n2⟩] (by kernel_rfl) (by kernel_rfl) (by kernel_rfl) (by kernel_rfl) H

theorem ref2_New.br {size1 : Int} {h : Heap} {Q : Den kbuffersplace → Heap → Prop} (H : ref2_New.M  size1 h Q) :
    CallT Try.prog 48 [Kd.val (.int .i64) size1] true kbuffersplace h Q :=
  fn_sound2 (c := weave (Try.f48.body.getD .skip) ref2_New.mk) Try.func48 (by kernel_rfl) Try.ntmps48 (rs := [.tmp 2, .tmp 3]) (by kernel_rfl) [⟨(.int .i64), size1⟩] (by kernel_rfl) (by kernel_rfl) (by kernel_rfl) (by kernel_rfl) H

theorem cells_New.br {size1 : Int} {h : Heap} {Q : Den kbuffersplace → Heap → Prop} (H : cells_New.M (fun x0 h K => CallT Try.prog 87 [Kd.val (.int .i64) x0] false .bool h K) size1 h Q) :
    CallT Try.prog 49 [Kd.val (.int .i64) size1] true kbuffersplace h Q :=
  fn_sound2 (c := weave (Try.f49.body.getD .skip) cells_New.mk) Try.func49 (by kernel_rfl) Try.ntmps49 (rs := [.tmp 2, .tmp 3]) (by kernel_rfl) [⟨(.int .i64), size1⟩] (by kernel_rfl) (by kernel_rfl) (by kernel_rfl) (by kernel_rfl) H

theorem cells_Arena_Watch.br {a1 : Option Addr} {on2 : Bool} {h : Heap} {Q : Unit → Heap → Prop} (H : cells_Arena_Watch.M  a1 on2 h Q) :
    CallT Try.prog 50 [Kd.val .ptr a1, Kd.val .bool on2] true .nil h Q :=
  fn_sound2 (c := weave (Try.f50.body.getD .skip) cells_Arena_Watch.mk) Try.func50 (by kernel_rfl) Try.ntmps50 (rs := []) (by kernel_rfl) [⟨.ptr, a1⟩, ⟨.bool, on2⟩] (by kernel_rfl) (by kernel_rfl) (by kernel_rfl) (by kernel_rfl) H

theorem law21_by.br {v1 : Option Addr} {m2 : Den klaw21Move} {h : Heap} {Q : Den kapiEffect → Heap → Prop} (H : law21_by.M (fun x0 x1 h K => CallT Try.prog 43 [Kd.val .ptr x0, Kd.val (.int .i64) x1] true kapiWait h K) (fun x0 x1 x2 h K => CallT Try.prog 44 [Kd.val .ptr x0, Kd.val (.int .i64) x1, Kd.val (.int .i64) x2] false (.int .i64) h K) (fun x0 x1 x2 x3 h K => CallT Try.prog 45 [Kd.val .ptr x0, Kd.val (.int .i64) x1, Kd.val (.int .i64) x2, Kd.val (.int .i64) x3] true (.pair .bool (.pair (.int .i64) .nil)) h K) (fun x0 x1 x2 h K => CallT Try.prog 46 [Kd.val .ptr x0, Kd.val (.int .i64) x1, Kd.val (.int .i64) x2] true kapiWait h K) (fun x0 x1 h K => CallT Try.prog 47 [Kd.val .ptr x0, Kd.val (.int .i64) x1] true kapiWait h K) v1 m2 h Q) :
    CallT Try.prog 51 [Kd.val .ptr v1, Kd.val klaw21Move m2] false kapiEffect h Q :=
  fn_sound2 (c := weave (Try.f51.body.getD .skip) law21_by.mk) Try.func51 (by kernel_rfl) Try.ntmps51 (rs := [.cell 4 90]) (by kernel_rfl) [⟨.ptr, v1⟩, ⟨klaw21Move, m2⟩] (by kernel_rfl) (by kernel_rfl) (by kernel_rfl) (by kernel_rfl) H

theorem ref21_Memory_Do.br {m1 : Option Addr} {k2 : Int} {x3 : Den klaw21Move} {h : Heap} {Q : Den kapiEffect → Heap → Prop} (H : ref21_Memory_Do.M (fun x0 x1 h K => CallT Try.prog 53 [Kd.val .ptr x0, Kd.val (.int .i64) x1] true .nil h K) (fun x0 x1 h K => CallT Try.prog 88 [Kd.val .ptr x0, Kd.val klaw21Move x1] false (.int .i64) h K) (fun x0 x1 h K => CallT Try.prog 54 [Kd.val .ptr x0, Kd.val (.int .i64) x1] false .bool h K) (fun x0 x1 h K => CallT Try.prog 89 [Kd.val .ptr x0, Kd.val klaw21Move x1] false kapiEffect h K) m1 k2 x3 h Q) :
    CallT Try.prog 52 [Kd.val .ptr m1, Kd.val (.int .i64) k2, Kd.val klaw21Move x3] false kapiEffect h Q :=
  fn_sound2 (c := weave (Try.f52.body.getD .skip) ref21_Memory_Do.mk) Try.func52 (by kernel_rfl) Try.ntmps52 (rs := [.cell 6 90]) (by kernel_rfl) [⟨.ptr, m1⟩, ⟨(.int .i64), k2⟩, ⟨klaw21Move, x3⟩] (by kernel_rfl) (by kernel_rfl) (by kernel_rfl) (by kernel_rfl) H

theorem ref21_Memory_Drain.br {m1 : Option Addr} {k2 : Int} {h : Heap} {Q : Unit → Heap → Prop} (H : ref21_Memory_Drain.M (fun x0 x1 h K => CallT Try.prog 54 [Kd.val .ptr x0, Kd.val (.int .i64) x1] false .bool h K) m1 k2 h Q) :
    CallT Try.prog 53 [Kd.val .ptr m1, Kd.val (.int .i64) k2] true .nil h Q :=
  fn_sound2 (c := weave (Try.f53.body.getD .skip) ref21_Memory_Drain.mk) Try.func53 (by kernel_rfl) Try.ntmps53 (rs := []) (by kernel_rfl) [⟨.ptr, m1⟩, ⟨(.int .i64), k2⟩] (by kernel_rfl) (by kernel_rfl) (by kernel_rfl) (by kernel_rfl) H

theorem ref21_Memory_Flush.br {m1 : Option Addr} {k2 : Int} {h : Heap} {Q : Bool → Heap → Prop} (H : ref21_Memory_Flush.M (fun x0 x1 h K => CallT Try.prog 89 [Kd.val .ptr x0, Kd.val klaw21Move x1] false kapiEffect h K) m1 k2 h Q) :
    CallT Try.prog 54 [Kd.val .ptr m1, Kd.val (.int .i64) k2] false .bool h Q :=
  fn_sound2 (c := weave (Try.f54.body.getD .skip) ref21_Memory_Flush.mk) Try.func54 (by kernel_rfl) Try.ntmps54 (rs := [.tmp 4]) (by kernel_rfl) [⟨.ptr, m1⟩, ⟨(.int .i64), k2⟩] (by kernel_rfl) (by kernel_rfl) (by kernel_rfl) (by kernel_rfl) H

theorem law21_shelf_keep.br {s1 : Option Addr} {w2 : Sl} {c3 : Sl} {l4 : Sl} {h : Heap} {Q : Unit → Heap → Prop} (H : law21_shelf_keep.M  s1 w2 c3 l4 h Q) :
    CallT Try.prog 55 [Kd.val .ptr s1, Kd.val .sl w2, Kd.val .sl c3, Kd.val .sl l4] true .nil h Q :=
  fn_sound2 (c := weave (Try.f55.body.getD .skip) law21_shelf_keep.mk) Try.func55 (by kernel_rfl) Try.ntmps55 (rs := []) (by kernel_rfl) [⟨.ptr, s1⟩, ⟨.sl, w2⟩, ⟨.sl, c3⟩, ⟨.sl, l4⟩] (by kernel_rfl) (by kernel_rfl) (by kernel_rfl) (by kernel_rfl) H

theorem cells_Arena_Cells.br {a1 : Option Addr} {h : Heap} {Q : Sl → Heap → Prop} (H : cells_Arena_Cells.M  a1 h Q) :
    CallT Try.prog 56 [Kd.val .ptr a1] false .sl h Q :=
  fn_sound2 (c := weave (Try.f56.body.getD .skip) cells_Arena_Cells.mk) Try.func56 (by kernel_rfl) Try.ntmps56 (rs := [.tmp 2]) (by kernel_rfl) [⟨.ptr, a1⟩] (by kernel_rfl) (by kernel_rfl) (by kernel_rfl) (by kernel_rfl) H

theorem cells_Arena_Log.br {a1 : Option Addr} {h : Heap} {Q : Sl → Heap → Prop} (H : cells_Arena_Log.M  a1 h Q) :
    CallT Try.prog 57 [Kd.val .ptr a1] false .sl h Q :=
  fn_sound2 (c := weave (Try.f57.body.getD .skip) cells_Arena_Log.mk) Try.func57 (by kernel_rfl) Try.ntmps57 (rs := [.tmp 2]) (by kernel_rfl) [⟨.ptr, a1⟩] (by kernel_rfl) (by kernel_rfl) (by kernel_rfl) (by kernel_rfl) H

theorem law21_Kept_asked.br {k1 : Option Addr} {m2 : Option Addr} {r3 : Option Addr} {h : Heap} {Q : Bool → Heap → Prop} (H : law21_Kept_asked.M (fun x0 x1 h K => CallT Try.prog 41 [Kd.val .ptr x0, Kd.val (.int .i64) x1] false .sl h K) (fun x0 x1 x2 h K => CallT Try.prog 90 [Kd.val .ptr x0, Kd.val .sl x1, Kd.val .sl x2] false .bool h K) (fun x0 h K => CallT Try.prog 16 [Kd.val .ptr x0] false .sl h K) (fun x0 x1 x2 h K => CallT Try.prog 91 [Kd.val .ptr x0, Kd.val .sl x1, Kd.val .sl x2] false .bool h K) (fun x0 h K => CallT Try.prog 18 [Kd.val .ptr x0] false .sl h K) (fun x0 x1 x2 h K => CallT Try.prog 92 [Kd.val .ptr x0, Kd.val .sl x1, Kd.val .sl x2] false .bool h K) k1 m2 r3 h Q) :
    CallT Try.prog 58 [Kd.val .ptr k1, Kd.val .ptr m2, Kd.val .ptr r3] false .bool h Q :=
  fn_sound2 (c := weave (Try.f58.body.getD .skip) law21_Kept_asked.mk) Try.func58 (by kernel_rfl) Try.ntmps58 (rs := [.tmp 6]) (by kernel_rfl) [⟨.ptr, k1⟩, ⟨.ptr, m2⟩, ⟨.ptr, r3⟩] (by kernel_rfl) (by kernel_rfl) (by kernel_rfl) (by kernel_rfl) H

theorem law21_Kept_alone.br {k1 : Option Addr} {h : Heap} {Q : Bool → Heap → Prop} (H : law21_Kept_alone.M (fun x0 x1 h K => CallT Try.prog 32 [Kd.val .sl x0, Kd.val .sl x1] false .bool h K) (fun x0 x1 h K => CallT Try.prog 15 [Kd.val .sl x0, Kd.val .sl x1] false .bool h K) (fun x0 x1 h K => CallT Try.prog 17 [Kd.val .sl x0, Kd.val .sl x1] false .bool h K) (fun x0 x1 x2 x3 h K => CallT Try.prog 55 [Kd.val .ptr x0, Kd.val .sl x1, Kd.val .sl x2, Kd.val .sl x3] true .nil h K) (fun x0 h K => CallT Try.prog 14 [Kd.val .ptr x0] false .bool h K) k1 h Q) :
    CallT Try.prog 59 [Kd.val .ptr k1] false .bool h Q :=
  fn_sound2 (c := weave (Try.f59.body.getD .skip) law21_Kept_alone.mk) Try.func59 (by kernel_rfl) Try.ntmps59 (rs := [.tmp 2]) (by kernel_rfl) [⟨.ptr, k1⟩] (by kernel_rfl) (by kernel_rfl) (by kernel_rfl) (by kernel_rfl) H

theorem buffers_Memory_has.br {m1 : Option Addr} {actor2 : Int} {h : Heap} {Q : Bool → Heap → Prop} (H : buffers_Memory_has.M  m1 actor2 h Q) :
    CallT Try.prog 75 [Kd.val .ptr m1, Kd.val (.int .i64) actor2] false .bool h Q :=
  fn_sound2 (c := weave (Try.f75.body.getD .skip) buffers_Memory_has.mk) Try.func75 (by kernel_rfl) Try.ntmps75 (rs := [.tmp 4]) (by kernel_rfl) [⟨.ptr, m1⟩, ⟨(.int .i64), actor2⟩] (by kernel_rfl) (by kernel_rfl) (by kernel_rfl) (by kernel_rfl) H

theorem cells_Arena_Who.br {a1 : Option Addr} {actor2 : Int} {h : Heap} {Q : Unit → Heap → Prop} (H : cells_Arena_Who.M  a1 actor2 h Q) :
    CallT Try.prog 76 [Kd.val .ptr a1, Kd.val (.int .i64) actor2] true .nil h Q :=
  fn_sound2 (c := weave (Try.f76.body.getD .skip) cells_Arena_Who.mk) Try.func76 (by kernel_rfl) Try.ntmps76 (rs := []) (by kernel_rfl) [⟨.ptr, a1⟩, ⟨(.int .i64), actor2⟩] (by kernel_rfl) (by kernel_rfl) (by kernel_rfl) (by kernel_rfl) H

theorem cells_Arena_Store.br {a1 : Option Addr} {addr2 : Int} {v3 : Int} {h : Heap} {Q : Int → Heap → Prop} (H : cells_Arena_Store.M (fun x0 x1 h K => CallT Try.prog 93 [Kd.val .ptr x0, Kd.val (.int .i64) x1] false .bool h K) (fun x0 x1 x2 x3 x4 x5 h K => CallT Try.prog 94 [Kd.val .ptr x0, Kd.val (.int .i64) x1, Kd.val (.int .i64) x2, Kd.val (.int .i64) x3, Kd.val (.int .i64) x4, Kd.val .bool x5] true .nil h K) a1 addr2 v3 h Q) :
    CallT Try.prog 77 [Kd.val .ptr a1, Kd.val (.int .i64) addr2, Kd.val (.int .i64) v3] false (.int .i64) h Q :=
  fn_sound2 (c := weave (Try.f77.body.getD .skip) cells_Arena_Store.mk) Try.func77 (by kernel_rfl) Try.ntmps77 (rs := [.tmp 6]) (by kernel_rfl) [⟨.ptr, a1⟩, ⟨(.int .i64), addr2⟩, ⟨(.int .i64), v3⟩] (by kernel_rfl) (by kernel_rfl) (by kernel_rfl) (by kernel_rfl) H

theorem buffers_Memory_drain.br {m1 : Option Addr} {actor2 : Int} {h : Heap} {Q : Unit → Heap → Prop} (H : buffers_Memory_drain.M (fun x0 x1 h K => CallT Try.prog 40 [Kd.val .ptr x0, Kd.val (.int .i64) x1] false .bool h K) m1 actor2 h Q) :
    CallT Try.prog 78 [Kd.val .ptr m1, Kd.val (.int .i64) actor2] true .nil h Q :=
  fn_sound2 (c := weave (Try.f78.body.getD .skip) buffers_Memory_drain.mk) Try.func78 (by kernel_rfl) Try.ntmps78 (rs := []) (by kernel_rfl) [⟨.ptr, m1⟩, ⟨(.int .i64), actor2⟩] (by kernel_rfl) (by kernel_rfl) (by kernel_rfl) (by kernel_rfl) H

theorem buffers_View_none.br {v1 : Option Addr} {addr2 : Int} {h : Heap} {Q : Bool → Heap → Prop} (H : buffers_View_none.M (fun x0 h K => CallT Try.prog 85 [Kd.val .ptr x0] false (.int .i64) h K) v1 addr2 h Q) :
    CallT Try.prog 79 [Kd.val .ptr v1, Kd.val (.int .i64) addr2] false .bool h Q :=
  fn_sound2 (c := weave (Try.f79.body.getD .skip) buffers_View_none.mk) Try.func79 (by kernel_rfl) Try.ntmps79 (rs := [.tmp 4]) (by kernel_rfl) [⟨.ptr, v1⟩, ⟨(.int .i64), addr2⟩] (by kernel_rfl) (by kernel_rfl) (by kernel_rfl) (by kernel_rfl) H

theorem buffers_place_cells.br {p1 : Den kbuffersplace} {h : Heap} {Q : Option Addr → Heap → Prop} (H : buffers_place_cells.M (fun x0 x1 h K => CallT Try.prog 76 [Kd.val .ptr x0, Kd.val (.int .i64) x1] true .nil h K) p1 h Q) :
    CallT Try.prog 80 [Kd.val kbuffersplace p1] false .ptr h Q :=
  fn_sound2 (c := weave (Try.f80.body.getD .skip) buffers_place_cells.mk) Try.func80 (by kernel_rfl) Try.ntmps80 (rs := [.tmp 2]) (by kernel_rfl) [⟨kbuffersplace, p1⟩] (by kernel_rfl) (by kernel_rfl) (by kernel_rfl) (by kernel_rfl) H

theorem cells_Arena_Load.br {a1 : Option Addr} {addr2 : Int} {h : Heap} {Q : Den kapiWait → Heap → Prop} (H : cells_Arena_Load.M (fun x0 x1 h K => CallT Try.prog 93 [Kd.val .ptr x0, Kd.val (.int .i64) x1] false .bool h K) (fun x0 x1 x2 x3 x4 x5 h K => CallT Try.prog 94 [Kd.val .ptr x0, Kd.val (.int .i64) x1, Kd.val (.int .i64) x2, Kd.val (.int .i64) x3, Kd.val (.int .i64) x4, Kd.val .bool x5] true .nil h K) a1 addr2 h Q) :
    CallT Try.prog 81 [Kd.val .ptr a1, Kd.val (.int .i64) addr2] true kapiWait h Q :=
  fn_sound2 (c := weave (Try.f81.body.getD .skip) cells_Arena_Load.mk) Try.func81 (by kernel_rfl) Try.ntmps81 (rs := [.tmp 4, .tmp 5]) (by kernel_rfl) [⟨.ptr, a1⟩, ⟨(.int .i64), addr2⟩] (by kernel_rfl) (by kernel_rfl) (by kernel_rfl) (by kernel_rfl) H

theorem cells_Arena_CAS.br {a1 : Option Addr} {addr2 : Int} {old3 : Int} {next4 : Int} {h : Heap} {Q : (Bool × (Int × Unit)) → Heap → Prop} (H : cells_Arena_CAS.M (fun x0 x1 h K => CallT Try.prog 93 [Kd.val .ptr x0, Kd.val (.int .i64) x1] false .bool h K) (fun x0 x1 x2 x3 x4 x5 h K => CallT Try.prog 94 [Kd.val .ptr x0, Kd.val (.int .i64) x1, Kd.val (.int .i64) x2, Kd.val (.int .i64) x3, Kd.val (.int .i64) x4, Kd.val .bool x5] true .nil h K) a1 addr2 old3 next4 h Q) :
    CallT Try.prog 82 [Kd.val .ptr a1, Kd.val (.int .i64) addr2, Kd.val (.int .i64) old3, Kd.val (.int .i64) next4] true (.pair .bool (.pair (.int .i64) .nil)) h Q :=
  fn_sound2 (c := weave (Try.f82.body.getD .skip) cells_Arena_CAS.mk) Try.func82 (by kernel_rfl) Try.ntmps82 (rs := [.tmp 8, .tmp 9]) (by kernel_rfl) [⟨.ptr, a1⟩, ⟨(.int .i64), addr2⟩, ⟨(.int .i64), old3⟩, ⟨(.int .i64), next4⟩] (by kernel_rfl) (by kernel_rfl) (by kernel_rfl) (by kernel_rfl) H

theorem cells_Arena_Add.br {a1 : Option Addr} {addr2 : Int} {d3 : Int} {h : Heap} {Q : Den kapiWait → Heap → Prop} (H : cells_Arena_Add.M (fun x0 x1 h K => CallT Try.prog 93 [Kd.val .ptr x0, Kd.val (.int .i64) x1] false .bool h K) (fun x0 x1 x2 x3 x4 x5 h K => CallT Try.prog 94 [Kd.val .ptr x0, Kd.val (.int .i64) x1, Kd.val (.int .i64) x2, Kd.val (.int .i64) x3, Kd.val (.int .i64) x4, Kd.val .bool x5] true .nil h K) a1 addr2 d3 h Q) :
    CallT Try.prog 83 [Kd.val .ptr a1, Kd.val (.int .i64) addr2, Kd.val (.int .i64) d3] true kapiWait h Q :=
  fn_sound2 (c := weave (Try.f83.body.getD .skip) cells_Arena_Add.mk) Try.func83 (by kernel_rfl) Try.ntmps83 (rs := [.tmp 6, .tmp 7]) (by kernel_rfl) [⟨.ptr, a1⟩, ⟨(.int .i64), addr2⟩, ⟨(.int .i64), d3⟩] (by kernel_rfl) (by kernel_rfl) (by kernel_rfl) (by kernel_rfl) H

theorem cells_Arena_Size.br {a1 : Option Addr} {h : Heap} {Q : Int → Heap → Prop} (H : cells_Arena_Size.M (fun x0 h K => CallT Try.prog 95 [Kd.val .ptr x0] false (.int .i64) h K) a1 h Q) :
    CallT Try.prog 84 [Kd.val .ptr a1] false (.int .i64) h Q :=
  fn_sound2 (c := weave (Try.f84.body.getD .skip) cells_Arena_Size.mk) Try.func84 (by kernel_rfl) Try.ntmps84 (rs := [.tmp 2]) (by kernel_rfl) [⟨.ptr, a1⟩] (by kernel_rfl) (by kernel_rfl) (by kernel_rfl) (by kernel_rfl) H

theorem cells_Arena_Mark.br {a1 : Option Addr} {h : Heap} {Q : Int → Heap → Prop} (H : cells_Arena_Mark.M (fun x0 h K => CallT Try.prog 96 [Kd.val .ptr x0] false (.int .i64) h K) a1 h Q) :
    CallT Try.prog 85 [Kd.val .ptr a1] false (.int .i64) h Q :=
  fn_sound2 (c := weave (Try.f85.body.getD .skip) cells_Arena_Mark.mk) Try.func85 (by kernel_rfl) Try.ntmps85 (rs := [.tmp 2]) (by kernel_rfl) [⟨.ptr, a1⟩] (by kernel_rfl) (by kernel_rfl) (by kernel_rfl) (by kernel_rfl) H

theorem cells_Arena_Reserve.br {a1 : Option Addr} {n2 : Int} {h : Heap} {Q : Den kapiWait → Heap → Prop} (H : cells_Arena_Reserve.M (fun x0 x1 h K => CallT Try.prog 97 [Kd.val .ptr x0, Kd.val (.int .i64) x1] false (.int .i64) h K) (fun x0 x1 h K => CallT Try.prog 98 [Kd.val .ptr x0, Kd.val (.int .i64) x1] false (.int .i64) h K) (fun x0 x1 x2 x3 x4 x5 h K => CallT Try.prog 94 [Kd.val .ptr x0, Kd.val (.int .i64) x1, Kd.val (.int .i64) x2, Kd.val (.int .i64) x3, Kd.val (.int .i64) x4, Kd.val .bool x5] true .nil h K) a1 n2 h Q) :
    CallT Try.prog 86 [Kd.val .ptr a1, Kd.val (.int .i64) n2] true kapiWait h Q :=
  fn_sound2 (c := weave (Try.f86.body.getD .skip) cells_Arena_Reserve.mk) Try.func86 (by kernel_rfl) Try.ntmps86 (rs := [.tmp 4, .tmp 5]) (by kernel_rfl) [⟨.ptr, a1⟩, ⟨(.int .i64), n2⟩] (by kernel_rfl) (by kernel_rfl) (by kernel_rfl) (by kernel_rfl) H

theorem cells_good.br {size1 : Int} {h : Heap} {Q : Bool → Heap → Prop} (H : cells_good.M  size1 h Q) :
    CallT Try.prog 87 [Kd.val (.int .i64) size1] false .bool h Q :=
  fn_sound2 (c := weave (Try.f87.body.getD .skip) cells_good.mk) Try.func87 (by kernel_rfl) Try.ntmps87 (rs := [.tmp 2]) (by kernel_rfl) [⟨(.int .i64), size1⟩] (by kernel_rfl) (by kernel_rfl) (by kernel_rfl) (by kernel_rfl) H

theorem ref21_Memory_refused.br {m1 : Option Addr} {x2 : Den klaw21Move} {h : Heap} {Q : Int → Heap → Prop} (H : ref21_Memory_refused.M (fun x0 x1 h K => CallT Try.prog 99 [Kd.val .ptr x0, Kd.val (.int .i64) x1] false .bool h K) m1 x2 h Q) :
    CallT Try.prog 88 [Kd.val .ptr m1, Kd.val klaw21Move x2] false (.int .i64) h Q :=
  fn_sound2 (c := weave (Try.f88.body.getD .skip) ref21_Memory_refused.mk) Try.func88 (by kernel_rfl) Try.ntmps88 (rs := [.tmp 4]) (by kernel_rfl) [⟨.ptr, m1⟩, ⟨klaw21Move, x2⟩] (by kernel_rfl) (by kernel_rfl) (by kernel_rfl) (by kernel_rfl) H

theorem ref2_Arena_Do.br {a1 : Option Addr} {x2 : Den klaw21Move} {h : Heap} {Q : Den kapiEffect → Heap → Prop} (H : ref2_Arena_Do.M (fun x0 h K => CallT Try.prog 100 [Kd.val (.int .i64) x0] false kapiEffect h K) (fun x0 x1 h K => CallT Try.prog 101 [Kd.val .ptr x0, Kd.val (.int .i64) x1] false kapiEffect h K) (fun x0 x1 h K => CallT Try.prog 102 [Kd.val .ptr x0, Kd.val kapiAccess x1] true .nil h K) a1 x2 h Q) :
    CallT Try.prog 89 [Kd.val .ptr a1, Kd.val klaw21Move x2] false kapiEffect h Q :=
  fn_sound2 (c := weave (Try.f89.body.getD .skip) ref2_Arena_Do.mk) Try.func89 (by kernel_rfl) Try.ntmps89 (rs := [.cell 4 90]) (by kernel_rfl) [⟨.ptr, a1⟩, ⟨klaw21Move, x2⟩] (by kernel_rfl) (by kernel_rfl) (by kernel_rfl) (by kernel_rfl) H

theorem law21_Kept_waits.br {k1 : Option Addr} {l2 : Sl} {want3 : Sl} {h : Heap} {Q : Bool → Heap → Prop} (H : law21_Kept_waits.M (fun x0 x1 h K => CallT Try.prog 32 [Kd.val .sl x0, Kd.val .sl x1] false .bool h K) k1 l2 want3 h Q) :
    CallT Try.prog 90 [Kd.val .ptr k1, Kd.val .sl l2, Kd.val .sl want3] false .bool h Q :=
  fn_sound2 (c := weave (Try.f90.body.getD .skip) law21_Kept_waits.mk) Try.func90 (by kernel_rfl) Try.ntmps90 (rs := [.tmp 6]) (by kernel_rfl) [⟨.ptr, k1⟩, ⟨.sl, l2⟩, ⟨.sl, want3⟩] (by kernel_rfl) (by kernel_rfl) (by kernel_rfl) (by kernel_rfl) H

theorem law21_Kept_numbers.br {k1 : Option Addr} {l2 : Sl} {want3 : Sl} {h : Heap} {Q : Bool → Heap → Prop} (H : law21_Kept_numbers.M (fun x0 x1 h K => CallT Try.prog 15 [Kd.val .sl x0, Kd.val .sl x1] false .bool h K) k1 l2 want3 h Q) :
    CallT Try.prog 91 [Kd.val .ptr k1, Kd.val .sl l2, Kd.val .sl want3] false .bool h Q :=
  fn_sound2 (c := weave (Try.f91.body.getD .skip) law21_Kept_numbers.mk) Try.func91 (by kernel_rfl) Try.ntmps91 (rs := [.tmp 6]) (by kernel_rfl) [⟨.ptr, k1⟩, ⟨.sl, l2⟩, ⟨.sl, want3⟩] (by kernel_rfl) (by kernel_rfl) (by kernel_rfl) (by kernel_rfl) H

theorem law21_Kept_accesses.br {k1 : Option Addr} {l2 : Sl} {want3 : Sl} {h : Heap} {Q : Bool → Heap → Prop} (H : law21_Kept_accesses.M (fun x0 x1 h K => CallT Try.prog 17 [Kd.val .sl x0, Kd.val .sl x1] false .bool h K) k1 l2 want3 h Q) :
    CallT Try.prog 92 [Kd.val .ptr k1, Kd.val .sl l2, Kd.val .sl want3] false .bool h Q :=
  fn_sound2 (c := weave (Try.f92.body.getD .skip) law21_Kept_accesses.mk) Try.func92 (by kernel_rfl) Try.ntmps92 (rs := [.tmp 6]) (by kernel_rfl) [⟨.ptr, k1⟩, ⟨.sl, l2⟩, ⟨.sl, want3⟩] (by kernel_rfl) (by kernel_rfl) (by kernel_rfl) (by kernel_rfl) H

theorem cells_Arena_outside.br {a1 : Option Addr} {addr2 : Int} {h : Heap} {Q : Bool → Heap → Prop} (H : cells_Arena_outside.M (fun x0 x1 h K => CallT Try.prog 103 [Kd.val .ptr x0, Kd.val (.int .i64) x1] false .bool h K) a1 addr2 h Q) :
    CallT Try.prog 93 [Kd.val .ptr a1, Kd.val (.int .i64) addr2] false .bool h Q :=
  fn_sound2 (c := weave (Try.f93.body.getD .skip) cells_Arena_outside.mk) Try.func93 (by kernel_rfl) Try.ntmps93 (rs := [.tmp 4]) (by kernel_rfl) [⟨.ptr, a1⟩, ⟨(.int .i64), addr2⟩] (by kernel_rfl) (by kernel_rfl) (by kernel_rfl) (by kernel_rfl) H

theorem cells_Arena_note.br {a1 : Option Addr} {kind2 : Int} {addr3 : Int} {x4 : Int} {y5 : Int} {ok6 : Bool} {h : Heap} {Q : Unit → Heap → Prop} (H : cells_Arena_note.M  a1 kind2 addr3 x4 y5 ok6 h Q) :
    CallT Try.prog 94 [Kd.val .ptr a1, Kd.val (.int .i64) kind2, Kd.val (.int .i64) addr3, Kd.val (.int .i64) x4, Kd.val (.int .i64) y5, Kd.val .bool ok6] true .nil h Q :=
  fn_sound2 (c := weave (Try.f94.body.getD .skip) cells_Arena_note.mk) Try.func94 (by kernel_rfl) Try.ntmps94 (rs := []) (by kernel_rfl) [⟨.ptr, a1⟩, ⟨(.int .i64), kind2⟩, ⟨(.int .i64), addr3⟩, ⟨(.int .i64), x4⟩, ⟨(.int .i64), y5⟩, ⟨.bool, ok6⟩] (by kernel_rfl) (by kernel_rfl) (by kernel_rfl) (by kernel_rfl) H

theorem cells_ledger_Size.br {l1 : Option Addr} {h : Heap} {Q : Int → Heap → Prop} (H : cells_ledger_Size.M  l1 h Q) :
    CallT Try.prog 95 [Kd.val .ptr l1] false (.int .i64) h Q :=
  fn_sound2 (c := weave (Try.f95.body.getD .skip) cells_ledger_Size.mk) Try.func95 (by kernel_rfl) Try.ntmps95 (rs := [.tmp 2]) (by kernel_rfl) [⟨.ptr, l1⟩] (by kernel_rfl) (by kernel_rfl) (by kernel_rfl) (by kernel_rfl) H

theorem cells_ledger_Mark.br {l1 : Option Addr} {h : Heap} {Q : Int → Heap → Prop} (H : cells_ledger_Mark.M  l1 h Q) :
    CallT Try.prog 96 [Kd.val .ptr l1] false (.int .i64) h Q :=
  fn_sound2 (c := weave (Try.f96.body.getD .skip) cells_ledger_Mark.mk) Try.func96 (by kernel_rfl) Try.ntmps96 (rs := [.tmp 2]) (by kernel_rfl) [⟨.ptr, l1⟩] (by kernel_rfl) (by kernel_rfl) (by kernel_rfl) (by kernel_rfl) H

theorem cells_ledger_refuse.br {l1 : Option Addr} {n2 : Int} {h : Heap} {Q : Int → Heap → Prop} (H : cells_ledger_refuse.M  l1 n2 h Q) :
    CallT Try.prog 97 [Kd.val .ptr l1, Kd.val (.int .i64) n2] false (.int .i64) h Q :=
  fn_sound2 (c := weave (Try.f97.body.getD .skip) cells_ledger_refuse.mk) Try.func97 (by kernel_rfl) Try.ntmps97 (rs := [.tmp 4]) (by kernel_rfl) [⟨.ptr, l1⟩, ⟨(.int .i64), n2⟩] (by kernel_rfl) (by kernel_rfl) (by kernel_rfl) (by kernel_rfl) H

theorem cells_ledger_take.br {l1 : Option Addr} {n2 : Int} {h : Heap} {Q : Int → Heap → Prop} (H : cells_ledger_take.M  l1 n2 h Q) :
    CallT Try.prog 98 [Kd.val .ptr l1, Kd.val (.int .i64) n2] false (.int .i64) h Q :=
  fn_sound2 (c := weave (Try.f98.body.getD .skip) cells_ledger_take.mk) Try.func98 (by kernel_rfl) Try.ntmps98 (rs := [.tmp 4]) (by kernel_rfl) [⟨.ptr, l1⟩, ⟨(.int .i64), n2⟩] (by kernel_rfl) (by kernel_rfl) (by kernel_rfl) (by kernel_rfl) H

theorem ref21_Memory_inUse.br {m1 : Option Addr} {addr2 : Int} {h : Heap} {Q : Bool → Heap → Prop} (H : ref21_Memory_inUse.M  m1 addr2 h Q) :
    CallT Try.prog 99 [Kd.val .ptr m1, Kd.val (.int .i64) addr2] false .bool h Q :=
  fn_sound2 (c := weave (Try.f99.body.getD .skip) ref21_Memory_inUse.mk) Try.func99 (by kernel_rfl) Try.ntmps99 (rs := [.tmp 4]) (by kernel_rfl) [⟨.ptr, m1⟩, ⟨(.int .i64), addr2⟩] (by kernel_rfl) (by kernel_rfl) (by kernel_rfl) (by kernel_rfl) H

theorem ref2_refused.br {e1 : Int} {h : Heap} {Q : Den kapiEffect → Heap → Prop} (H : ref2_refused.M  e1 h Q) :
    CallT Try.prog 100 [Kd.val (.int .i64) e1] false kapiEffect h Q :=
  fn_sound2 (c := weave (Try.f100.body.getD .skip) ref2_refused.mk) Try.func100 (by kernel_rfl) Try.ntmps100 (rs := [.cell 2 90]) (by kernel_rfl) [⟨(.int .i64), e1⟩] (by kernel_rfl) (by kernel_rfl) (by kernel_rfl) (by kernel_rfl) H

theorem ref2_Arena_reserve.br {a1 : Option Addr} {n2 : Int} {h : Heap} {Q : Den kapiEffect → Heap → Prop} (H : ref2_Arena_reserve.M (fun x0 h K => CallT Try.prog 100 [Kd.val (.int .i64) x0] false kapiEffect h K) (fun x0 x1 h K => CallT Try.prog 102 [Kd.val .ptr x0, Kd.val kapiAccess x1] true .nil h K) a1 n2 h Q) :
    CallT Try.prog 101 [Kd.val .ptr a1, Kd.val (.int .i64) n2] false kapiEffect h Q :=
  fn_sound2 (c := weave (Try.f101.body.getD .skip) ref2_Arena_reserve.mk) Try.func101 (by kernel_rfl) Try.ntmps101 (rs := [.cell 4 90]) (by kernel_rfl) [⟨.ptr, a1⟩, ⟨(.int .i64), n2⟩] (by kernel_rfl) (by kernel_rfl) (by kernel_rfl) (by kernel_rfl) H

theorem ref2_Arena_note.br {a1 : Option Addr} {x2 : Den kapiAccess} {h : Heap} {Q : Unit → Heap → Prop} (H : ref2_Arena_note.M  a1 x2 h Q) :
    CallT Try.prog 102 [Kd.val .ptr a1, Kd.val kapiAccess x2] true .nil h Q :=
  fn_sound2 (c := weave (Try.f102.body.getD .skip) ref2_Arena_note.mk) Try.func102 (by kernel_rfl) Try.ntmps102 (rs := []) (by kernel_rfl) [⟨.ptr, a1⟩, ⟨kapiAccess, x2⟩] (by kernel_rfl) (by kernel_rfl) (by kernel_rfl) (by kernel_rfl) H

theorem cells_ledger_has.br {l1 : Option Addr} {addr2 : Int} {h : Heap} {Q : Bool → Heap → Prop} (H : cells_ledger_has.M  l1 addr2 h Q) :
    CallT Try.prog 103 [Kd.val .ptr l1, Kd.val (.int .i64) addr2] false .bool h Q :=
  fn_sound2 (c := weave (Try.f103.body.getD .skip) cells_ledger_has.mk) Try.func103 (by kernel_rfl) Try.ntmps103 (rs := [.tmp 4]) (by kernel_rfl) [⟨.ptr, l1⟩, ⟨(.int .i64), addr2⟩] (by kernel_rfl) (by kernel_rfl) (by kernel_rfl) (by kernel_rfl) H

end Go.Mx
