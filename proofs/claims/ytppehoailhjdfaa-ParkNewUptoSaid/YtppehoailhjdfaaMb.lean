/-
  The bridges: a function's calls, by what it comes to over abstract heaps: printed by a program of this workplace.
-/
import Derived.Test.YtppehoailhjdfaaMd
import Derived.Test.YtppehoailhjdfaaProg
set_option linter.unusedVariables false
set_option maxRecDepth 100000
namespace Go.Mx
open Go.Proofs
theorem law9_ParkNew.br {size1 : Int} {begin2 : Sl} {workers3 : Int} {h : Heap} {Q : Bool → Heap → Prop} (H : law9_ParkNew.M (fun x0 x1 h K => CallT Try.prog 9 [Kd.val (.int .i64) x0, Kd.val (.int .i64) x1] false (.int .i64) h K) (fun x0 x1 h K => CallT Try.prog 10 [Kd.val (.int .i64) x0, Kd.val .sl x1] true (.pair .ptr (.pair .bool .nil)) h K) (fun x0 x1 h K => CallT Try.prog 11 [Kd.val .iface x0, Kd.val (.int .i64) x1] true (.pair kparkLot (.pair (.int .i64) .nil)) h K) (fun x0 x1 h K => CallT Try.prog 12 [Kd.val .ptr x0, Kd.val (.int .i64) x1] true (.pair kparkLot (.pair (.int .i64) .nil)) h K) (fun x0 h K => CallT Try.prog 14 [Kd.val .ptr x0] false .sl h K) (fun x0 x1 h K => CallT Try.prog 13 [Kd.val .sl x0, Kd.val .sl x1] false .bool h K) (fun x0 h K => CallT Try.prog 16 [Kd.val .ptr x0] false .sl h K) (fun x0 x1 h K => CallT Try.prog 15 [Kd.val .sl x0, Kd.val .sl x1] false .bool h K) (fun x0 h K => CallT Try.prog 17 [Kd.val (.int .i64) x0] false (.int .i64) h K) (fun x0 h K => CallT Try.prog 18 [Kd.val (.int .i64) x0] false (.int .i64) h K) size1 begin2 workers3 h Q) :
    CallT Try.prog 3 [Kd.val (.int .i64) size1, Kd.val .sl begin2, Kd.val (.int .i64) workers3] false .bool h Q :=
  fn_sound (c := weave (Try.f3.body.getD .skip) law9_ParkNew.mk) Try.func3 (by kernel_rfl) Try.ntmps3 (rs := [.tmp 6]) (by kernel_rfl) [⟨(.int .i64), size1⟩, ⟨.sl, begin2⟩, ⟨(.int .i64), workers3⟩] (by kernel_rfl) (by kernel_rfl)
    (Eq.mp (show (law9_ParkNew.M (fun x0 x1 h K => CallT Try.prog 9 [Kd.val (.int .i64) x0, Kd.val (.int .i64) x1] false (.int .i64) h K) (fun x0 x1 h K => CallT Try.prog 10 [Kd.val (.int .i64) x0, Kd.val .sl x1] true (.pair .ptr (.pair .bool .nil)) h K) (fun x0 x1 h K => CallT Try.prog 11 [Kd.val .iface x0, Kd.val (.int .i64) x1] true (.pair kparkLot (.pair (.int .i64) .nil)) h K) (fun x0 x1 h K => CallT Try.prog 12 [Kd.val .ptr x0, Kd.val (.int .i64) x1] true (.pair kparkLot (.pair (.int .i64) .nil)) h K) (fun x0 h K => CallT Try.prog 14 [Kd.val .ptr x0] false .sl h K) (fun x0 x1 h K => CallT Try.prog 13 [Kd.val .sl x0, Kd.val .sl x1] false .bool h K) (fun x0 h K => CallT Try.prog 16 [Kd.val .ptr x0] false .sl h K) (fun x0 x1 h K => CallT Try.prog 15 [Kd.val .sl x0, Kd.val .sl x1] false .bool h K) (fun x0 h K => CallT Try.prog 17 [Kd.val (.int .i64) x0] false (.int .i64) h K) (fun x0 h K => CallT Try.prog 18 [Kd.val (.int .i64) x0] false (.int .i64) h K) size1 begin2 workers3 h Q) = interp Try.prog 111 (weave (Try.f3.body.getD .skip) law9_ParkNew.mk) [] (rho0 [⟨(.int .i64), size1⟩, ⟨.sl, begin2⟩, ⟨(.int .i64), workers3⟩]) [] h (retK Try.prog [.tmp 6] false .bool Q) (fun _ _ _ _ => False) (retK Try.prog [.tmp 6] false .bool Q) from by kernel_rfl) H)

theorem law9_mod.br {x1 : Int} {n2 : Int} {h : Heap} {Q : Int → Heap → Prop} (H : law9_mod.M  x1 n2 h Q) :
    CallT Try.prog 9 [Kd.val (.int .i64) x1, Kd.val (.int .i64) n2] false (.int .i64) h Q :=
  fn_sound (c := weave (Try.f9.body.getD .skip) law9_mod.mk) Try.func9 (by kernel_rfl) Try.ntmps9 (rs := [.tmp 4]) (by kernel_rfl) [⟨(.int .i64), x1⟩, ⟨(.int .i64), n2⟩] (by kernel_rfl) (by kernel_rfl)
    (Eq.mp (show (law9_mod.M  x1 n2 h Q) = interp Try.prog 15 (weave (Try.f9.body.getD .skip) law9_mod.mk) [] (rho0 [⟨(.int .i64), x1⟩, ⟨(.int .i64), n2⟩]) [] h (retK Try.prog [.tmp 4] false (.int .i64) Q) (fun _ _ _ _ => False) (retK Try.prog [.tmp 4] false (.int .i64) Q) from by kernel_rfl) H)

theorem law9_arena.br {size1 : Int} {begin2 : Sl} {h : Heap} {Q : (Option Addr × (Bool × Unit)) → Heap → Prop} (H : law9_arena.M (fun x0 h K => CallT Try.prog 33 [Kd.val (.int .i64) x0] true (.pair .ptr (.pair (.int .i64) .nil)) h K) (fun x0 x1 h K => CallT Try.prog 52 [Kd.val .ptr x0, Kd.val (.int .i64) x1] true kparkLot h K) (fun x0 x1 x2 h K => CallT Try.prog 53 [Kd.val .ptr x0, Kd.val (.int .i64) x1, Kd.val (.int .i64) x2] false (.int .i64) h K) (fun x0 x1 h K => CallT Try.prog 54 [Kd.val .ptr x0, Kd.val .bool x1] true .nil h K) size1 begin2 h Q) :
    CallT Try.prog 10 [Kd.val (.int .i64) size1, Kd.val .sl begin2] true (.pair .ptr (.pair .bool .nil)) h Q :=
  fn_sound (c := weave (Try.f10.body.getD .skip) law9_arena.mk) Try.func10 (by kernel_rfl) Try.ntmps10 (rs := [.tmp 4, .tmp 5]) (by kernel_rfl) [⟨(.int .i64), size1⟩, ⟨.sl, begin2⟩] (by kernel_rfl) (by kernel_rfl)
    (Eq.mp (show (law9_arena.M (fun x0 h K => CallT Try.prog 33 [Kd.val (.int .i64) x0] true (.pair .ptr (.pair (.int .i64) .nil)) h K) (fun x0 x1 h K => CallT Try.prog 52 [Kd.val .ptr x0, Kd.val (.int .i64) x1] true kparkLot h K) (fun x0 x1 x2 h K => CallT Try.prog 53 [Kd.val .ptr x0, Kd.val (.int .i64) x1, Kd.val (.int .i64) x2] false (.int .i64) h K) (fun x0 x1 h K => CallT Try.prog 54 [Kd.val .ptr x0, Kd.val .bool x1] true .nil h K) size1 begin2 h Q) = interp Try.prog 57 (weave (Try.f10.body.getD .skip) law9_arena.mk) [] (rho0 [⟨(.int .i64), size1⟩, ⟨.sl, begin2⟩]) [] h (retK Try.prog [.tmp 4, .tmp 5] true (.pair .ptr (.pair .bool .nil)) Q) (fun _ _ _ _ => False) (retK Try.prog [.tmp 4, .tmp 5] true (.pair .ptr (.pair .bool .nil)) Q) from by kernel_rfl) H)

theorem park_New.br {m1 : Value} {workers2 : Int} {h : Heap} {Q : (Den kparkLot × (Int × Unit)) → Heap → Prop} (H : park_New.M (fun x0 h K => CallT Try.prog 17 [Kd.val (.int .i64) x0] false (.int .i64) h K) (fun x0 x1 h K => InvT Try.prog "Reserve" x0 [Kd.val (.int .i64) x1] true kparkLot h K) (NilT Try.prog) m1 workers2 h Q) :
    CallT Try.prog 11 [Kd.val .iface m1, Kd.val (.int .i64) workers2] true (.pair kparkLot (.pair (.int .i64) .nil)) h Q :=
  fn_sound (c := weave (Try.f11.body.getD .skip) park_New.mk) Try.func11 (by kernel_rfl) Try.ntmps11 (rs := [.cell 4 32, .tmp 5]) (by kernel_rfl) [⟨.iface, m1⟩, ⟨(.int .i64), workers2⟩] (by kernel_rfl) (by kernel_rfl)
    (Eq.mp (show (park_New.M (fun x0 h K => CallT Try.prog 17 [Kd.val (.int .i64) x0] false (.int .i64) h K) (fun x0 x1 h K => InvT Try.prog "Reserve" x0 [Kd.val (.int .i64) x1] true kparkLot h K) (NilT Try.prog) m1 workers2 h Q) = interp Try.prog 32 (weave (Try.f11.body.getD .skip) park_New.mk) [] (rho0 [⟨.iface, m1⟩, ⟨(.int .i64), workers2⟩]) [] h (retK Try.prog [.cell 4 32, .tmp 5] true (.pair kparkLot (.pair (.int .i64) .nil)) Q) (fun _ _ _ _ => False) (retK Try.prog [.cell 4 32, .tmp 5] true (.pair kparkLot (.pair (.int .i64) .nil)) Q) from by kernel_rfl) H)

theorem ref9_New.br {m1 : Option Addr} {workers2 : Int} {h : Heap} {Q : (Den kparkLot × (Int × Unit)) → Heap → Prop} (H : ref9_New.M (fun x0 x1 h K => CallT Try.prog 55 [Kd.val .ptr x0, Kd.val kref3Want x1] true (.pair (.int .i64) (.pair .bool .nil)) h K) m1 workers2 h Q) :
    CallT Try.prog 12 [Kd.val .ptr m1, Kd.val (.int .i64) workers2] true (.pair kparkLot (.pair (.int .i64) .nil)) h Q :=
  fn_sound (c := weave (Try.f12.body.getD .skip) ref9_New.mk) Try.func12 (by kernel_rfl) Try.ntmps12 (rs := [.cell 4 36, .tmp 5]) (by kernel_rfl) [⟨.ptr, m1⟩, ⟨(.int .i64), workers2⟩] (by kernel_rfl) (by kernel_rfl)
    (Eq.mp (show (ref9_New.M (fun x0 x1 h K => CallT Try.prog 55 [Kd.val .ptr x0, Kd.val kref3Want x1] true (.pair (.int .i64) (.pair .bool .nil)) h K) m1 workers2 h Q) = interp Try.prog 29 (weave (Try.f12.body.getD .skip) ref9_New.mk) [] (rho0 [⟨.ptr, m1⟩, ⟨(.int .i64), workers2⟩]) [] h (retK Try.prog [.cell 4 36, .tmp 5] true (.pair kparkLot (.pair (.int .i64) .nil)) Q) (fun _ _ _ _ => False) (retK Try.prog [.cell 4 36, .tmp 5] true (.pair kparkLot (.pair (.int .i64) .nil)) Q) from by kernel_rfl) H)

theorem law9_sameInts.br {a1 : Sl} {b2 : Sl} {h : Heap} {Q : Bool → Heap → Prop} (H : law9_sameInts.M  a1 b2 h Q) :
    CallT Try.prog 13 [Kd.val .sl a1, Kd.val .sl b2] false .bool h Q :=
  fn_sound (c := weave (Try.f13.body.getD .skip) law9_sameInts.mk) Try.func13 (by kernel_rfl) Try.ntmps13 (rs := [.tmp 4]) (by kernel_rfl) [⟨.sl, a1⟩, ⟨.sl, b2⟩] (by kernel_rfl) (by kernel_rfl)
    (Eq.mp (show (law9_sameInts.M  a1 b2 h Q) = interp Try.prog 26 (weave (Try.f13.body.getD .skip) law9_sameInts.mk) [] (rho0 [⟨.sl, a1⟩, ⟨.sl, b2⟩]) [] h (retK Try.prog [.tmp 4] false .bool Q) (fun _ _ _ _ => False) (retK Try.prog [.tmp 4] false .bool Q) from by kernel_rfl) H)

theorem cells_Arena_Cells.br {a1 : Option Addr} {h : Heap} {Q : Sl → Heap → Prop} (H : cells_Arena_Cells.M  a1 h Q) :
    CallT Try.prog 14 [Kd.val .ptr a1] false .sl h Q :=
  fn_sound (c := weave (Try.f14.body.getD .skip) cells_Arena_Cells.mk) Try.func14 (by kernel_rfl) Try.ntmps14 (rs := [.tmp 2]) (by kernel_rfl) [⟨.ptr, a1⟩] (by kernel_rfl) (by kernel_rfl)
    (Eq.mp (show (cells_Arena_Cells.M  a1 h Q) = interp Try.prog 19 (weave (Try.f14.body.getD .skip) cells_Arena_Cells.mk) [] (rho0 [⟨.ptr, a1⟩]) [] h (retK Try.prog [.tmp 2] false .sl Q) (fun _ _ _ _ => False) (retK Try.prog [.tmp 2] false .sl Q) from by kernel_rfl) H)

theorem law9_sameLog.br {a1 : Sl} {b2 : Sl} {h : Heap} {Q : Bool → Heap → Prop} (H : law9_sameLog.M  a1 b2 h Q) :
    CallT Try.prog 15 [Kd.val .sl a1, Kd.val .sl b2] false .bool h Q :=
  fn_sound (c := weave (Try.f15.body.getD .skip) law9_sameLog.mk) Try.func15 (by kernel_rfl) Try.ntmps15 (rs := [.tmp 4]) (by kernel_rfl) [⟨.sl, a1⟩, ⟨.sl, b2⟩] (by kernel_rfl) (by kernel_rfl)
    (Eq.mp (show (law9_sameLog.M  a1 b2 h Q) = interp Try.prog 26 (weave (Try.f15.body.getD .skip) law9_sameLog.mk) [] (rho0 [⟨.sl, a1⟩, ⟨.sl, b2⟩]) [] h (retK Try.prog [.tmp 4] false .bool Q) (fun _ _ _ _ => False) (retK Try.prog [.tmp 4] false .bool Q) from by kernel_rfl) H)

theorem cells_Arena_Log.br {a1 : Option Addr} {h : Heap} {Q : Sl → Heap → Prop} (H : cells_Arena_Log.M  a1 h Q) :
    CallT Try.prog 16 [Kd.val .ptr a1] false .sl h Q :=
  fn_sound (c := weave (Try.f16.body.getD .skip) cells_Arena_Log.mk) Try.func16 (by kernel_rfl) Try.ntmps16 (rs := [.tmp 2]) (by kernel_rfl) [⟨.ptr, a1⟩] (by kernel_rfl) (by kernel_rfl)
    (Eq.mp (show (cells_Arena_Log.M  a1 h Q) = interp Try.prog 19 (weave (Try.f16.body.getD .skip) cells_Arena_Log.mk) [] (rho0 [⟨.ptr, a1⟩]) [] h (retK Try.prog [.tmp 2] false .sl Q) (fun _ _ _ _ => False) (retK Try.prog [.tmp 2] false .sl Q) from by kernel_rfl) H)

theorem park_Cells.br {workers1 : Int} {h : Heap} {Q : Int → Heap → Prop} (H : park_Cells.M  workers1 h Q) :
    CallT Try.prog 17 [Kd.val (.int .i64) workers1] false (.int .i64) h Q :=
  fn_sound (c := weave (Try.f17.body.getD .skip) park_Cells.mk) Try.func17 (by kernel_rfl) Try.ntmps17 (rs := [.tmp 2]) (by kernel_rfl) [⟨(.int .i64), workers1⟩] (by kernel_rfl) (by kernel_rfl)
    (Eq.mp (show (park_Cells.M  workers1 h Q) = interp Try.prog 11 (weave (Try.f17.body.getD .skip) park_Cells.mk) [] (rho0 [⟨(.int .i64), workers1⟩]) [] h (retK Try.prog [.tmp 2] false (.int .i64) Q) (fun _ _ _ _ => False) (retK Try.prog [.tmp 2] false (.int .i64) Q) from by kernel_rfl) H)

theorem ref9_Cells.br {workers1 : Int} {h : Heap} {Q : Int → Heap → Prop} (H : ref9_Cells.M  workers1 h Q) :
    CallT Try.prog 18 [Kd.val (.int .i64) workers1] false (.int .i64) h Q :=
  fn_sound (c := weave (Try.f18.body.getD .skip) ref9_Cells.mk) Try.func18 (by kernel_rfl) Try.ntmps18 (rs := [.tmp 2]) (by kernel_rfl) [⟨(.int .i64), workers1⟩] (by kernel_rfl) (by kernel_rfl)
    (Eq.mp (show (ref9_Cells.M  workers1 h Q) = interp Try.prog 11 (weave (Try.f18.body.getD .skip) ref9_Cells.mk) [] (rho0 [⟨(.int .i64), workers1⟩]) [] h (retK Try.prog [.tmp 2] false (.int .i64) Q) (fun _ _ _ _ => False) (retK Try.prog [.tmp 2] false (.int .i64) Q) from by kernel_rfl) H)

theorem cells_Arena_Who.br {a1 : Option Addr} {actor2 : Int} {h : Heap} {Q : Unit → Heap → Prop} (H : cells_Arena_Who.M  a1 actor2 h Q) :
    CallT Try.prog 29 [Kd.val .ptr a1, Kd.val (.int .i64) actor2] true .nil h Q :=
  fn_sound (c := weave (Try.f29.body.getD .skip) cells_Arena_Who.mk) Try.func29 (by kernel_rfl) Try.ntmps29 (rs := []) (by kernel_rfl) [⟨.ptr, a1⟩, ⟨(.int .i64), actor2⟩] (by kernel_rfl) (by kernel_rfl)
    (Eq.mp (show (cells_Arena_Who.M  a1 actor2 h Q) = interp Try.prog 10 (weave (Try.f29.body.getD .skip) cells_Arena_Who.mk) [] (rho0 [⟨.ptr, a1⟩, ⟨(.int .i64), actor2⟩]) [] h (retK Try.prog [] true .nil Q) (fun _ _ _ _ => False) (retK Try.prog [] true .nil Q) from by kernel_rfl) H)

theorem cells_New.br {size1 : Int} {h : Heap} {Q : (Option Addr × (Int × Unit)) → Heap → Prop} (H : cells_New.M (fun x0 h K => CallT Try.prog 70 [Kd.val (.int .i64) x0] false .bool h K) size1 h Q) :
    CallT Try.prog 33 [Kd.val (.int .i64) size1] true (.pair .ptr (.pair (.int .i64) .nil)) h Q :=
  fn_sound (c := weave (Try.f33.body.getD .skip) cells_New.mk) Try.func33 (by kernel_rfl) Try.ntmps33 (rs := [.tmp 2, .tmp 3]) (by kernel_rfl) [⟨(.int .i64), size1⟩] (by kernel_rfl) (by kernel_rfl)
    (Eq.mp (show (cells_New.M (fun x0 h K => CallT Try.prog 70 [Kd.val (.int .i64) x0] false .bool h K) size1 h Q) = interp Try.prog 11 (weave (Try.f33.body.getD .skip) cells_New.mk) [] (rho0 [⟨(.int .i64), size1⟩]) [] h (retK Try.prog [.tmp 2, .tmp 3] true (.pair .ptr (.pair (.int .i64) .nil)) Q) (fun _ _ _ _ => False) (retK Try.prog [.tmp 2, .tmp 3] true (.pair .ptr (.pair (.int .i64) .nil)) Q) from by kernel_rfl) H)

theorem cells_Arena_Reserve.br {a1 : Option Addr} {n2 : Int} {h : Heap} {Q : Den kparkLot → Heap → Prop} (H : cells_Arena_Reserve.M (fun x0 x1 h K => CallT Try.prog 90 [Kd.val .ptr x0, Kd.val (.int .i64) x1] false (.int .i64) h K) (fun x0 x1 h K => CallT Try.prog 91 [Kd.val .ptr x0, Kd.val (.int .i64) x1] false (.int .i64) h K) (fun x0 x1 x2 x3 x4 x5 h K => CallT Try.prog 92 [Kd.val .ptr x0, Kd.val (.int .i64) x1, Kd.val (.int .i64) x2, Kd.val (.int .i64) x3, Kd.val (.int .i64) x4, Kd.val .bool x5] true .nil h K) a1 n2 h Q) :
    CallT Try.prog 52 [Kd.val .ptr a1, Kd.val (.int .i64) n2] true kparkLot h Q :=
  fn_sound (c := weave (Try.f52.body.getD .skip) cells_Arena_Reserve.mk) Try.func52 (by kernel_rfl) Try.ntmps52 (rs := [.tmp 4, .tmp 5]) (by kernel_rfl) [⟨.ptr, a1⟩, ⟨(.int .i64), n2⟩] (by kernel_rfl) (by kernel_rfl)
    (Eq.mp (show (cells_Arena_Reserve.M (fun x0 x1 h K => CallT Try.prog 90 [Kd.val .ptr x0, Kd.val (.int .i64) x1] false (.int .i64) h K) (fun x0 x1 h K => CallT Try.prog 91 [Kd.val .ptr x0, Kd.val (.int .i64) x1] false (.int .i64) h K) (fun x0 x1 x2 x3 x4 x5 h K => CallT Try.prog 92 [Kd.val .ptr x0, Kd.val (.int .i64) x1, Kd.val (.int .i64) x2, Kd.val (.int .i64) x3, Kd.val (.int .i64) x4, Kd.val .bool x5] true .nil h K) a1 n2 h Q) = interp Try.prog 37 (weave (Try.f52.body.getD .skip) cells_Arena_Reserve.mk) [] (rho0 [⟨.ptr, a1⟩, ⟨(.int .i64), n2⟩]) [] h (retK Try.prog [.tmp 4, .tmp 5] true kparkLot Q) (fun _ _ _ _ => False) (retK Try.prog [.tmp 4, .tmp 5] true kparkLot Q) from by kernel_rfl) H)

theorem cells_Arena_Store.br {a1 : Option Addr} {addr2 : Int} {v3 : Int} {h : Heap} {Q : Int → Heap → Prop} (H : cells_Arena_Store.M (fun x0 x1 h K => CallT Try.prog 93 [Kd.val .ptr x0, Kd.val (.int .i64) x1] false .bool h K) (fun x0 x1 x2 x3 x4 x5 h K => CallT Try.prog 92 [Kd.val .ptr x0, Kd.val (.int .i64) x1, Kd.val (.int .i64) x2, Kd.val (.int .i64) x3, Kd.val (.int .i64) x4, Kd.val .bool x5] true .nil h K) a1 addr2 v3 h Q) :
    CallT Try.prog 53 [Kd.val .ptr a1, Kd.val (.int .i64) addr2, Kd.val (.int .i64) v3] false (.int .i64) h Q :=
  fn_sound (c := weave (Try.f53.body.getD .skip) cells_Arena_Store.mk) Try.func53 (by kernel_rfl) Try.ntmps53 (rs := [.tmp 6]) (by kernel_rfl) [⟨.ptr, a1⟩, ⟨(.int .i64), addr2⟩, ⟨(.int .i64), v3⟩] (by kernel_rfl) (by kernel_rfl)
    (Eq.mp (show (cells_Arena_Store.M (fun x0 x1 h K => CallT Try.prog 93 [Kd.val .ptr x0, Kd.val (.int .i64) x1] false .bool h K) (fun x0 x1 x2 x3 x4 x5 h K => CallT Try.prog 92 [Kd.val .ptr x0, Kd.val (.int .i64) x1, Kd.val (.int .i64) x2, Kd.val (.int .i64) x3, Kd.val (.int .i64) x4, Kd.val .bool x5] true .nil h K) a1 addr2 v3 h Q) = interp Try.prog 21 (weave (Try.f53.body.getD .skip) cells_Arena_Store.mk) [] (rho0 [⟨.ptr, a1⟩, ⟨(.int .i64), addr2⟩, ⟨(.int .i64), v3⟩]) [] h (retK Try.prog [.tmp 6] false (.int .i64) Q) (fun _ _ _ _ => False) (retK Try.prog [.tmp 6] false (.int .i64) Q) from by kernel_rfl) H)

theorem cells_Arena_Watch.br {a1 : Option Addr} {on2 : Bool} {h : Heap} {Q : Unit → Heap → Prop} (H : cells_Arena_Watch.M  a1 on2 h Q) :
    CallT Try.prog 54 [Kd.val .ptr a1, Kd.val .bool on2] true .nil h Q :=
  fn_sound (c := weave (Try.f54.body.getD .skip) cells_Arena_Watch.mk) Try.func54 (by kernel_rfl) Try.ntmps54 (rs := []) (by kernel_rfl) [⟨.ptr, a1⟩, ⟨.bool, on2⟩] (by kernel_rfl) (by kernel_rfl)
    (Eq.mp (show (cells_Arena_Watch.M  a1 on2 h Q) = interp Try.prog 10 (weave (Try.f54.body.getD .skip) cells_Arena_Watch.mk) [] (rho0 [⟨.ptr, a1⟩, ⟨.bool, on2⟩]) [] h (retK Try.prog [] true .nil Q) (fun _ _ _ _ => False) (retK Try.prog [] true .nil Q) from by kernel_rfl) H)

theorem ref3_Mem_Do.br {m1 : Option Addr} {w2 : Den kref3Want} {h : Heap} {Q : (Int × (Bool × Unit)) → Heap → Prop} (H : ref3_Mem_Do.M  m1 w2 h Q) :
    CallT Try.prog 55 [Kd.val .ptr m1, Kd.val kref3Want w2] true (.pair (.int .i64) (.pair .bool .nil)) h Q :=
  fn_sound (c := weave (Try.f55.body.getD .skip) ref3_Mem_Do.mk) Try.func55 (by kernel_rfl) Try.ntmps55 (rs := [.tmp 4, .tmp 5]) (by kernel_rfl) [⟨.ptr, m1⟩, ⟨kref3Want, w2⟩] (by kernel_rfl) (by kernel_rfl)
    (Eq.mp (show (ref3_Mem_Do.M  m1 w2 h Q) = interp Try.prog 180 (weave (Try.f55.body.getD .skip) ref3_Mem_Do.mk) [] (rho0 [⟨.ptr, m1⟩, ⟨kref3Want, w2⟩]) [] h (retK Try.prog [.tmp 4, .tmp 5] true (.pair (.int .i64) (.pair .bool .nil)) Q) (fun _ _ _ _ => False) (retK Try.prog [.tmp 4, .tmp 5] true (.pair (.int .i64) (.pair .bool .nil)) Q) from by kernel_rfl) H)

theorem cells_good.br {size1 : Int} {h : Heap} {Q : Bool → Heap → Prop} (H : cells_good.M  size1 h Q) :
    CallT Try.prog 70 [Kd.val (.int .i64) size1] false .bool h Q :=
  fn_sound (c := weave (Try.f70.body.getD .skip) cells_good.mk) Try.func70 (by kernel_rfl) Try.ntmps70 (rs := [.tmp 2]) (by kernel_rfl) [⟨(.int .i64), size1⟩] (by kernel_rfl) (by kernel_rfl)
    (Eq.mp (show (cells_good.M  size1 h Q) = interp Try.prog 9 (weave (Try.f70.body.getD .skip) cells_good.mk) [] (rho0 [⟨(.int .i64), size1⟩]) [] h (retK Try.prog [.tmp 2] false .bool Q) (fun _ _ _ _ => False) (retK Try.prog [.tmp 2] false .bool Q) from by kernel_rfl) H)

theorem cells_ledger_refuse.br {l1 : Option Addr} {n2 : Int} {h : Heap} {Q : Int → Heap → Prop} (H : cells_ledger_refuse.M  l1 n2 h Q) :
    CallT Try.prog 90 [Kd.val .ptr l1, Kd.val (.int .i64) n2] false (.int .i64) h Q :=
  fn_sound (c := weave (Try.f90.body.getD .skip) cells_ledger_refuse.mk) Try.func90 (by kernel_rfl) Try.ntmps90 (rs := [.tmp 4]) (by kernel_rfl) [⟨.ptr, l1⟩, ⟨(.int .i64), n2⟩] (by kernel_rfl) (by kernel_rfl)
    (Eq.mp (show (cells_ledger_refuse.M  l1 n2 h Q) = interp Try.prog 22 (weave (Try.f90.body.getD .skip) cells_ledger_refuse.mk) [] (rho0 [⟨.ptr, l1⟩, ⟨(.int .i64), n2⟩]) [] h (retK Try.prog [.tmp 4] false (.int .i64) Q) (fun _ _ _ _ => False) (retK Try.prog [.tmp 4] false (.int .i64) Q) from by kernel_rfl) H)

theorem cells_ledger_take.br {l1 : Option Addr} {n2 : Int} {h : Heap} {Q : Int → Heap → Prop} (H : cells_ledger_take.M  l1 n2 h Q) :
    CallT Try.prog 91 [Kd.val .ptr l1, Kd.val (.int .i64) n2] false (.int .i64) h Q :=
  fn_sound (c := weave (Try.f91.body.getD .skip) cells_ledger_take.mk) Try.func91 (by kernel_rfl) Try.ntmps91 (rs := [.tmp 4]) (by kernel_rfl) [⟨.ptr, l1⟩, ⟨(.int .i64), n2⟩] (by kernel_rfl) (by kernel_rfl)
    (Eq.mp (show (cells_ledger_take.M  l1 n2 h Q) = interp Try.prog 19 (weave (Try.f91.body.getD .skip) cells_ledger_take.mk) [] (rho0 [⟨.ptr, l1⟩, ⟨(.int .i64), n2⟩]) [] h (retK Try.prog [.tmp 4] false (.int .i64) Q) (fun _ _ _ _ => False) (retK Try.prog [.tmp 4] false (.int .i64) Q) from by kernel_rfl) H)

theorem cells_Arena_note.br {a1 : Option Addr} {kind2 : Int} {addr3 : Int} {x4 : Int} {y5 : Int} {ok6 : Bool} {h : Heap} {Q : Unit → Heap → Prop} (H : cells_Arena_note.M  a1 kind2 addr3 x4 y5 ok6 h Q) :
    CallT Try.prog 92 [Kd.val .ptr a1, Kd.val (.int .i64) kind2, Kd.val (.int .i64) addr3, Kd.val (.int .i64) x4, Kd.val (.int .i64) y5, Kd.val .bool ok6] true .nil h Q :=
  fn_sound (c := weave (Try.f92.body.getD .skip) cells_Arena_note.mk) Try.func92 (by kernel_rfl) Try.ntmps92 (rs := []) (by kernel_rfl) [⟨.ptr, a1⟩, ⟨(.int .i64), kind2⟩, ⟨(.int .i64), addr3⟩, ⟨(.int .i64), x4⟩, ⟨(.int .i64), y5⟩, ⟨.bool, ok6⟩] (by kernel_rfl) (by kernel_rfl)
    (Eq.mp (show (cells_Arena_note.M  a1 kind2 addr3 x4 y5 ok6 h Q) = interp Try.prog 35 (weave (Try.f92.body.getD .skip) cells_Arena_note.mk) [] (rho0 [⟨.ptr, a1⟩, ⟨(.int .i64), kind2⟩, ⟨(.int .i64), addr3⟩, ⟨(.int .i64), x4⟩, ⟨(.int .i64), y5⟩, ⟨.bool, ok6⟩]) [] h (retK Try.prog [] true .nil Q) (fun _ _ _ _ => False) (retK Try.prog [] true .nil Q) from by kernel_rfl) H)

theorem cells_Arena_outside.br {a1 : Option Addr} {addr2 : Int} {h : Heap} {Q : Bool → Heap → Prop} (H : cells_Arena_outside.M (fun x0 x1 h K => CallT Try.prog 109 [Kd.val .ptr x0, Kd.val (.int .i64) x1] false .bool h K) a1 addr2 h Q) :
    CallT Try.prog 93 [Kd.val .ptr a1, Kd.val (.int .i64) addr2] false .bool h Q :=
  fn_sound (c := weave (Try.f93.body.getD .skip) cells_Arena_outside.mk) Try.func93 (by kernel_rfl) Try.ntmps93 (rs := [.tmp 4]) (by kernel_rfl) [⟨.ptr, a1⟩, ⟨(.int .i64), addr2⟩] (by kernel_rfl) (by kernel_rfl)
    (Eq.mp (show (cells_Arena_outside.M (fun x0 x1 h K => CallT Try.prog 109 [Kd.val .ptr x0, Kd.val (.int .i64) x1] false .bool h K) a1 addr2 h Q) = interp Try.prog 15 (weave (Try.f93.body.getD .skip) cells_Arena_outside.mk) [] (rho0 [⟨.ptr, a1⟩, ⟨(.int .i64), addr2⟩]) [] h (retK Try.prog [.tmp 4] false .bool Q) (fun _ _ _ _ => False) (retK Try.prog [.tmp 4] false .bool Q) from by kernel_rfl) H)

theorem cells_ledger_has.br {l1 : Option Addr} {addr2 : Int} {h : Heap} {Q : Bool → Heap → Prop} (H : cells_ledger_has.M  l1 addr2 h Q) :
    CallT Try.prog 109 [Kd.val .ptr l1, Kd.val (.int .i64) addr2] false .bool h Q :=
  fn_sound (c := weave (Try.f109.body.getD .skip) cells_ledger_has.mk) Try.func109 (by kernel_rfl) Try.ntmps109 (rs := [.tmp 4]) (by kernel_rfl) [⟨.ptr, l1⟩, ⟨(.int .i64), addr2⟩] (by kernel_rfl) (by kernel_rfl)
    (Eq.mp (show (cells_ledger_has.M  l1 addr2 h Q) = interp Try.prog 15 (weave (Try.f109.body.getD .skip) cells_ledger_has.mk) [] (rho0 [⟨.ptr, l1⟩, ⟨(.int .i64), addr2⟩]) [] h (retK Try.prog [.tmp 4] false .bool Q) (fun _ _ _ _ => False) (retK Try.prog [.tmp 4] false .bool Q) from by kernel_rfl) H)

theorem cells_Arena_Load.br {a1 : Option Addr} {addr2 : Int} {h : Heap} {Q : Den kparkLot → Heap → Prop} (H : cells_Arena_Load.M (fun x0 x1 h K => CallT Try.prog 93 [Kd.val .ptr x0, Kd.val (.int .i64) x1] false .bool h K) (fun x0 x1 x2 x3 x4 x5 h K => CallT Try.prog 92 [Kd.val .ptr x0, Kd.val (.int .i64) x1, Kd.val (.int .i64) x2, Kd.val (.int .i64) x3, Kd.val (.int .i64) x4, Kd.val .bool x5] true .nil h K) a1 addr2 h Q) :
    CallT Try.prog 128 [Kd.val .ptr a1, Kd.val (.int .i64) addr2] true kparkLot h Q :=
  fn_sound (c := weave (Try.f128.body.getD .skip) cells_Arena_Load.mk) Try.func128 (by kernel_rfl) Try.ntmps128 (rs := [.tmp 4, .tmp 5]) (by kernel_rfl) [⟨.ptr, a1⟩, ⟨(.int .i64), addr2⟩] (by kernel_rfl) (by kernel_rfl)
    (Eq.mp (show (cells_Arena_Load.M (fun x0 x1 h K => CallT Try.prog 93 [Kd.val .ptr x0, Kd.val (.int .i64) x1] false .bool h K) (fun x0 x1 x2 x3 x4 x5 h K => CallT Try.prog 92 [Kd.val .ptr x0, Kd.val (.int .i64) x1, Kd.val (.int .i64) x2, Kd.val (.int .i64) x3, Kd.val (.int .i64) x4, Kd.val .bool x5] true .nil h K) a1 addr2 h Q) = interp Try.prog 22 (weave (Try.f128.body.getD .skip) cells_Arena_Load.mk) [] (rho0 [⟨.ptr, a1⟩, ⟨(.int .i64), addr2⟩]) [] h (retK Try.prog [.tmp 4, .tmp 5] true kparkLot Q) (fun _ _ _ _ => False) (retK Try.prog [.tmp 4, .tmp 5] true kparkLot Q) from by kernel_rfl) H)

theorem law3_Deny_Reserve.br {m1 : Option Addr} {n2 : Int} {h : Heap} {Q : Den kparkLot → Heap → Prop} (H : law3_Deny_Reserve.M (fun x0 h K => CallT Try.prog 135 [Kd.val .ptr x0] false .bool h K) (fun x0 x1 h K => CallT Try.prog 52 [Kd.val .ptr x0, Kd.val (.int .i64) x1] true kparkLot h K) m1 n2 h Q) :
    CallT Try.prog 133 [Kd.val .ptr m1, Kd.val (.int .i64) n2] true kparkLot h Q :=
  fn_sound (c := weave (Try.f133.body.getD .skip) law3_Deny_Reserve.mk) Try.func133 (by kernel_rfl) Try.ntmps133 (rs := [.tmp 4, .tmp 5]) (by kernel_rfl) [⟨.ptr, m1⟩, ⟨(.int .i64), n2⟩] (by kernel_rfl) (by kernel_rfl)
    (Eq.mp (show (law3_Deny_Reserve.M (fun x0 h K => CallT Try.prog 135 [Kd.val .ptr x0] false .bool h K) (fun x0 x1 h K => CallT Try.prog 52 [Kd.val .ptr x0, Kd.val (.int .i64) x1] true kparkLot h K) m1 n2 h Q) = interp Try.prog 16 (weave (Try.f133.body.getD .skip) law3_Deny_Reserve.mk) [] (rho0 [⟨.ptr, m1⟩, ⟨(.int .i64), n2⟩]) [] h (retK Try.prog [.tmp 4, .tmp 5] true kparkLot Q) (fun _ _ _ _ => False) (retK Try.prog [.tmp 4, .tmp 5] true kparkLot Q) from by kernel_rfl) H)

theorem law3_Deny_refuses.br {m1 : Option Addr} {h : Heap} {Q : Bool → Heap → Prop} (H : law3_Deny_refuses.M  m1 h Q) :
    CallT Try.prog 135 [Kd.val .ptr m1] false .bool h Q :=
  fn_sound (c := weave (Try.f135.body.getD .skip) law3_Deny_refuses.mk) Try.func135 (by kernel_rfl) Try.ntmps135 (rs := [.tmp 2]) (by kernel_rfl) [⟨.ptr, m1⟩] (by kernel_rfl) (by kernel_rfl)
    (Eq.mp (show (law3_Deny_refuses.M  m1 h Q) = interp Try.prog 19 (weave (Try.f135.body.getD .skip) law3_Deny_refuses.mk) [] (rho0 [⟨.ptr, m1⟩]) [] h (retK Try.prog [.tmp 2] false .bool Q) (fun _ _ _ _ => False) (retK Try.prog [.tmp 2] false .bool Q) from by kernel_rfl) H)

end Go.Mx
