/-
  The bridges: a function's calls, by what it comes to over abstract heaps: printed by a program of this workplace.
-/
import Derived.Test.YtanfmmcpjifgiabMd
import Derived.Test.YtanfmmcpjifgiabProg
set_option linter.unusedVariables false
set_option maxRecDepth 100000
namespace Go.Mx
open Go.Proofs
theorem law22_ExploreDepends.br {s1 : Den kapiScene} {x2 : Den kapiAct} {y3 : Den kapiAct} {h : Heap} {Q : Bool → Heap → Prop} (H : law22_ExploreDepends.M (fun x0 h K => CallT Try.prog 9 [Kd.val kapiScene x0] false kapiScene h K) (fun x0 h K => CallT Try.prog 10 [Kd.val kapiScene x0] true .nil h K) (fun x0 x1 x2 h K => CallT Try.prog 11 [Kd.val kapiScene x0, Kd.val kapiAct x1, Kd.val kapiAct x2] false .bool h K) (fun x0 x1 h K => CallT Try.prog 12 [Kd.val kapiScene x0, Kd.val kapiScene x1] true .nil h K) (fun x0 x1 x2 h K => CallT Try.prog 13 [Kd.val kapiScene x0, Kd.val kapiAct x1, Kd.val kapiAct x2] false .bool h K) (fun x0 x1 h K => CallT Try.prog 14 [Kd.val kapiScene x0, Kd.val kapiScene x1] false .bool h K) s1 x2 y3 h Q) :
    CallT Try.prog 3 [Kd.val kapiScene s1, Kd.val kapiAct x2, Kd.val kapiAct y3] false .bool h Q :=
  fn_sound (c := weave (Try.f3.body.getD .skip) law22_ExploreDepends.mk) Try.func3 (by kernel_rfl) Try.ntmps3 (rs := [.tmp 6]) (by kernel_rfl) [⟨kapiScene, s1⟩, ⟨kapiAct, x2⟩, ⟨kapiAct, y3⟩] (by kernel_rfl) (by kernel_rfl)
    (Eq.mp (show (law22_ExploreDepends.M (fun x0 h K => CallT Try.prog 9 [Kd.val kapiScene x0] false kapiScene h K) (fun x0 h K => CallT Try.prog 10 [Kd.val kapiScene x0] true .nil h K) (fun x0 x1 x2 h K => CallT Try.prog 11 [Kd.val kapiScene x0, Kd.val kapiAct x1, Kd.val kapiAct x2] false .bool h K) (fun x0 x1 h K => CallT Try.prog 12 [Kd.val kapiScene x0, Kd.val kapiScene x1] true .nil h K) (fun x0 x1 x2 h K => CallT Try.prog 13 [Kd.val kapiScene x0, Kd.val kapiAct x1, Kd.val kapiAct x2] false .bool h K) (fun x0 x1 h K => CallT Try.prog 14 [Kd.val kapiScene x0, Kd.val kapiScene x1] false .bool h K) s1 x2 y3 h Q) = interp Try.prog 47 (weave (Try.f3.body.getD .skip) law22_ExploreDepends.mk) [] (rho0 [⟨kapiScene, s1⟩, ⟨kapiAct, x2⟩, ⟨kapiAct, y3⟩]) [] h (retK Try.prog [.tmp 6] false .bool Q) (fun _ _ _ _ => False) (retK Try.prog [.tmp 6] false .bool Q) from by kernel_rfl) H)

theorem law22_ExploreCheck.br {s1 : Den kapiScene} {h : Heap} {Q : Bool → Heap → Prop} (H : law22_ExploreCheck.M (fun x0 h K => CallT Try.prog 9 [Kd.val kapiScene x0] false kapiScene h K) (fun x0 h K => CallT Try.prog 10 [Kd.val kapiScene x0] true .nil h K) (fun x0 h K => CallT Try.prog 15 [Kd.val kapiScene x0] false (.int .i64) h K) (fun x0 x1 h K => CallT Try.prog 12 [Kd.val kapiScene x0, Kd.val kapiScene x1] true .nil h K) (fun x0 h K => CallT Try.prog 16 [Kd.val kapiScene x0] false (.int .i64) h K) (fun x0 x1 h K => CallT Try.prog 14 [Kd.val kapiScene x0, Kd.val kapiScene x1] false .bool h K) s1 h Q) :
    CallT Try.prog 4 [Kd.val kapiScene s1] false .bool h Q :=
  fn_sound (c := weave (Try.f4.body.getD .skip) law22_ExploreCheck.mk) Try.func4 (by kernel_rfl) Try.ntmps4 (rs := [.tmp 2]) (by kernel_rfl) [⟨kapiScene, s1⟩] (by kernel_rfl) (by kernel_rfl)
    (Eq.mp (show (law22_ExploreCheck.M (fun x0 h K => CallT Try.prog 9 [Kd.val kapiScene x0] false kapiScene h K) (fun x0 h K => CallT Try.prog 10 [Kd.val kapiScene x0] true .nil h K) (fun x0 h K => CallT Try.prog 15 [Kd.val kapiScene x0] false (.int .i64) h K) (fun x0 x1 h K => CallT Try.prog 12 [Kd.val kapiScene x0, Kd.val kapiScene x1] true .nil h K) (fun x0 h K => CallT Try.prog 16 [Kd.val kapiScene x0] false (.int .i64) h K) (fun x0 x1 h K => CallT Try.prog 14 [Kd.val kapiScene x0, Kd.val kapiScene x1] false .bool h K) s1 h Q) = interp Try.prog 25 (weave (Try.f4.body.getD .skip) law22_ExploreCheck.mk) [] (rho0 [⟨kapiScene, s1⟩]) [] h (retK Try.prog [.tmp 2] false .bool Q) (fun _ _ _ _ => False) (retK Try.prog [.tmp 2] false .bool Q) from by kernel_rfl) H)

theorem law22_ExploreRun.br {s1 : Den kapiScene} {picks2 : Sl} {h : Heap} {Q : Bool → Heap → Prop} (H : law22_ExploreRun.M (fun x0 h K => CallT Try.prog 9 [Kd.val kapiScene x0] false kapiScene h K) (fun x0 h K => CallT Try.prog 10 [Kd.val kapiScene x0] true .nil h K) (fun x0 h K => CallT Try.prog 22 [Kd.val .sl x0] false .sl h K) (fun x0 x1 h K => CallT Try.prog 27 [Kd.val kapiScene x0, Kd.val .sl x1] true (.pair kapiEnding (.pair (.int .i64) .nil)) h K) (fun x0 x1 h K => CallT Try.prog 12 [Kd.val kapiScene x0, Kd.val kapiScene x1] true .nil h K) (fun x0 x1 h K => CallT Try.prog 24 [Kd.val .sl x0, Kd.val .sl x1] true .nil h K) (fun x0 h K => CallT Try.prog 28 [Kd.val .sl x0] false .bool h K) (fun x0 h K => CallT Try.prog 29 [Kd.val .sl x0] false .bool h K) (fun x0 x1 h K => CallT Try.prog 30 [Kd.val kapiScene x0, Kd.val .sl x1] true (.pair kapiEnding (.pair (.int .i64) .nil)) h K) (fun x0 x1 h K => CallT Try.prog 31 [Kd.val kapiEnding x0, Kd.val kapiEnding x1] false .bool h K) (fun x0 x1 h K => CallT Try.prog 14 [Kd.val kapiScene x0, Kd.val kapiScene x1] false .bool h K) (fun x0 x1 h K => CallT Try.prog 26 [Kd.val .sl x0, Kd.val .sl x1] false .bool h K) s1 picks2 h Q) :
    CallT Try.prog 7 [Kd.val kapiScene s1, Kd.val .sl picks2] false .bool h Q :=
  fn_sound (c := weave (Try.f7.body.getD .skip) law22_ExploreRun.mk) Try.func7 (by kernel_rfl) Try.ntmps7 (rs := [.tmp 4]) (by kernel_rfl) [⟨kapiScene, s1⟩, ⟨.sl, picks2⟩] (by kernel_rfl) (by kernel_rfl)
    (Eq.mp (show (law22_ExploreRun.M (fun x0 h K => CallT Try.prog 9 [Kd.val kapiScene x0] false kapiScene h K) (fun x0 h K => CallT Try.prog 10 [Kd.val kapiScene x0] true .nil h K) (fun x0 h K => CallT Try.prog 22 [Kd.val .sl x0] false .sl h K) (fun x0 x1 h K => CallT Try.prog 27 [Kd.val kapiScene x0, Kd.val .sl x1] true (.pair kapiEnding (.pair (.int .i64) .nil)) h K) (fun x0 x1 h K => CallT Try.prog 12 [Kd.val kapiScene x0, Kd.val kapiScene x1] true .nil h K) (fun x0 x1 h K => CallT Try.prog 24 [Kd.val .sl x0, Kd.val .sl x1] true .nil h K) (fun x0 h K => CallT Try.prog 28 [Kd.val .sl x0] false .bool h K) (fun x0 h K => CallT Try.prog 29 [Kd.val .sl x0] false .bool h K) (fun x0 x1 h K => CallT Try.prog 30 [Kd.val kapiScene x0, Kd.val .sl x1] true (.pair kapiEnding (.pair (.int .i64) .nil)) h K) (fun x0 x1 h K => CallT Try.prog 31 [Kd.val kapiEnding x0, Kd.val kapiEnding x1] false .bool h K) (fun x0 x1 h K => CallT Try.prog 14 [Kd.val kapiScene x0, Kd.val kapiScene x1] false .bool h K) (fun x0 x1 h K => CallT Try.prog 26 [Kd.val .sl x0, Kd.val .sl x1] false .bool h K) s1 picks2 h Q) = interp Try.prog 86 (weave (Try.f7.body.getD .skip) law22_ExploreRun.mk) [] (rho0 [⟨kapiScene, s1⟩, ⟨.sl, picks2⟩]) [] h (retK Try.prog [.tmp 4] false .bool Q) (fun _ _ _ _ => False) (retK Try.prog [.tmp 4] false .bool Q) from by kernel_rfl) H)

theorem law22_copied.br {s1 : Den kapiScene} {h : Heap} {Q : Den kapiScene → Heap → Prop} (H : law22_copied.M  s1 h Q) :
    CallT Try.prog 9 [Kd.val kapiScene s1] false kapiScene h Q :=
  fn_sound (c := weave (Try.f9.body.getD .skip) law22_copied.mk) Try.func9 (by kernel_rfl) Try.ntmps9 (rs := [.cell 2 25]) (by kernel_rfl) [⟨kapiScene, s1⟩] (by kernel_rfl) (by kernel_rfl)
    (Eq.mp (show (law22_copied.M  s1 h Q) = interp Try.prog 71 (weave (Try.f9.body.getD .skip) law22_copied.mk) [] (rho0 [⟨kapiScene, s1⟩]) [] h (retK Try.prog [.cell 2 25] false kapiScene Q) (fun _ _ _ _ => False) (retK Try.prog [.cell 2 25] false kapiScene Q) from by kernel_rfl) H)

theorem law22_moved.br {c1 : Den kapiScene} {h : Heap} {Q : Unit → Heap → Prop} (H : law22_moved.M  c1 h Q) :
    CallT Try.prog 10 [Kd.val kapiScene c1] true .nil h Q :=
  fn_sound (c := weave (Try.f10.body.getD .skip) law22_moved.mk) Try.func10 (by kernel_rfl) Try.ntmps10 (rs := []) (by kernel_rfl) [⟨kapiScene, c1⟩] (by kernel_rfl) (by kernel_rfl)
    (Eq.mp (show (law22_moved.M  c1 h Q) = interp Try.prog 76 (weave (Try.f10.body.getD .skip) law22_moved.mk) [] (rho0 [⟨kapiScene, c1⟩]) [] h (retK Try.prog [] true .nil Q) (fun _ _ _ _ => False) (retK Try.prog [] true .nil Q) from by kernel_rfl) H)

theorem explore_Depends.br {s1 : Den kapiScene} {x2 : Den kapiAct} {y3 : Den kapiAct} {h : Heap} {Q : Bool → Heap → Prop} (H : explore_Depends.M (fun x0 h K => CallT Try.prog 35 [Kd.val kapiAct x0] false .bool h K) (fun x0 x1 h K => CallT Try.prog 36 [Kd.val kapiScene x0, Kd.val kapiAct x1] false .bool h K) s1 x2 y3 h Q) :
    CallT Try.prog 11 [Kd.val kapiScene s1, Kd.val kapiAct x2, Kd.val kapiAct y3] false .bool h Q :=
  fn_sound (c := weave (Try.f11.body.getD .skip) explore_Depends.mk) Try.func11 (by kernel_rfl) Try.ntmps11 (rs := [.tmp 6]) (by kernel_rfl) [⟨kapiScene, s1⟩, ⟨kapiAct, x2⟩, ⟨kapiAct, y3⟩] (by kernel_rfl) (by kernel_rfl)
    (Eq.mp (show (explore_Depends.M (fun x0 h K => CallT Try.prog 35 [Kd.val kapiAct x0] false .bool h K) (fun x0 x1 h K => CallT Try.prog 36 [Kd.val kapiScene x0, Kd.val kapiAct x1] false .bool h K) s1 x2 y3 h Q) = interp Try.prog 67 (weave (Try.f11.body.getD .skip) explore_Depends.mk) [] (rho0 [⟨kapiScene, s1⟩, ⟨kapiAct, x2⟩, ⟨kapiAct, y3⟩]) [] h (retK Try.prog [.tmp 6] false .bool Q) (fun _ _ _ _ => False) (retK Try.prog [.tmp 6] false .bool Q) from by kernel_rfl) H)

theorem law22_back.br {c1 : Den kapiScene} {s2 : Den kapiScene} {h : Heap} {Q : Unit → Heap → Prop} (H : law22_back.M  c1 s2 h Q) :
    CallT Try.prog 12 [Kd.val kapiScene c1, Kd.val kapiScene s2] true .nil h Q :=
  fn_sound (c := weave (Try.f12.body.getD .skip) law22_back.mk) Try.func12 (by kernel_rfl) Try.ntmps12 (rs := []) (by kernel_rfl) [⟨kapiScene, c1⟩, ⟨kapiScene, s2⟩] (by kernel_rfl) (by kernel_rfl)
    (Eq.mp (show (law22_back.M  c1 s2 h Q) = interp Try.prog 55 (weave (Try.f12.body.getD .skip) law22_back.mk) [] (rho0 [⟨kapiScene, c1⟩, ⟨kapiScene, s2⟩]) [] h (retK Try.prog [] true .nil Q) (fun _ _ _ _ => False) (retK Try.prog [] true .nil Q) from by kernel_rfl) H)

theorem ref22_Depends.br {s1 : Den kapiScene} {x2 : Den kapiAct} {y3 : Den kapiAct} {h : Heap} {Q : Bool → Heap → Prop} (H : ref22_Depends.M (fun x0 x1 h K => CallT Try.prog 37 [Kd.val kapiScene x0, Kd.val kapiAct x1] false (.int .i64) h K) (fun x0 h K => CallT Try.prog 38 [Kd.val kapiAct x0] false .bool h K) s1 x2 y3 h Q) :
    CallT Try.prog 13 [Kd.val kapiScene s1, Kd.val kapiAct x2, Kd.val kapiAct y3] false .bool h Q :=
  fn_sound (c := weave (Try.f13.body.getD .skip) ref22_Depends.mk) Try.func13 (by kernel_rfl) Try.ntmps13 (rs := [.tmp 6]) (by kernel_rfl) [⟨kapiScene, s1⟩, ⟨kapiAct, x2⟩, ⟨kapiAct, y3⟩] (by kernel_rfl) (by kernel_rfl)
    (Eq.mp (show (ref22_Depends.M (fun x0 x1 h K => CallT Try.prog 37 [Kd.val kapiScene x0, Kd.val kapiAct x1] false (.int .i64) h K) (fun x0 h K => CallT Try.prog 38 [Kd.val kapiAct x0] false .bool h K) s1 x2 y3 h Q) = interp Try.prog 64 (weave (Try.f13.body.getD .skip) ref22_Depends.mk) [] (rho0 [⟨kapiScene, s1⟩, ⟨kapiAct, x2⟩, ⟨kapiAct, y3⟩]) [] h (retK Try.prog [.tmp 6] false .bool Q) (fun _ _ _ _ => False) (retK Try.prog [.tmp 6] false .bool Q) from by kernel_rfl) H)

theorem law22_alike.br {a1 : Den kapiScene} {b2 : Den kapiScene} {h : Heap} {Q : Bool → Heap → Prop} (H : law22_alike.M (fun x0 h K => CallT Try.prog 39 [Kd.val kapiScene x0] false .bool h K) (fun x0 x1 h K => CallT Try.prog 34 [Kd.val .sl x0, Kd.val .sl x1] false .bool h K) a1 b2 h Q) :
    CallT Try.prog 14 [Kd.val kapiScene a1, Kd.val kapiScene b2] false .bool h Q :=
  fn_sound (c := weave (Try.f14.body.getD .skip) law22_alike.mk) Try.func14 (by kernel_rfl) Try.ntmps14 (rs := [.tmp 4]) (by kernel_rfl) [⟨kapiScene, a1⟩, ⟨kapiScene, b2⟩] (by kernel_rfl) (by kernel_rfl)
    (Eq.mp (show (law22_alike.M (fun x0 h K => CallT Try.prog 39 [Kd.val kapiScene x0] false .bool h K) (fun x0 x1 h K => CallT Try.prog 34 [Kd.val .sl x0, Kd.val .sl x1] false .bool h K) a1 b2 h Q) = interp Try.prog 81 (weave (Try.f14.body.getD .skip) law22_alike.mk) [] (rho0 [⟨kapiScene, a1⟩, ⟨kapiScene, b2⟩]) [] h (retK Try.prog [.tmp 4] false .bool Q) (fun _ _ _ _ => False) (retK Try.prog [.tmp 4] false .bool Q) from by kernel_rfl) H)

theorem explore_Check.br {s1 : Den kapiScene} {h : Heap} {Q : Int → Heap → Prop} (H : explore_Check.M  s1 h Q) :
    CallT Try.prog 15 [Kd.val kapiScene s1] false (.int .i64) h Q :=
  fn_sound (c := weave (Try.f15.body.getD .skip) explore_Check.mk) Try.func15 (by kernel_rfl) Try.ntmps15 (rs := [.tmp 2]) (by kernel_rfl) [⟨kapiScene, s1⟩] (by kernel_rfl) (by kernel_rfl)
    (Eq.mp (show (explore_Check.M  s1 h Q) = interp Try.prog 69 (weave (Try.f15.body.getD .skip) explore_Check.mk) [] (rho0 [⟨kapiScene, s1⟩]) [] h (retK Try.prog [.tmp 2] false (.int .i64) Q) (fun _ _ _ _ => False) (retK Try.prog [.tmp 2] false (.int .i64) Q) from by kernel_rfl) H)

theorem ref22_Check.br {s1 : Den kapiScene} {h : Heap} {Q : Int → Heap → Prop} (H : ref22_Check.M (fun x0 h K => CallT Try.prog 40 [Kd.val kapiScene x0] false (.int .i64) h K) s1 h Q) :
    CallT Try.prog 16 [Kd.val kapiScene s1] false (.int .i64) h Q :=
  fn_sound (c := weave (Try.f16.body.getD .skip) ref22_Check.mk) Try.func16 (by kernel_rfl) Try.ntmps16 (rs := [.tmp 2]) (by kernel_rfl) [⟨kapiScene, s1⟩] (by kernel_rfl) (by kernel_rfl)
    (Eq.mp (show (ref22_Check.M (fun x0 h K => CallT Try.prog 40 [Kd.val kapiScene x0] false (.int .i64) h K) s1 h Q) = interp Try.prog 63 (weave (Try.f16.body.getD .skip) ref22_Check.mk) [] (rho0 [⟨kapiScene, s1⟩]) [] h (retK Try.prog [.tmp 2] false (.int .i64) Q) (fun _ _ _ _ => False) (retK Try.prog [.tmp 2] false (.int .i64) Q) from by kernel_rfl) H)

theorem law22_turned.br {list1 : Sl} {h : Heap} {Q : Sl → Heap → Prop} (H : law22_turned.M  list1 h Q) :
    CallT Try.prog 22 [Kd.val .sl list1] false .sl h Q :=
  fn_sound (c := weave (Try.f22.body.getD .skip) law22_turned.mk) Try.func22 (by kernel_rfl) Try.ntmps22 (rs := [.tmp 2]) (by kernel_rfl) [⟨.sl, list1⟩] (by kernel_rfl) (by kernel_rfl)
    (Eq.mp (show (law22_turned.M  list1 h Q) = interp Try.prog 29 (weave (Try.f22.body.getD .skip) law22_turned.mk) [] (rho0 [⟨.sl, list1⟩]) [] h (retK Try.prog [.tmp 2] false .sl Q) (fun _ _ _ _ => False) (retK Try.prog [.tmp 2] false .sl Q) from by kernel_rfl) H)

theorem law22_written.br {l1 : Sl} {list2 : Sl} {h : Heap} {Q : Unit → Heap → Prop} (H : law22_written.M  l1 list2 h Q) :
    CallT Try.prog 24 [Kd.val .sl l1, Kd.val .sl list2] true .nil h Q :=
  fn_sound (c := weave (Try.f24.body.getD .skip) law22_written.mk) Try.func24 (by kernel_rfl) Try.ntmps24 (rs := []) (by kernel_rfl) [⟨.sl, l1⟩, ⟨.sl, list2⟩] (by kernel_rfl) (by kernel_rfl)
    (Eq.mp (show (law22_written.M  l1 list2 h Q) = interp Try.prog 18 (weave (Try.f24.body.getD .skip) law22_written.mk) [] (rho0 [⟨.sl, l1⟩, ⟨.sl, list2⟩]) [] h (retK Try.prog [] true .nil Q) (fun _ _ _ _ => False) (retK Try.prog [] true .nil Q) from by kernel_rfl) H)

theorem law22_kept.br {l1 : Sl} {list2 : Sl} {h : Heap} {Q : Bool → Heap → Prop} (H : law22_kept.M (fun x0 x1 h K => CallT Try.prog 46 [Kd.val .sl x0, Kd.val .sl x1] false .bool h K) l1 list2 h Q) :
    CallT Try.prog 26 [Kd.val .sl l1, Kd.val .sl list2] false .bool h Q :=
  fn_sound (c := weave (Try.f26.body.getD .skip) law22_kept.mk) Try.func26 (by kernel_rfl) Try.ntmps26 (rs := [.tmp 4]) (by kernel_rfl) [⟨.sl, l1⟩, ⟨.sl, list2⟩] (by kernel_rfl) (by kernel_rfl)
    (Eq.mp (show (law22_kept.M (fun x0 x1 h K => CallT Try.prog 46 [Kd.val .sl x0, Kd.val .sl x1] false .bool h K) l1 list2 h Q) = interp Try.prog 22 (weave (Try.f26.body.getD .skip) law22_kept.mk) [] (rho0 [⟨.sl, l1⟩, ⟨.sl, list2⟩]) [] h (retK Try.prog [.tmp 4] false .bool Q) (fun _ _ _ _ => False) (retK Try.prog [.tmp 4] false .bool Q) from by kernel_rfl) H)

theorem explore_Run.br {s1 : Den kapiScene} {picks2 : Sl} {h : Heap} {Q : (Den kapiEnding × (Int × Unit)) → Heap → Prop} (H : explore_Run.M (fun x0 x1 h K => CallT Try.prog 47 [Kd.val kapiScene x0, Kd.val .sl x1] false (.int .i64) h K) (fun x0 x1 h K => CallT Try.prog 52 [Kd.val kapiScene x0, Kd.val .sl x1] false kapiEnding h K) s1 picks2 h Q) :
    CallT Try.prog 27 [Kd.val kapiScene s1, Kd.val .sl picks2] true (.pair kapiEnding (.pair (.int .i64) .nil)) h Q :=
  fn_sound (c := weave (Try.f27.body.getD .skip) explore_Run.mk) Try.func27 (by kernel_rfl) Try.ntmps27 (rs := [.cell 4 51, .tmp 5]) (by kernel_rfl) [⟨kapiScene, s1⟩, ⟨.sl, picks2⟩] (by kernel_rfl) (by kernel_rfl)
    (Eq.mp (show (explore_Run.M (fun x0 x1 h K => CallT Try.prog 47 [Kd.val kapiScene x0, Kd.val .sl x1] false (.int .i64) h K) (fun x0 x1 h K => CallT Try.prog 52 [Kd.val kapiScene x0, Kd.val .sl x1] false kapiEnding h K) s1 picks2 h Q) = interp Try.prog 17 (weave (Try.f27.body.getD .skip) explore_Run.mk) [] (rho0 [⟨kapiScene, s1⟩, ⟨.sl, picks2⟩]) [] h (retK Try.prog [.cell 4 51, .tmp 5] true (.pair kapiEnding (.pair (.int .i64) .nil)) Q) (fun _ _ _ _ => False) (retK Try.prog [.cell 4 51, .tmp 5] true (.pair kapiEnding (.pair (.int .i64) .nil)) Q) from by kernel_rfl) H)

theorem law22_effectsApart.br {l1 : Sl} {h : Heap} {Q : Bool → Heap → Prop} (H : law22_effectsApart.M  l1 h Q) :
    CallT Try.prog 28 [Kd.val .sl l1] false .bool h Q :=
  fn_sound (c := weave (Try.f28.body.getD .skip) law22_effectsApart.mk) Try.func28 (by kernel_rfl) Try.ntmps28 (rs := [.tmp 2]) (by kernel_rfl) [⟨.sl, l1⟩] (by kernel_rfl) (by kernel_rfl)
    (Eq.mp (show (law22_effectsApart.M  l1 h Q) = interp Try.prog 115 (weave (Try.f28.body.getD .skip) law22_effectsApart.mk) [] (rho0 [⟨.sl, l1⟩]) [] h (retK Try.prog [.tmp 2] false .bool Q) (fun _ _ _ _ => False) (retK Try.prog [.tmp 2] false .bool Q) from by kernel_rfl) H)

theorem law22_cellsApart.br {l1 : Sl} {h : Heap} {Q : Bool → Heap → Prop} (H : law22_cellsApart.M  l1 h Q) :
    CallT Try.prog 29 [Kd.val .sl l1] false .bool h Q :=
  fn_sound (c := weave (Try.f29.body.getD .skip) law22_cellsApart.mk) Try.func29 (by kernel_rfl) Try.ntmps29 (rs := [.tmp 2]) (by kernel_rfl) [⟨.sl, l1⟩] (by kernel_rfl) (by kernel_rfl)
    (Eq.mp (show (law22_cellsApart.M  l1 h Q) = interp Try.prog 111 (weave (Try.f29.body.getD .skip) law22_cellsApart.mk) [] (rho0 [⟨.sl, l1⟩]) [] h (retK Try.prog [.tmp 2] false .bool Q) (fun _ _ _ _ => False) (retK Try.prog [.tmp 2] false .bool Q) from by kernel_rfl) H)

theorem ref22_Run.br {s1 : Den kapiScene} {picks2 : Sl} {h : Heap} {Q : (Den kapiEnding × (Int × Unit)) → Heap → Prop} (H : ref22_Run.M (fun x0 x1 h K => CallT Try.prog 50 [Kd.val kapiScene x0, Kd.val .sl x1] false (.int .i64) h K) (fun x0 x1 h K => CallT Try.prog 53 [Kd.val kapiScene x0, Kd.val .sl x1] false kapiEnding h K) s1 picks2 h Q) :
    CallT Try.prog 30 [Kd.val kapiScene s1, Kd.val .sl picks2] true (.pair kapiEnding (.pair (.int .i64) .nil)) h Q :=
  fn_sound (c := weave (Try.f30.body.getD .skip) ref22_Run.mk) Try.func30 (by kernel_rfl) Try.ntmps30 (rs := [.cell 4 51, .tmp 5]) (by kernel_rfl) [⟨kapiScene, s1⟩, ⟨.sl, picks2⟩] (by kernel_rfl) (by kernel_rfl)
    (Eq.mp (show (ref22_Run.M (fun x0 x1 h K => CallT Try.prog 50 [Kd.val kapiScene x0, Kd.val .sl x1] false (.int .i64) h K) (fun x0 x1 h K => CallT Try.prog 53 [Kd.val kapiScene x0, Kd.val .sl x1] false kapiEnding h K) s1 picks2 h Q) = interp Try.prog 17 (weave (Try.f30.body.getD .skip) ref22_Run.mk) [] (rho0 [⟨kapiScene, s1⟩, ⟨.sl, picks2⟩]) [] h (retK Try.prog [.cell 4 51, .tmp 5] true (.pair kapiEnding (.pair (.int .i64) .nil)) Q) (fun _ _ _ _ => False) (retK Try.prog [.cell 4 51, .tmp 5] true (.pair kapiEnding (.pair (.int .i64) .nil)) Q) from by kernel_rfl) H)

theorem law22_sameEnding.br {a1 : Den kapiEnding} {b2 : Den kapiEnding} {h : Heap} {Q : Bool → Heap → Prop} (H : law22_sameEnding.M (fun x0 x1 h K => CallT Try.prog 34 [Kd.val .sl x0, Kd.val .sl x1] false .bool h K) a1 b2 h Q) :
    CallT Try.prog 31 [Kd.val kapiEnding a1, Kd.val kapiEnding b2] false .bool h Q :=
  fn_sound (c := weave (Try.f31.body.getD .skip) law22_sameEnding.mk) Try.func31 (by kernel_rfl) Try.ntmps31 (rs := [.tmp 4]) (by kernel_rfl) [⟨kapiEnding, a1⟩, ⟨kapiEnding, b2⟩] (by kernel_rfl) (by kernel_rfl)
    (Eq.mp (show (law22_sameEnding.M (fun x0 x1 h K => CallT Try.prog 34 [Kd.val .sl x0, Kd.val .sl x1] false .bool h K) a1 b2 h Q) = interp Try.prog 69 (weave (Try.f31.body.getD .skip) law22_sameEnding.mk) [] (rho0 [⟨kapiEnding, a1⟩, ⟨kapiEnding, b2⟩]) [] h (retK Try.prog [.tmp 4] false .bool Q) (fun _ _ _ _ => False) (retK Try.prog [.tmp 4] false .bool Q) from by kernel_rfl) H)

theorem law22_sameCells.br {a1 : Sl} {b2 : Sl} {h : Heap} {Q : Bool → Heap → Prop} (H : law22_sameCells.M  a1 b2 h Q) :
    CallT Try.prog 34 [Kd.val .sl a1, Kd.val .sl b2] false .bool h Q :=
  fn_sound (c := weave (Try.f34.body.getD .skip) law22_sameCells.mk) Try.func34 (by kernel_rfl) Try.ntmps34 (rs := [.tmp 4]) (by kernel_rfl) [⟨.sl, a1⟩, ⟨.sl, b2⟩] (by kernel_rfl) (by kernel_rfl)
    (Eq.mp (show (law22_sameCells.M  a1 b2 h Q) = interp Try.prog 26 (weave (Try.f34.body.getD .skip) law22_sameCells.mk) [] (rho0 [⟨.sl, a1⟩, ⟨.sl, b2⟩]) [] h (retK Try.prog [.tmp 4] false .bool Q) (fun _ _ _ _ => False) (retK Try.prog [.tmp 4] false .bool Q) from by kernel_rfl) H)

theorem explore_gives.br {x1 : Den kapiAct} {h : Heap} {Q : Bool → Heap → Prop} (H : explore_gives.M  x1 h Q) :
    CallT Try.prog 35 [Kd.val kapiAct x1] false .bool h Q :=
  fn_sound (c := weave (Try.f35.body.getD .skip) explore_gives.mk) Try.func35 (by kernel_rfl) Try.ntmps35 (rs := [.tmp 2]) (by kernel_rfl) [⟨kapiAct, x1⟩] (by kernel_rfl) (by kernel_rfl)
    (Eq.mp (show (explore_gives.M  x1 h Q) = interp Try.prog 11 (weave (Try.f35.body.getD .skip) explore_gives.mk) [] (rho0 [⟨kapiAct, x1⟩]) [] h (retK Try.prog [.tmp 2] false .bool Q) (fun _ _ _ _ => False) (retK Try.prog [.tmp 2] false .bool Q) from by kernel_rfl) H)

theorem explore_touches.br {s1 : Den kapiScene} {x2 : Den kapiAct} {h : Heap} {Q : Bool → Heap → Prop} (H : explore_touches.M  s1 x2 h Q) :
    CallT Try.prog 36 [Kd.val kapiScene s1, Kd.val kapiAct x2] false .bool h Q :=
  fn_sound (c := weave (Try.f36.body.getD .skip) explore_touches.mk) Try.func36 (by kernel_rfl) Try.ntmps36 (rs := [.tmp 4]) (by kernel_rfl) [⟨kapiScene, s1⟩, ⟨kapiAct, x2⟩] (by kernel_rfl) (by kernel_rfl)
    (Eq.mp (show (explore_touches.M  s1 x2 h Q) = interp Try.prog 25 (weave (Try.f36.body.getD .skip) explore_touches.mk) [] (rho0 [⟨kapiScene, s1⟩, ⟨kapiAct, x2⟩]) [] h (retK Try.prog [.tmp 4] false .bool Q) (fun _ _ _ _ => False) (retK Try.prog [.tmp 4] false .bool Q) from by kernel_rfl) H)

theorem ref22_cell.br {s1 : Den kapiScene} {x2 : Den kapiAct} {h : Heap} {Q : Int → Heap → Prop} (H : ref22_cell.M  s1 x2 h Q) :
    CallT Try.prog 37 [Kd.val kapiScene s1, Kd.val kapiAct x2] false (.int .i64) h Q :=
  fn_sound (c := weave (Try.f37.body.getD .skip) ref22_cell.mk) Try.func37 (by kernel_rfl) Try.ntmps37 (rs := [.tmp 4]) (by kernel_rfl) [⟨kapiScene, s1⟩, ⟨kapiAct, x2⟩] (by kernel_rfl) (by kernel_rfl)
    (Eq.mp (show (ref22_cell.M  s1 x2 h Q) = interp Try.prog 27 (weave (Try.f37.body.getD .skip) ref22_cell.mk) [] (rho0 [⟨kapiScene, s1⟩, ⟨kapiAct, x2⟩]) [] h (retK Try.prog [.tmp 4] false (.int .i64) Q) (fun _ _ _ _ => False) (retK Try.prog [.tmp 4] false (.int .i64) Q) from by kernel_rfl) H)

theorem ref22_makes.br {x1 : Den kapiAct} {h : Heap} {Q : Bool → Heap → Prop} (H : ref22_makes.M  x1 h Q) :
    CallT Try.prog 38 [Kd.val kapiAct x1] false .bool h Q :=
  fn_sound (c := weave (Try.f38.body.getD .skip) ref22_makes.mk) Try.func38 (by kernel_rfl) Try.ntmps38 (rs := [.tmp 2]) (by kernel_rfl) [⟨kapiAct, x1⟩] (by kernel_rfl) (by kernel_rfl)
    (Eq.mp (show (ref22_makes.M  x1 h Q) = interp Try.prog 11 (weave (Try.f38.body.getD .skip) ref22_makes.mk) [] (rho0 [⟨kapiAct, x1⟩]) [] h (retK Try.prog [.tmp 2] false .bool Q) (fun _ _ _ _ => False) (retK Try.prog [.tmp 2] false .bool Q) from by kernel_rfl) H)

theorem law22_marked.br {c1 : Den kapiScene} {h : Heap} {Q : Bool → Heap → Prop} (H : law22_marked.M  c1 h Q) :
    CallT Try.prog 39 [Kd.val kapiScene c1] false .bool h Q :=
  fn_sound (c := weave (Try.f39.body.getD .skip) law22_marked.mk) Try.func39 (by kernel_rfl) Try.ntmps39 (rs := [.tmp 2]) (by kernel_rfl) [⟨kapiScene, c1⟩] (by kernel_rfl) (by kernel_rfl)
    (Eq.mp (show (law22_marked.M  c1 h Q) = interp Try.prog 75 (weave (Try.f39.body.getD .skip) law22_marked.mk) [] (rho0 [⟨kapiScene, c1⟩]) [] h (retK Try.prog [.tmp 2] false .bool Q) (fun _ _ _ _ => False) (retK Try.prog [.tmp 2] false .bool Q) from by kernel_rfl) H)

theorem ref22_acts.br {s1 : Den kapiScene} {h : Heap} {Q : Int → Heap → Prop} (H : ref22_acts.M  s1 h Q) :
    CallT Try.prog 40 [Kd.val kapiScene s1] false (.int .i64) h Q :=
  fn_sound (c := weave (Try.f40.body.getD .skip) ref22_acts.mk) Try.func40 (by kernel_rfl) Try.ntmps40 (rs := [.tmp 2]) (by kernel_rfl) [⟨kapiScene, s1⟩] (by kernel_rfl) (by kernel_rfl)
    (Eq.mp (show (ref22_acts.M  s1 h Q) = interp Try.prog 21 (weave (Try.f40.body.getD .skip) ref22_acts.mk) [] (rho0 [⟨kapiScene, s1⟩]) [] h (retK Try.prog [.tmp 2] false (.int .i64) Q) (fun _ _ _ _ => False) (retK Try.prog [.tmp 2] false (.int .i64) Q) from by kernel_rfl) H)

theorem law22_same.br {a1 : Sl} {b2 : Sl} {h : Heap} {Q : Bool → Heap → Prop} (H : law22_same.M  a1 b2 h Q) :
    CallT Try.prog 46 [Kd.val .sl a1, Kd.val .sl b2] false .bool h Q :=
  fn_sound (c := weave (Try.f46.body.getD .skip) law22_same.mk) Try.func46 (by kernel_rfl) Try.ntmps46 (rs := [.tmp 4]) (by kernel_rfl) [⟨.sl, a1⟩, ⟨.sl, b2⟩] (by kernel_rfl) (by kernel_rfl)
    (Eq.mp (show (law22_same.M  a1 b2 h Q) = interp Try.prog 26 (weave (Try.f46.body.getD .skip) law22_same.mk) [] (rho0 [⟨.sl, a1⟩, ⟨.sl, b2⟩]) [] h (retK Try.prog [.tmp 4] false .bool Q) (fun _ _ _ _ => False) (retK Try.prog [.tmp 4] false .bool Q) from by kernel_rfl) H)

theorem explore_ready.br {s1 : Den kapiScene} {picks2 : Sl} {h : Heap} {Q : Int → Heap → Prop} (H : explore_ready.M (fun x0 h K => CallT Try.prog 15 [Kd.val kapiScene x0] false (.int .i64) h K) (fun x0 x1 h K => CallT Try.prog 64 [Kd.val kapiScene x0, Kd.val .sl x1] false .bool h K) s1 picks2 h Q) :
    CallT Try.prog 47 [Kd.val kapiScene s1, Kd.val .sl picks2] false (.int .i64) h Q :=
  fn_sound (c := weave (Try.f47.body.getD .skip) explore_ready.mk) Try.func47 (by kernel_rfl) Try.ntmps47 (rs := [.tmp 4]) (by kernel_rfl) [⟨kapiScene, s1⟩, ⟨.sl, picks2⟩] (by kernel_rfl) (by kernel_rfl)
    (Eq.mp (show (explore_ready.M (fun x0 h K => CallT Try.prog 15 [Kd.val kapiScene x0] false (.int .i64) h K) (fun x0 x1 h K => CallT Try.prog 64 [Kd.val kapiScene x0, Kd.val .sl x1] false .bool h K) s1 picks2 h Q) = interp Try.prog 15 (weave (Try.f47.body.getD .skip) explore_ready.mk) [] (rho0 [⟨kapiScene, s1⟩, ⟨.sl, picks2⟩]) [] h (retK Try.prog [.tmp 4] false (.int .i64) Q) (fun _ _ _ _ => False) (retK Try.prog [.tmp 4] false (.int .i64) Q) from by kernel_rfl) H)

theorem ref22_Bad.br {s1 : Den kapiScene} {picks2 : Sl} {h : Heap} {Q : Int → Heap → Prop} (H : ref22_Bad.M (fun x0 h K => CallT Try.prog 16 [Kd.val kapiScene x0] false (.int .i64) h K) (fun x0 x1 h K => CallT Try.prog 65 [Kd.val kapiScene x0, Kd.val .sl x1] false .bool h K) s1 picks2 h Q) :
    CallT Try.prog 50 [Kd.val kapiScene s1, Kd.val .sl picks2] false (.int .i64) h Q :=
  fn_sound (c := weave (Try.f50.body.getD .skip) ref22_Bad.mk) Try.func50 (by kernel_rfl) Try.ntmps50 (rs := [.tmp 4]) (by kernel_rfl) [⟨kapiScene, s1⟩, ⟨.sl, picks2⟩] (by kernel_rfl) (by kernel_rfl)
    (Eq.mp (show (ref22_Bad.M (fun x0 h K => CallT Try.prog 16 [Kd.val kapiScene x0] false (.int .i64) h K) (fun x0 x1 h K => CallT Try.prog 65 [Kd.val kapiScene x0, Kd.val .sl x1] false .bool h K) s1 picks2 h Q) = interp Try.prog 17 (weave (Try.f50.body.getD .skip) ref22_Bad.mk) [] (rho0 [⟨kapiScene, s1⟩, ⟨.sl, picks2⟩]) [] h (retK Try.prog [.tmp 4] false (.int .i64) Q) (fun _ _ _ _ => False) (retK Try.prog [.tmp 4] false (.int .i64) Q) from by kernel_rfl) H)

theorem explore_play.br {s1 : Den kapiScene} {picks2 : Sl} {h : Heap} {Q : Den kapiEnding → Heap → Prop} (H : explore_play.M (fun x0 h K => CallT Try.prog 66 [Kd.val (.int .i64) x0] true (.pair .ptr (.pair (.int .i64) .nil)) h K) (fun x0 x1 h K => CallT Try.prog 67 [Kd.val .ptr x0, Kd.val (.int .i64) x1] true kcellsledger h K) (fun x0 x1 x2 h K => CallT Try.prog 68 [Kd.val .ptr x0, Kd.val (.int .i64) x1, Kd.val (.int .i64) x2] false (.int .i64) h K) (fun x0 x1 h K => CallT Try.prog 69 [Kd.val .ptr x0, Kd.val kapiAct x1] false kapiEffect h K) (fun x0 h K => CallT Try.prog 70 [Kd.val .ptr x0] false .sl h K) s1 picks2 h Q) :
    CallT Try.prog 52 [Kd.val kapiScene s1, Kd.val .sl picks2] false kapiEnding h Q :=
  fn_sound (c := weave (Try.f52.body.getD .skip) explore_play.mk) Try.func52 (by kernel_rfl) Try.ntmps52 (rs := [.cell 4 51]) (by kernel_rfl) [⟨kapiScene, s1⟩, ⟨.sl, picks2⟩] (by kernel_rfl) (by kernel_rfl)
    (Eq.mp (show (explore_play.M (fun x0 h K => CallT Try.prog 66 [Kd.val (.int .i64) x0] true (.pair .ptr (.pair (.int .i64) .nil)) h K) (fun x0 x1 h K => CallT Try.prog 67 [Kd.val .ptr x0, Kd.val (.int .i64) x1] true kcellsledger h K) (fun x0 x1 x2 h K => CallT Try.prog 68 [Kd.val .ptr x0, Kd.val (.int .i64) x1, Kd.val (.int .i64) x2] false (.int .i64) h K) (fun x0 x1 h K => CallT Try.prog 69 [Kd.val .ptr x0, Kd.val kapiAct x1] false kapiEffect h K) (fun x0 h K => CallT Try.prog 70 [Kd.val .ptr x0] false .sl h K) s1 picks2 h Q) = interp Try.prog 84 (weave (Try.f52.body.getD .skip) explore_play.mk) [] (rho0 [⟨kapiScene, s1⟩, ⟨.sl, picks2⟩]) [] h (retK Try.prog [.cell 4 51] false kapiEnding Q) (fun _ _ _ _ => False) (retK Try.prog [.cell 4 51] false kapiEnding Q) from by kernel_rfl) H)

theorem ref22_play.br {s1 : Den kapiScene} {picks2 : Sl} {h : Heap} {Q : Den kapiEnding → Heap → Prop} (H : ref22_play.M (fun x0 x1 h K => CallT Try.prog 61 [Kd.val kapiScene x0, Kd.val .sl x1] false .sl h K) (fun x0 x1 x2 h K => CallT Try.prog 71 [Kd.val kapiScene x0, Kd.val .sl x1, Kd.val kapiAct x2] true (.pair kapiEffect (.pair .sl .nil)) h K) s1 picks2 h Q) :
    CallT Try.prog 53 [Kd.val kapiScene s1, Kd.val .sl picks2] false kapiEnding h Q :=
  fn_sound (c := weave (Try.f53.body.getD .skip) ref22_play.mk) Try.func53 (by kernel_rfl) Try.ntmps53 (rs := [.cell 4 51]) (by kernel_rfl) [⟨kapiScene, s1⟩, ⟨.sl, picks2⟩] (by kernel_rfl) (by kernel_rfl)
    (Eq.mp (show (ref22_play.M (fun x0 x1 h K => CallT Try.prog 61 [Kd.val kapiScene x0, Kd.val .sl x1] false .sl h K) (fun x0 x1 x2 h K => CallT Try.prog 71 [Kd.val kapiScene x0, Kd.val .sl x1, Kd.val kapiAct x2] true (.pair kapiEffect (.pair .sl .nil)) h K) s1 picks2 h Q) = interp Try.prog 73 (weave (Try.f53.body.getD .skip) ref22_play.mk) [] (rho0 [⟨kapiScene, s1⟩, ⟨.sl, picks2⟩]) [] h (retK Try.prog [.cell 4 51] false kapiEnding Q) (fun _ _ _ _ => False) (retK Try.prog [.cell 4 51] false kapiEnding Q) from by kernel_rfl) H)

theorem ref22_Row.br {s1 : Den kapiScene} {picks2 : Sl} {h : Heap} {Q : Sl → Heap → Prop} (H : ref22_Row.M  s1 picks2 h Q) :
    CallT Try.prog 61 [Kd.val kapiScene s1, Kd.val .sl picks2] false .sl h Q :=
  fn_sound (c := weave (Try.f61.body.getD .skip) ref22_Row.mk) Try.func61 (by kernel_rfl) Try.ntmps61 (rs := [.tmp 4]) (by kernel_rfl) [⟨kapiScene, s1⟩, ⟨.sl, picks2⟩] (by kernel_rfl) (by kernel_rfl)
    (Eq.mp (show (ref22_Row.M  s1 picks2 h Q) = interp Try.prog 40 (weave (Try.f61.body.getD .skip) ref22_Row.mk) [] (rho0 [⟨kapiScene, s1⟩, ⟨.sl, picks2⟩]) [] h (retK Try.prog [.tmp 4] false .sl Q) (fun _ _ _ _ => False) (retK Try.prog [.tmp 4] false .sl Q) from by kernel_rfl) H)

theorem explore_isScript.br {s1 : Den kapiScene} {picks2 : Sl} {h : Heap} {Q : Bool → Heap → Prop} (H : explore_isScript.M (fun x0 x1 h K => CallT Try.prog 81 [Kd.val .sl x0, Kd.val .fn x1] false .bool h K) s1 picks2 h Q) :
    CallT Try.prog 64 [Kd.val kapiScene s1, Kd.val .sl picks2] false .bool h Q :=
  fn_sound (c := weave (Try.f64.body.getD .skip) explore_isScript.mk) Try.func64 (by kernel_rfl) Try.ntmps64 (rs := [.tmp 4]) (by kernel_rfl) [⟨kapiScene, s1⟩, ⟨.sl, picks2⟩] (by kernel_rfl) (by kernel_rfl)
    (Eq.mp (show (explore_isScript.M (fun x0 x1 h K => CallT Try.prog 81 [Kd.val .sl x0, Kd.val .fn x1] false .bool h K) s1 picks2 h Q) = interp Try.prog 59 (weave (Try.f64.body.getD .skip) explore_isScript.mk) [] (rho0 [⟨kapiScene, s1⟩, ⟨.sl, picks2⟩]) [] h (retK Try.prog [.tmp 4] false .bool Q) (fun _ _ _ _ => False) (retK Try.prog [.tmp 4] false .bool Q) from by kernel_rfl) H)

theorem ref22_Script.br {s1 : Den kapiScene} {picks2 : Sl} {h : Heap} {Q : Bool → Heap → Prop} (H : ref22_Script.M (fun x0 h K => CallT Try.prog 40 [Kd.val kapiScene x0] false (.int .i64) h K) s1 picks2 h Q) :
    CallT Try.prog 65 [Kd.val kapiScene s1, Kd.val .sl picks2] false .bool h Q :=
  fn_sound (c := weave (Try.f65.body.getD .skip) ref22_Script.mk) Try.func65 (by kernel_rfl) Try.ntmps65 (rs := [.tmp 4]) (by kernel_rfl) [⟨kapiScene, s1⟩, ⟨.sl, picks2⟩] (by kernel_rfl) (by kernel_rfl)
    (Eq.mp (show (ref22_Script.M (fun x0 h K => CallT Try.prog 40 [Kd.val kapiScene x0] false (.int .i64) h K) s1 picks2 h Q) = interp Try.prog 55 (weave (Try.f65.body.getD .skip) ref22_Script.mk) [] (rho0 [⟨kapiScene, s1⟩, ⟨.sl, picks2⟩]) [] h (retK Try.prog [.tmp 4] false .bool Q) (fun _ _ _ _ => False) (retK Try.prog [.tmp 4] false .bool Q) from by kernel_rfl) H)

theorem cells_New.br {size1 : Int} {h : Heap} {Q : (Option Addr × (Int × Unit)) → Heap → Prop} (H : cells_New.M (fun x0 h K => CallT Try.prog 83 [Kd.val (.int .i64) x0] false .bool h K) size1 h Q) :
    CallT Try.prog 66 [Kd.val (.int .i64) size1] true (.pair .ptr (.pair (.int .i64) .nil)) h Q :=
  fn_sound (c := weave (Try.f66.body.getD .skip) cells_New.mk) Try.func66 (by kernel_rfl) Try.ntmps66 (rs := [.tmp 2, .tmp 3]) (by kernel_rfl) [⟨(.int .i64), size1⟩] (by kernel_rfl) (by kernel_rfl)
    (Eq.mp (show (cells_New.M (fun x0 h K => CallT Try.prog 83 [Kd.val (.int .i64) x0] false .bool h K) size1 h Q) = interp Try.prog 11 (weave (Try.f66.body.getD .skip) cells_New.mk) [] (rho0 [⟨(.int .i64), size1⟩]) [] h (retK Try.prog [.tmp 2, .tmp 3] true (.pair .ptr (.pair (.int .i64) .nil)) Q) (fun _ _ _ _ => False) (retK Try.prog [.tmp 2, .tmp 3] true (.pair .ptr (.pair (.int .i64) .nil)) Q) from by kernel_rfl) H)

theorem cells_Arena_Reserve.br {a1 : Option Addr} {n2 : Int} {h : Heap} {Q : Den kcellsledger → Heap → Prop} (H : cells_Arena_Reserve.M (fun x0 x1 h K => CallT Try.prog 84 [Kd.val .ptr x0, Kd.val (.int .i64) x1] false (.int .i64) h K) (fun x0 x1 h K => CallT Try.prog 85 [Kd.val .ptr x0, Kd.val (.int .i64) x1] false (.int .i64) h K) (fun x0 x1 x2 x3 x4 x5 h K => CallT Try.prog 86 [Kd.val .ptr x0, Kd.val (.int .i64) x1, Kd.val (.int .i64) x2, Kd.val (.int .i64) x3, Kd.val (.int .i64) x4, Kd.val .bool x5] true .nil h K) a1 n2 h Q) :
    CallT Try.prog 67 [Kd.val .ptr a1, Kd.val (.int .i64) n2] true kcellsledger h Q :=
  fn_sound (c := weave (Try.f67.body.getD .skip) cells_Arena_Reserve.mk) Try.func67 (by kernel_rfl) Try.ntmps67 (rs := [.tmp 4, .tmp 5]) (by kernel_rfl) [⟨.ptr, a1⟩, ⟨(.int .i64), n2⟩] (by kernel_rfl) (by kernel_rfl)
    (Eq.mp (show (cells_Arena_Reserve.M (fun x0 x1 h K => CallT Try.prog 84 [Kd.val .ptr x0, Kd.val (.int .i64) x1] false (.int .i64) h K) (fun x0 x1 h K => CallT Try.prog 85 [Kd.val .ptr x0, Kd.val (.int .i64) x1] false (.int .i64) h K) (fun x0 x1 x2 x3 x4 x5 h K => CallT Try.prog 86 [Kd.val .ptr x0, Kd.val (.int .i64) x1, Kd.val (.int .i64) x2, Kd.val (.int .i64) x3, Kd.val (.int .i64) x4, Kd.val .bool x5] true .nil h K) a1 n2 h Q) = interp Try.prog 37 (weave (Try.f67.body.getD .skip) cells_Arena_Reserve.mk) [] (rho0 [⟨.ptr, a1⟩, ⟨(.int .i64), n2⟩]) [] h (retK Try.prog [.tmp 4, .tmp 5] true kcellsledger Q) (fun _ _ _ _ => False) (retK Try.prog [.tmp 4, .tmp 5] true kcellsledger Q) from by kernel_rfl) H)

theorem cells_Arena_Store.br {a1 : Option Addr} {addr2 : Int} {v3 : Int} {h : Heap} {Q : Int → Heap → Prop} (H : cells_Arena_Store.M (fun x0 x1 h K => CallT Try.prog 87 [Kd.val .ptr x0, Kd.val (.int .i64) x1] false .bool h K) (fun x0 x1 x2 x3 x4 x5 h K => CallT Try.prog 86 [Kd.val .ptr x0, Kd.val (.int .i64) x1, Kd.val (.int .i64) x2, Kd.val (.int .i64) x3, Kd.val (.int .i64) x4, Kd.val .bool x5] true .nil h K) a1 addr2 v3 h Q) :
    CallT Try.prog 68 [Kd.val .ptr a1, Kd.val (.int .i64) addr2, Kd.val (.int .i64) v3] false (.int .i64) h Q :=
  fn_sound (c := weave (Try.f68.body.getD .skip) cells_Arena_Store.mk) Try.func68 (by kernel_rfl) Try.ntmps68 (rs := [.tmp 6]) (by kernel_rfl) [⟨.ptr, a1⟩, ⟨(.int .i64), addr2⟩, ⟨(.int .i64), v3⟩] (by kernel_rfl) (by kernel_rfl)
    (Eq.mp (show (cells_Arena_Store.M (fun x0 x1 h K => CallT Try.prog 87 [Kd.val .ptr x0, Kd.val (.int .i64) x1] false .bool h K) (fun x0 x1 x2 x3 x4 x5 h K => CallT Try.prog 86 [Kd.val .ptr x0, Kd.val (.int .i64) x1, Kd.val (.int .i64) x2, Kd.val (.int .i64) x3, Kd.val (.int .i64) x4, Kd.val .bool x5] true .nil h K) a1 addr2 v3 h Q) = interp Try.prog 21 (weave (Try.f68.body.getD .skip) cells_Arena_Store.mk) [] (rho0 [⟨.ptr, a1⟩, ⟨(.int .i64), addr2⟩, ⟨(.int .i64), v3⟩]) [] h (retK Try.prog [.tmp 6] false (.int .i64) Q) (fun _ _ _ _ => False) (retK Try.prog [.tmp 6] false (.int .i64) Q) from by kernel_rfl) H)

theorem explore_act.br {a1 : Option Addr} {x2 : Den kapiAct} {h : Heap} {Q : Den kapiEffect → Heap → Prop} (H : explore_act.M (fun x0 x1 h K => CallT Try.prog 88 [Kd.val .ptr x0, Kd.val (.int .i64) x1] true kcellsledger h K) (fun x0 x1 x2 h K => CallT Try.prog 68 [Kd.val .ptr x0, Kd.val (.int .i64) x1, Kd.val (.int .i64) x2] false (.int .i64) h K) (fun x0 x1 x2 x3 h K => CallT Try.prog 89 [Kd.val .ptr x0, Kd.val (.int .i64) x1, Kd.val (.int .i64) x2, Kd.val (.int .i64) x3] true (.pair .bool (.pair (.int .i64) .nil)) h K) (fun x0 x1 x2 h K => CallT Try.prog 90 [Kd.val .ptr x0, Kd.val (.int .i64) x1, Kd.val (.int .i64) x2] true kcellsledger h K) (fun x0 x1 h K => CallT Try.prog 67 [Kd.val .ptr x0, Kd.val (.int .i64) x1] true kcellsledger h K) a1 x2 h Q) :
    CallT Try.prog 69 [Kd.val .ptr a1, Kd.val kapiAct x2] false kapiEffect h Q :=
  fn_sound (c := weave (Try.f69.body.getD .skip) explore_act.mk) Try.func69 (by kernel_rfl) Try.ntmps69 (rs := [.cell 4 87]) (by kernel_rfl) [⟨.ptr, a1⟩, ⟨kapiAct, x2⟩] (by kernel_rfl) (by kernel_rfl)
    (Eq.mp (show (explore_act.M (fun x0 x1 h K => CallT Try.prog 88 [Kd.val .ptr x0, Kd.val (.int .i64) x1] true kcellsledger h K) (fun x0 x1 x2 h K => CallT Try.prog 68 [Kd.val .ptr x0, Kd.val (.int .i64) x1, Kd.val (.int .i64) x2] false (.int .i64) h K) (fun x0 x1 x2 x3 h K => CallT Try.prog 89 [Kd.val .ptr x0, Kd.val (.int .i64) x1, Kd.val (.int .i64) x2, Kd.val (.int .i64) x3] true (.pair .bool (.pair (.int .i64) .nil)) h K) (fun x0 x1 x2 h K => CallT Try.prog 90 [Kd.val .ptr x0, Kd.val (.int .i64) x1, Kd.val (.int .i64) x2] true kcellsledger h K) (fun x0 x1 h K => CallT Try.prog 67 [Kd.val .ptr x0, Kd.val (.int .i64) x1] true kcellsledger h K) a1 x2 h Q) = interp Try.prog 74 (weave (Try.f69.body.getD .skip) explore_act.mk) [] (rho0 [⟨.ptr, a1⟩, ⟨kapiAct, x2⟩]) [] h (retK Try.prog [.cell 4 87] false kapiEffect Q) (fun _ _ _ _ => False) (retK Try.prog [.cell 4 87] false kapiEffect Q) from by kernel_rfl) H)

theorem cells_Arena_Cells.br {a1 : Option Addr} {h : Heap} {Q : Sl → Heap → Prop} (H : cells_Arena_Cells.M  a1 h Q) :
    CallT Try.prog 70 [Kd.val .ptr a1] false .sl h Q :=
  fn_sound (c := weave (Try.f70.body.getD .skip) cells_Arena_Cells.mk) Try.func70 (by kernel_rfl) Try.ntmps70 (rs := [.tmp 2]) (by kernel_rfl) [⟨.ptr, a1⟩] (by kernel_rfl) (by kernel_rfl)
    (Eq.mp (show (cells_Arena_Cells.M  a1 h Q) = interp Try.prog 19 (weave (Try.f70.body.getD .skip) cells_Arena_Cells.mk) [] (rho0 [⟨.ptr, a1⟩]) [] h (retK Try.prog [.tmp 2] false .sl Q) (fun _ _ _ _ => False) (retK Try.prog [.tmp 2] false .sl Q) from by kernel_rfl) H)

theorem ref22_do.br {s1 : Den kapiScene} {cells2 : Sl} {x3 : Den kapiAct} {h : Heap} {Q : (Den kapiEffect × (Sl × Unit)) → Heap → Prop} (H : ref22_do.M  s1 cells2 x3 h Q) :
    CallT Try.prog 71 [Kd.val kapiScene s1, Kd.val .sl cells2, Kd.val kapiAct x3] true (.pair kapiEffect (.pair .sl .nil)) h Q :=
  fn_sound (c := weave (Try.f71.body.getD .skip) ref22_do.mk) Try.func71 (by kernel_rfl) Try.ntmps71 (rs := [.cell 6 87, .tmp 7]) (by kernel_rfl) [⟨kapiScene, s1⟩, ⟨.sl, cells2⟩, ⟨kapiAct, x3⟩] (by kernel_rfl) (by kernel_rfl)
    (Eq.mp (show (ref22_do.M  s1 cells2 x3 h Q) = interp Try.prog 114 (weave (Try.f71.body.getD .skip) ref22_do.mk) [] (rho0 [⟨kapiScene, s1⟩, ⟨.sl, cells2⟩, ⟨kapiAct, x3⟩]) [] h (retK Try.prog [.cell 6 87, .tmp 7] true (.pair kapiEffect (.pair .sl .nil)) Q) (fun _ _ _ _ => False) (retK Try.prog [.cell 6 87, .tmp 7] true (.pair kapiEffect (.pair .sl .nil)) Q) from by kernel_rfl) H)

theorem slices_ContainsFunc_int_int.br {s1 : Sl} {f2 : Value} {h : Heap} {Q : Bool → Heap → Prop} (H : slices_ContainsFunc_int_int.M (fun x0 x1 h K => CallT Try.prog 95 [Kd.val .sl x0, Kd.val .fn x1] false (.int .i64) h K) s1 f2 h Q) :
    CallT Try.prog 81 [Kd.val .sl s1, Kd.val .fn f2] false .bool h Q :=
  fn_sound (c := weave (Try.f81.body.getD .skip) slices_ContainsFunc_int_int.mk) Try.func81 (by kernel_rfl) Try.ntmps81 (rs := [.tmp 4]) (by kernel_rfl) [⟨.sl, s1⟩, ⟨.fn, f2⟩] (by kernel_rfl) (by kernel_rfl)
    (Eq.mp (show (slices_ContainsFunc_int_int.M (fun x0 x1 h K => CallT Try.prog 95 [Kd.val .sl x0, Kd.val .fn x1] false (.int .i64) h K) s1 f2 h Q) = interp Try.prog 9 (weave (Try.f81.body.getD .skip) slices_ContainsFunc_int_int.mk) [] (rho0 [⟨.sl, s1⟩, ⟨.fn, f2⟩]) [] h (retK Try.prog [.tmp 4] false .bool Q) (fun _ _ _ _ => False) (retK Try.prog [.tmp 4] false .bool Q) from by kernel_rfl) H)

theorem explore_isScript_1.br {n1 : Int} {h : Heap} {Q : Bool → Heap → Prop} (H : explore_isScript_1.M  n1 h Q) :
    CallT Try.prog 82 [Kd.val (.int .i64) n1] false .bool h Q :=
  fn_sound (c := weave (Try.f82.body.getD .skip) explore_isScript_1.mk) Try.func82 (by kernel_rfl) Try.ntmps82 (rs := [.tmp 2]) (by kernel_rfl) [⟨(.int .i64), n1⟩] (by kernel_rfl) (by kernel_rfl)
    (Eq.mp (show (explore_isScript_1.M  n1 h Q) = interp Try.prog 5 (weave (Try.f82.body.getD .skip) explore_isScript_1.mk) [] (rho0 [⟨(.int .i64), n1⟩]) [] h (retK Try.prog [.tmp 2] false .bool Q) (fun _ _ _ _ => False) (retK Try.prog [.tmp 2] false .bool Q) from by kernel_rfl) H)

theorem cells_good.br {size1 : Int} {h : Heap} {Q : Bool → Heap → Prop} (H : cells_good.M  size1 h Q) :
    CallT Try.prog 83 [Kd.val (.int .i64) size1] false .bool h Q :=
  fn_sound (c := weave (Try.f83.body.getD .skip) cells_good.mk) Try.func83 (by kernel_rfl) Try.ntmps83 (rs := [.tmp 2]) (by kernel_rfl) [⟨(.int .i64), size1⟩] (by kernel_rfl) (by kernel_rfl)
    (Eq.mp (show (cells_good.M  size1 h Q) = interp Try.prog 9 (weave (Try.f83.body.getD .skip) cells_good.mk) [] (rho0 [⟨(.int .i64), size1⟩]) [] h (retK Try.prog [.tmp 2] false .bool Q) (fun _ _ _ _ => False) (retK Try.prog [.tmp 2] false .bool Q) from by kernel_rfl) H)

theorem cells_ledger_refuse.br {l1 : Option Addr} {n2 : Int} {h : Heap} {Q : Int → Heap → Prop} (H : cells_ledger_refuse.M  l1 n2 h Q) :
    CallT Try.prog 84 [Kd.val .ptr l1, Kd.val (.int .i64) n2] false (.int .i64) h Q :=
  fn_sound (c := weave (Try.f84.body.getD .skip) cells_ledger_refuse.mk) Try.func84 (by kernel_rfl) Try.ntmps84 (rs := [.tmp 4]) (by kernel_rfl) [⟨.ptr, l1⟩, ⟨(.int .i64), n2⟩] (by kernel_rfl) (by kernel_rfl)
    (Eq.mp (show (cells_ledger_refuse.M  l1 n2 h Q) = interp Try.prog 22 (weave (Try.f84.body.getD .skip) cells_ledger_refuse.mk) [] (rho0 [⟨.ptr, l1⟩, ⟨(.int .i64), n2⟩]) [] h (retK Try.prog [.tmp 4] false (.int .i64) Q) (fun _ _ _ _ => False) (retK Try.prog [.tmp 4] false (.int .i64) Q) from by kernel_rfl) H)

theorem cells_ledger_take.br {l1 : Option Addr} {n2 : Int} {h : Heap} {Q : Int → Heap → Prop} (H : cells_ledger_take.M  l1 n2 h Q) :
    CallT Try.prog 85 [Kd.val .ptr l1, Kd.val (.int .i64) n2] false (.int .i64) h Q :=
  fn_sound (c := weave (Try.f85.body.getD .skip) cells_ledger_take.mk) Try.func85 (by kernel_rfl) Try.ntmps85 (rs := [.tmp 4]) (by kernel_rfl) [⟨.ptr, l1⟩, ⟨(.int .i64), n2⟩] (by kernel_rfl) (by kernel_rfl)
    (Eq.mp (show (cells_ledger_take.M  l1 n2 h Q) = interp Try.prog 19 (weave (Try.f85.body.getD .skip) cells_ledger_take.mk) [] (rho0 [⟨.ptr, l1⟩, ⟨(.int .i64), n2⟩]) [] h (retK Try.prog [.tmp 4] false (.int .i64) Q) (fun _ _ _ _ => False) (retK Try.prog [.tmp 4] false (.int .i64) Q) from by kernel_rfl) H)

theorem cells_Arena_note.br {a1 : Option Addr} {kind2 : Int} {addr3 : Int} {x4 : Int} {y5 : Int} {ok6 : Bool} {h : Heap} {Q : Unit → Heap → Prop} (H : cells_Arena_note.M  a1 kind2 addr3 x4 y5 ok6 h Q) :
    CallT Try.prog 86 [Kd.val .ptr a1, Kd.val (.int .i64) kind2, Kd.val (.int .i64) addr3, Kd.val (.int .i64) x4, Kd.val (.int .i64) y5, Kd.val .bool ok6] true .nil h Q :=
  fn_sound (c := weave (Try.f86.body.getD .skip) cells_Arena_note.mk) Try.func86 (by kernel_rfl) Try.ntmps86 (rs := []) (by kernel_rfl) [⟨.ptr, a1⟩, ⟨(.int .i64), kind2⟩, ⟨(.int .i64), addr3⟩, ⟨(.int .i64), x4⟩, ⟨(.int .i64), y5⟩, ⟨.bool, ok6⟩] (by kernel_rfl) (by kernel_rfl)
    (Eq.mp (show (cells_Arena_note.M  a1 kind2 addr3 x4 y5 ok6 h Q) = interp Try.prog 35 (weave (Try.f86.body.getD .skip) cells_Arena_note.mk) [] (rho0 [⟨.ptr, a1⟩, ⟨(.int .i64), kind2⟩, ⟨(.int .i64), addr3⟩, ⟨(.int .i64), x4⟩, ⟨(.int .i64), y5⟩, ⟨.bool, ok6⟩]) [] h (retK Try.prog [] true .nil Q) (fun _ _ _ _ => False) (retK Try.prog [] true .nil Q) from by kernel_rfl) H)

theorem cells_Arena_outside.br {a1 : Option Addr} {addr2 : Int} {h : Heap} {Q : Bool → Heap → Prop} (H : cells_Arena_outside.M (fun x0 x1 h K => CallT Try.prog 96 [Kd.val .ptr x0, Kd.val (.int .i64) x1] false .bool h K) a1 addr2 h Q) :
    CallT Try.prog 87 [Kd.val .ptr a1, Kd.val (.int .i64) addr2] false .bool h Q :=
  fn_sound (c := weave (Try.f87.body.getD .skip) cells_Arena_outside.mk) Try.func87 (by kernel_rfl) Try.ntmps87 (rs := [.tmp 4]) (by kernel_rfl) [⟨.ptr, a1⟩, ⟨(.int .i64), addr2⟩] (by kernel_rfl) (by kernel_rfl)
    (Eq.mp (show (cells_Arena_outside.M (fun x0 x1 h K => CallT Try.prog 96 [Kd.val .ptr x0, Kd.val (.int .i64) x1] false .bool h K) a1 addr2 h Q) = interp Try.prog 15 (weave (Try.f87.body.getD .skip) cells_Arena_outside.mk) [] (rho0 [⟨.ptr, a1⟩, ⟨(.int .i64), addr2⟩]) [] h (retK Try.prog [.tmp 4] false .bool Q) (fun _ _ _ _ => False) (retK Try.prog [.tmp 4] false .bool Q) from by kernel_rfl) H)

theorem cells_Arena_Load.br {a1 : Option Addr} {addr2 : Int} {h : Heap} {Q : Den kcellsledger → Heap → Prop} (H : cells_Arena_Load.M (fun x0 x1 h K => CallT Try.prog 87 [Kd.val .ptr x0, Kd.val (.int .i64) x1] false .bool h K) (fun x0 x1 x2 x3 x4 x5 h K => CallT Try.prog 86 [Kd.val .ptr x0, Kd.val (.int .i64) x1, Kd.val (.int .i64) x2, Kd.val (.int .i64) x3, Kd.val (.int .i64) x4, Kd.val .bool x5] true .nil h K) a1 addr2 h Q) :
    CallT Try.prog 88 [Kd.val .ptr a1, Kd.val (.int .i64) addr2] true kcellsledger h Q :=
  fn_sound (c := weave (Try.f88.body.getD .skip) cells_Arena_Load.mk) Try.func88 (by kernel_rfl) Try.ntmps88 (rs := [.tmp 4, .tmp 5]) (by kernel_rfl) [⟨.ptr, a1⟩, ⟨(.int .i64), addr2⟩] (by kernel_rfl) (by kernel_rfl)
    (Eq.mp (show (cells_Arena_Load.M (fun x0 x1 h K => CallT Try.prog 87 [Kd.val .ptr x0, Kd.val (.int .i64) x1] false .bool h K) (fun x0 x1 x2 x3 x4 x5 h K => CallT Try.prog 86 [Kd.val .ptr x0, Kd.val (.int .i64) x1, Kd.val (.int .i64) x2, Kd.val (.int .i64) x3, Kd.val (.int .i64) x4, Kd.val .bool x5] true .nil h K) a1 addr2 h Q) = interp Try.prog 22 (weave (Try.f88.body.getD .skip) cells_Arena_Load.mk) [] (rho0 [⟨.ptr, a1⟩, ⟨(.int .i64), addr2⟩]) [] h (retK Try.prog [.tmp 4, .tmp 5] true kcellsledger Q) (fun _ _ _ _ => False) (retK Try.prog [.tmp 4, .tmp 5] true kcellsledger Q) from by kernel_rfl) H)

theorem cells_Arena_CAS.br {a1 : Option Addr} {addr2 : Int} {old3 : Int} {next4 : Int} {h : Heap} {Q : (Bool × (Int × Unit)) → Heap → Prop} (H : cells_Arena_CAS.M (fun x0 x1 h K => CallT Try.prog 87 [Kd.val .ptr x0, Kd.val (.int .i64) x1] false .bool h K) (fun x0 x1 x2 x3 x4 x5 h K => CallT Try.prog 86 [Kd.val .ptr x0, Kd.val (.int .i64) x1, Kd.val (.int .i64) x2, Kd.val (.int .i64) x3, Kd.val (.int .i64) x4, Kd.val .bool x5] true .nil h K) a1 addr2 old3 next4 h Q) :
    CallT Try.prog 89 [Kd.val .ptr a1, Kd.val (.int .i64) addr2, Kd.val (.int .i64) old3, Kd.val (.int .i64) next4] true (.pair .bool (.pair (.int .i64) .nil)) h Q :=
  fn_sound (c := weave (Try.f89.body.getD .skip) cells_Arena_CAS.mk) Try.func89 (by kernel_rfl) Try.ntmps89 (rs := [.tmp 8, .tmp 9]) (by kernel_rfl) [⟨.ptr, a1⟩, ⟨(.int .i64), addr2⟩, ⟨(.int .i64), old3⟩, ⟨(.int .i64), next4⟩] (by kernel_rfl) (by kernel_rfl)
    (Eq.mp (show (cells_Arena_CAS.M (fun x0 x1 h K => CallT Try.prog 87 [Kd.val .ptr x0, Kd.val (.int .i64) x1] false .bool h K) (fun x0 x1 x2 x3 x4 x5 h K => CallT Try.prog 86 [Kd.val .ptr x0, Kd.val (.int .i64) x1, Kd.val (.int .i64) x2, Kd.val (.int .i64) x3, Kd.val (.int .i64) x4, Kd.val .bool x5] true .nil h K) a1 addr2 old3 next4 h Q) = interp Try.prog 38 (weave (Try.f89.body.getD .skip) cells_Arena_CAS.mk) [] (rho0 [⟨.ptr, a1⟩, ⟨(.int .i64), addr2⟩, ⟨(.int .i64), old3⟩, ⟨(.int .i64), next4⟩]) [] h (retK Try.prog [.tmp 8, .tmp 9] true (.pair .bool (.pair (.int .i64) .nil)) Q) (fun _ _ _ _ => False) (retK Try.prog [.tmp 8, .tmp 9] true (.pair .bool (.pair (.int .i64) .nil)) Q) from by kernel_rfl) H)

theorem cells_Arena_Add.br {a1 : Option Addr} {addr2 : Int} {d3 : Int} {h : Heap} {Q : Den kcellsledger → Heap → Prop} (H : cells_Arena_Add.M (fun x0 x1 h K => CallT Try.prog 87 [Kd.val .ptr x0, Kd.val (.int .i64) x1] false .bool h K) (fun x0 x1 x2 x3 x4 x5 h K => CallT Try.prog 86 [Kd.val .ptr x0, Kd.val (.int .i64) x1, Kd.val (.int .i64) x2, Kd.val (.int .i64) x3, Kd.val (.int .i64) x4, Kd.val .bool x5] true .nil h K) a1 addr2 d3 h Q) :
    CallT Try.prog 90 [Kd.val .ptr a1, Kd.val (.int .i64) addr2, Kd.val (.int .i64) d3] true kcellsledger h Q :=
  fn_sound (c := weave (Try.f90.body.getD .skip) cells_Arena_Add.mk) Try.func90 (by kernel_rfl) Try.ntmps90 (rs := [.tmp 6, .tmp 7]) (by kernel_rfl) [⟨.ptr, a1⟩, ⟨(.int .i64), addr2⟩, ⟨(.int .i64), d3⟩] (by kernel_rfl) (by kernel_rfl)
    (Eq.mp (show (cells_Arena_Add.M (fun x0 x1 h K => CallT Try.prog 87 [Kd.val .ptr x0, Kd.val (.int .i64) x1] false .bool h K) (fun x0 x1 x2 x3 x4 x5 h K => CallT Try.prog 86 [Kd.val .ptr x0, Kd.val (.int .i64) x1, Kd.val (.int .i64) x2, Kd.val (.int .i64) x3, Kd.val (.int .i64) x4, Kd.val .bool x5] true .nil h K) a1 addr2 d3 h Q) = interp Try.prog 39 (weave (Try.f90.body.getD .skip) cells_Arena_Add.mk) [] (rho0 [⟨.ptr, a1⟩, ⟨(.int .i64), addr2⟩, ⟨(.int .i64), d3⟩]) [] h (retK Try.prog [.tmp 6, .tmp 7] true kcellsledger Q) (fun _ _ _ _ => False) (retK Try.prog [.tmp 6, .tmp 7] true kcellsledger Q) from by kernel_rfl) H)

theorem slices_IndexFunc_int_int.br {s1 : Sl} {f2 : Value} {h : Heap} {Q : Int → Heap → Prop} (H : slices_IndexFunc_int_int.M (fun x0 x1 h K => FnT Try.prog x0 [Kd.val (.int .i64) x1] false .bool h K) s1 f2 h Q) :
    CallT Try.prog 95 [Kd.val .sl s1, Kd.val .fn f2] false (.int .i64) h Q :=
  fn_sound (c := weave (Try.f95.body.getD .skip) slices_IndexFunc_int_int.mk) Try.func95 (by kernel_rfl) Try.ntmps95 (rs := [.tmp 4]) (by kernel_rfl) [⟨.sl, s1⟩, ⟨.fn, f2⟩] (by kernel_rfl) (by kernel_rfl)
    (Eq.mp (show (slices_IndexFunc_int_int.M (fun x0 x1 h K => FnT Try.prog x0 [Kd.val (.int .i64) x1] false .bool h K) s1 f2 h Q) = interp Try.prog 19 (weave (Try.f95.body.getD .skip) slices_IndexFunc_int_int.mk) [] (rho0 [⟨.sl, s1⟩, ⟨.fn, f2⟩]) [] h (retK Try.prog [.tmp 4] false (.int .i64) Q) (fun _ _ _ _ => False) (retK Try.prog [.tmp 4] false (.int .i64) Q) from by kernel_rfl) H)

theorem cells_ledger_has.br {l1 : Option Addr} {addr2 : Int} {h : Heap} {Q : Bool → Heap → Prop} (H : cells_ledger_has.M  l1 addr2 h Q) :
    CallT Try.prog 96 [Kd.val .ptr l1, Kd.val (.int .i64) addr2] false .bool h Q :=
  fn_sound (c := weave (Try.f96.body.getD .skip) cells_ledger_has.mk) Try.func96 (by kernel_rfl) Try.ntmps96 (rs := [.tmp 4]) (by kernel_rfl) [⟨.ptr, l1⟩, ⟨(.int .i64), addr2⟩] (by kernel_rfl) (by kernel_rfl)
    (Eq.mp (show (cells_ledger_has.M  l1 addr2 h Q) = interp Try.prog 15 (weave (Try.f96.body.getD .skip) cells_ledger_has.mk) [] (rho0 [⟨.ptr, l1⟩, ⟨(.int .i64), addr2⟩]) [] h (retK Try.prog [.tmp 4] false .bool Q) (fun _ _ _ _ => False) (retK Try.prog [.tmp 4] false .bool Q) from by kernel_rfl) H)

end Go.Mx
