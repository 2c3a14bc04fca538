/-
  The bridges: a function's calls, by what it comes to over abstract heaps: printed by a program of this workplace.
-/
import Derived.Test.YtanfmmcpjifgiabMd
import Derived.Test.YtanfmmcpjifgiabProg
set_option linter.unusedVariables false
set_option maxRecDepth 100000
namespace Go.Mx
open Go.Proofs
theorem law22_ExploreAll.br {s1 : Den kapiScene} {h : Heap} {Q : Bool → Heap → Prop} (H : law22_ExploreAll.M (fun x0 h K => CallT Try.prog 9 [Kd.val kapiScene x0] false kapiScene h K) (fun x0 h K => CallT Try.prog 10 [Kd.val kapiScene x0] true .nil h K) (fun x0 h K => CallT Try.prog 17 [Kd.val kapiScene x0] true (.pair .sl (.pair (.int .i64) .nil)) h K) (fun x0 x1 h K => CallT Try.prog 12 [Kd.val kapiScene x0, Kd.val kapiScene x1] true .nil h K) (fun x0 h K => CallT Try.prog 18 [Kd.val .sl x0] false (.int .i64) h K) (fun x0 h K => CallT Try.prog 19 [Kd.val kapiScene x0] true (.pair .sl (.pair (.int .i64) .nil)) h K) (fun x0 x1 h K => CallT Try.prog 20 [Kd.val .sl x0, Kd.val .sl x1] false .bool h K) (fun x0 x1 h K => CallT Try.prog 14 [Kd.val kapiScene x0, Kd.val kapiScene x1] false .bool h K) (fun x0 h K => CallT Try.prog 21 [Kd.val .sl x0] false .bool h K) s1 h Q) :
    CallT Try.prog 5 [Kd.val kapiScene s1] false .bool h Q :=
  fn_sound2 (c := weave (Try.f5.body.getD .skip) law22_ExploreAll.mk) Try.func5 (by kernel_rfl) Try.ntmps5 (rs := [.tmp 2]) (by kernel_rfl) [⟨kapiScene, s1⟩] (by kernel_rfl) (by kernel_rfl) (by kernel_rfl) (by kernel_rfl) H

theorem law22_ExploreKin.br {s1 : Den kapiScene} {picks2 : Sl} {h : Heap} {Q : Bool → Heap → Prop} (H : law22_ExploreKin.M (fun x0 h K => CallT Try.prog 9 [Kd.val kapiScene x0] false kapiScene h K) (fun x0 h K => CallT Try.prog 10 [Kd.val kapiScene x0] true .nil h K) (fun x0 h K => CallT Try.prog 22 [Kd.val .sl x0] false .sl h K) (fun x0 x1 h K => CallT Try.prog 23 [Kd.val kapiScene x0, Kd.val .sl x1] true kcellsledger h K) (fun x0 x1 h K => CallT Try.prog 12 [Kd.val kapiScene x0, Kd.val kapiScene x1] true .nil h K) (fun x0 x1 h K => CallT Try.prog 24 [Kd.val .sl x0, Kd.val .sl x1] true .nil h K) (fun x0 x1 h K => CallT Try.prog 25 [Kd.val kapiScene x0, Kd.val .sl x1] true kcellsledger h K) (fun x0 x1 h K => CallT Try.prog 14 [Kd.val kapiScene x0, Kd.val kapiScene x1] false .bool h K) (fun x0 x1 h K => CallT Try.prog 26 [Kd.val .sl x0, Kd.val .sl x1] false .bool h K) s1 picks2 h Q) :
    CallT Try.prog 6 [Kd.val kapiScene s1, Kd.val .sl picks2] false .bool h Q :=
  fn_sound2 (c := weave (Try.f6.body.getD .skip) law22_ExploreKin.mk) Try.func6 (by kernel_rfl) Try.ntmps6 (rs := [.tmp 4]) (by kernel_rfl) [⟨kapiScene, s1⟩, ⟨.sl, picks2⟩] (by kernel_rfl) (by kernel_rfl) (by kernel_rfl) (by kernel_rfl) H

theorem law22_ExploreFinals.br {s1 : Den kapiScene} {h : Heap} {Q : Bool → Heap → Prop} (H : law22_ExploreFinals.M (fun x0 h K => CallT Try.prog 9 [Kd.val kapiScene x0] false kapiScene h K) (fun x0 h K => CallT Try.prog 10 [Kd.val kapiScene x0] true .nil h K) (fun x0 h K => CallT Try.prog 32 [Kd.val kapiScene x0] true (.pair .sl (.pair (.int .i64) .nil)) h K) (fun x0 x1 h K => CallT Try.prog 12 [Kd.val kapiScene x0, Kd.val kapiScene x1] true .nil h K) (fun x0 h K => CallT Try.prog 33 [Kd.val kapiScene x0] true (.pair .sl (.pair (.int .i64) .nil)) h K) (fun x0 x1 h K => CallT Try.prog 14 [Kd.val kapiScene x0, Kd.val kapiScene x1] false .bool h K) (fun x0 x1 h K => CallT Try.prog 34 [Kd.val .sl x0, Kd.val .sl x1] false .bool h K) (fun x0 h K => CallT Try.prog 29 [Kd.val .sl x0] false .bool h K) s1 h Q) :
    CallT Try.prog 8 [Kd.val kapiScene s1] false .bool h Q :=
  fn_sound2 (c := weave (Try.f8.body.getD .skip) law22_ExploreFinals.mk) Try.func8 (by kernel_rfl) Try.ntmps8 (rs := [.tmp 2]) (by kernel_rfl) [⟨kapiScene, s1⟩] (by kernel_rfl) (by kernel_rfl) (by kernel_rfl) (by kernel_rfl) H

theorem law22_copied.br {s1 : Den kapiScene} {h : Heap} {Q : Den kapiScene → Heap → Prop} (H : law22_copied.M  s1 h Q) :
    CallT Try.prog 9 [Kd.val kapiScene s1] false kapiScene h Q :=
  fn_sound2 (c := weave (Try.f9.body.getD .skip) law22_copied.mk) Try.func9 (by kernel_rfl) Try.ntmps9 (rs := [.cell 2 25]) (by kernel_rfl) [⟨kapiScene, s1⟩] (by kernel_rfl) (by kernel_rfl) (by kernel_rfl) (by kernel_rfl) H

theorem law22_moved.br {c1 : Den kapiScene} {h : Heap} {Q : Unit → Heap → Prop} (H : law22_moved.M  c1 h Q) :
    CallT Try.prog 10 [Kd.val kapiScene c1] true .nil h Q :=
  fn_sound2 (c := weave (Try.f10.body.getD .skip) law22_moved.mk) Try.func10 (by kernel_rfl) Try.ntmps10 (rs := []) (by kernel_rfl) [⟨kapiScene, c1⟩] (by kernel_rfl) (by kernel_rfl) (by kernel_rfl) (by kernel_rfl) H

theorem explore_Depends.br {s1 : Den kapiScene} {x2 : Den kapiAct} {y3 : Den kapiAct} {h : Heap} {Q : Bool → Heap → Prop} (H : explore_Depends.M (fun x0 h K => CallT Try.prog 35 [Kd.val kapiAct x0] false .bool h K) (fun x0 x1 h K => CallT Try.prog 36 [Kd.val kapiScene x0, Kd.val kapiAct x1] false .bool h K) s1 x2 y3 h Q) :
    CallT Try.prog 11 [Kd.val kapiScene s1, Kd.val kapiAct x2, Kd.val kapiAct y3] false .bool h Q :=
  fn_sound2 (c := weave (Try.f11.body.getD .skip) explore_Depends.mk) Try.func11 (by kernel_rfl) Try.ntmps11 (rs := [.tmp 6]) (by kernel_rfl) [⟨kapiScene, s1⟩, ⟨kapiAct, x2⟩, ⟨kapiAct, y3⟩] (by kernel_rfl) (by kernel_rfl) (by kernel_rfl) (by kernel_rfl) H

theorem law22_back.br {c1 : Den kapiScene} {s2 : Den kapiScene} {h : Heap} {Q : Unit → Heap → Prop} (H : law22_back.M  c1 s2 h Q) :
    CallT Try.prog 12 [Kd.val kapiScene c1, Kd.val kapiScene s2] true .nil h Q :=
  fn_sound2 (c := weave (Try.f12.body.getD .skip) law22_back.mk) Try.func12 (by kernel_rfl) Try.ntmps12 (rs := []) (by kernel_rfl) [⟨kapiScene, c1⟩, ⟨kapiScene, s2⟩] (by kernel_rfl) (by kernel_rfl) (by kernel_rfl) (by kernel_rfl) H

theorem ref22_Depends.br {s1 : Den kapiScene} {x2 : Den kapiAct} {y3 : Den kapiAct} {h : Heap} {Q : Bool → Heap → Prop} (H : ref22_Depends.M (fun x0 x1 h K => CallT Try.prog 37 [Kd.val kapiScene x0, Kd.val kapiAct x1] false (.int .i64) h K) (fun x0 h K => CallT Try.prog 38 [Kd.val kapiAct x0] false .bool h K) s1 x2 y3 h Q) :
    CallT Try.prog 13 [Kd.val kapiScene s1, Kd.val kapiAct x2, Kd.val kapiAct y3] false .bool h Q :=
  fn_sound2 (c := weave (Try.f13.body.getD .skip) ref22_Depends.mk) Try.func13 (by kernel_rfl) Try.ntmps13 (rs := [.tmp 6]) (by kernel_rfl) [⟨kapiScene, s1⟩, ⟨kapiAct, x2⟩, ⟨kapiAct, y3⟩] (by kernel_rfl) (by kernel_rfl) (by kernel_rfl) (by kernel_rfl) H

theorem law22_alike.br {a1 : Den kapiScene} {b2 : Den kapiScene} {h : Heap} {Q : Bool → Heap → Prop} (H : law22_alike.M (fun x0 h K => CallT Try.prog 39 [Kd.val kapiScene x0] false .bool h K) (fun x0 x1 h K => CallT Try.prog 34 [Kd.val .sl x0, Kd.val .sl x1] false .bool h K) a1 b2 h Q) :
    CallT Try.prog 14 [Kd.val kapiScene a1, Kd.val kapiScene b2] false .bool h Q :=
  fn_sound2 (c := weave (Try.f14.body.getD .skip) law22_alike.mk) Try.func14 (by kernel_rfl) Try.ntmps14 (rs := [.tmp 4]) (by kernel_rfl) [⟨kapiScene, a1⟩, ⟨kapiScene, b2⟩] (by kernel_rfl) (by kernel_rfl) (by kernel_rfl) (by kernel_rfl) H

theorem explore_Check.br {s1 : Den kapiScene} {h : Heap} {Q : Int → Heap → Prop} (H : explore_Check.M  s1 h Q) :
    CallT Try.prog 15 [Kd.val kapiScene s1] false (.int .i64) h Q :=
  fn_sound2 (c := weave (Try.f15.body.getD .skip) explore_Check.mk) Try.func15 (by kernel_rfl) Try.ntmps15 (rs := [.tmp 2]) (by kernel_rfl) [⟨kapiScene, s1⟩] (by kernel_rfl) (by kernel_rfl) (by kernel_rfl) (by kernel_rfl) H

theorem ref22_Check.br {s1 : Den kapiScene} {h : Heap} {Q : Int → Heap → Prop} (H : ref22_Check.M (fun x0 h K => CallT Try.prog 40 [Kd.val kapiScene x0] false (.int .i64) h K) s1 h Q) :
    CallT Try.prog 16 [Kd.val kapiScene s1] false (.int .i64) h Q :=
  fn_sound2 (c := weave (Try.f16.body.getD .skip) ref22_Check.mk) Try.func16 (by kernel_rfl) Try.ntmps16 (rs := [.tmp 2]) (by kernel_rfl) [⟨kapiScene, s1⟩] (by kernel_rfl) (by kernel_rfl) (by kernel_rfl) (by kernel_rfl) H

theorem explore_Explore.br {s1 : Den kapiScene} {h : Heap} {Q : (Sl × (Int × Unit)) → Heap → Prop} (H : explore_Explore.M (fun x0 h K => CallT Try.prog 15 [Kd.val kapiScene x0] false (.int .i64) h K) (fun x0 h K => CallT Try.prog 41 [Kd.val kapiScene x0] false .fn h K) (fun x0 x1 h K => FnY Try.prog x0 [Kd.val .sl x1] false .bool h K) (fun x0 x1 h K => FnT Try.prog x0 [Kd.val .fn x1] true .nil h K) s1 h Q) :
    CallT Try.prog 17 [Kd.val kapiScene s1] true (.pair .sl (.pair (.int .i64) .nil)) h Q :=
  fn_sound2 (c := weave (Try.f17.body.getD .skip) explore_Explore.mk) Try.func17 (by kernel_rfl) Try.ntmps17 (rs := [.tmp 2, .tmp 3]) (by kernel_rfl) [⟨kapiScene, s1⟩] (by kernel_rfl) (by kernel_rfl) (by kernel_rfl) (by kernel_rfl) H

theorem law22_spoilt.br {l1 : Sl} {h : Heap} {Q : Int → Heap → Prop} (H : law22_spoilt.M (fun x0 x1 h K => CallT Try.prog 42 [Kd.val .sl x0, Kd.val (.int .i64) x1] false .sl h K) l1 h Q) :
    CallT Try.prog 18 [Kd.val .sl l1] false (.int .i64) h Q :=
  fn_sound2 (c := weave (Try.f18.body.getD .skip) law22_spoilt.mk) Try.func18 (by kernel_rfl) Try.ntmps18 (rs := [.tmp 2]) (by kernel_rfl) [⟨.sl, l1⟩] (by kernel_rfl) (by kernel_rfl) (by kernel_rfl) (by kernel_rfl) H

theorem ref22_Explore.br {s1 : Den kapiScene} {h : Heap} {Q : (Sl × (Int × Unit)) → Heap → Prop} (H : ref22_Explore.M (fun x0 h K => CallT Try.prog 16 [Kd.val kapiScene x0] false (.int .i64) h K) (fun x0 h K => CallT Try.prog 43 [Kd.val kapiScene x0] false .sl h K) (fun x0 x1 h K => CallT Try.prog 44 [Kd.val kapiScene x0, Kd.val .sl x1] false .sl h K) (fun x0 x1 h K => CallT Try.prog 45 [Kd.val .sl x0, Kd.val .sl x1] false .bool h K) s1 h Q) :
    CallT Try.prog 19 [Kd.val kapiScene s1] true (.pair .sl (.pair (.int .i64) .nil)) h Q :=
  fn_sound2 (c := weave (Try.f19.body.getD .skip) ref22_Explore.mk) Try.func19 (by kernel_rfl) Try.ntmps19 (rs := [.tmp 2, .tmp 3]) (by kernel_rfl) [⟨kapiScene, s1⟩] (by kernel_rfl) (by kernel_rfl) (by kernel_rfl) (by kernel_rfl) H

theorem law22_sameLists.br {a1 : Sl} {b2 : Sl} {h : Heap} {Q : Bool → Heap → Prop} (H : law22_sameLists.M (fun x0 x1 h K => CallT Try.prog 46 [Kd.val .sl x0, Kd.val .sl x1] false .bool h K) a1 b2 h Q) :
    CallT Try.prog 20 [Kd.val .sl a1, Kd.val .sl b2] false .bool h Q :=
  fn_sound2 (c := weave (Try.f20.body.getD .skip) law22_sameLists.mk) Try.func20 (by kernel_rfl) Try.ntmps20 (rs := [.tmp 4]) (by kernel_rfl) [⟨.sl, a1⟩, ⟨.sl, b2⟩] (by kernel_rfl) (by kernel_rfl) (by kernel_rfl) (by kernel_rfl) H

theorem law22_apart.br {l1 : Sl} {h : Heap} {Q : Bool → Heap → Prop} (H : law22_apart.M (fun x0 x1 h K => CallT Try.prog 42 [Kd.val .sl x0, Kd.val (.int .i64) x1] false .sl h K) l1 h Q) :
    CallT Try.prog 21 [Kd.val .sl l1] false .bool h Q :=
  fn_sound2 (c := weave (Try.f21.body.getD .skip) law22_apart.mk) Try.func21 (by kernel_rfl) Try.ntmps21 (rs := [.tmp 2]) (by kernel_rfl) [⟨.sl, l1⟩] (by kernel_rfl) (by kernel_rfl) (by kernel_rfl) (by kernel_rfl) H

theorem law22_turned.br {list1 : Sl} {h : Heap} {Q : Sl → Heap → Prop} (H : law22_turned.M  list1 h Q) :
    CallT Try.prog 22 [Kd.val .sl list1] false .sl h Q :=
  fn_sound2 (c := weave (Try.f22.body.getD .skip) law22_turned.mk) Try.func22 (by kernel_rfl) Try.ntmps22 (rs := [.tmp 2]) (by kernel_rfl) [⟨.sl, list1⟩] (by kernel_rfl) (by kernel_rfl) (by kernel_rfl) (by kernel_rfl) H

theorem explore_Kin.br {s1 : Den kapiScene} {picks2 : Sl} {h : Heap} {Q : Den kcellsledger → Heap → Prop} (H : explore_Kin.M (fun x0 x1 h K => CallT Try.prog 47 [Kd.val kapiScene x0, Kd.val .sl x1] false (.int .i64) h K) (fun x0 x1 h K => CallT Try.prog 48 [Kd.val kapiScene x0, Kd.val .sl x1] false .sl h K) (fun x0 x1 x2 h K => CallT Try.prog 11 [Kd.val kapiScene x0, Kd.val kapiAct x1, Kd.val kapiAct x2] false .bool h K) (fun x0 x1 x2 h K => CallT Try.prog 49 [Kd.val .sl x0, Kd.val (.arr 4 (.int .i64)) x1, Kd.val .map x2] false (.int .i64) h K) s1 picks2 h Q) :
    CallT Try.prog 23 [Kd.val kapiScene s1, Kd.val .sl picks2] true kcellsledger h Q :=
  fn_sound2 (c := weave (Try.f23.body.getD .skip) explore_Kin.mk) Try.func23 (by kernel_rfl) Try.ntmps23 (rs := [.tmp 4, .tmp 5]) (by kernel_rfl) [⟨kapiScene, s1⟩, ⟨.sl, picks2⟩] (by kernel_rfl) (by kernel_rfl) (by kernel_rfl) (by kernel_rfl) H

theorem law22_written.br {l1 : Sl} {list2 : Sl} {h : Heap} {Q : Unit → Heap → Prop} (H : law22_written.M  l1 list2 h Q) :
    CallT Try.prog 24 [Kd.val .sl l1, Kd.val .sl list2] true .nil h Q :=
  fn_sound2 (c := weave (Try.f24.body.getD .skip) law22_written.mk) Try.func24 (by kernel_rfl) Try.ntmps24 (rs := []) (by kernel_rfl) [⟨.sl, l1⟩, ⟨.sl, list2⟩] (by kernel_rfl) (by kernel_rfl) (by kernel_rfl) (by kernel_rfl) H

theorem ref22_Kin.br {s1 : Den kapiScene} {picks2 : Sl} {h : Heap} {Q : Den kcellsledger → Heap → Prop} (H : ref22_Kin.M (fun x0 x1 h K => CallT Try.prog 50 [Kd.val kapiScene x0, Kd.val .sl x1] false (.int .i64) h K) (fun x0 h K => CallT Try.prog 43 [Kd.val kapiScene x0] false .sl h K) (fun x0 x1 x2 h K => CallT Try.prog 51 [Kd.val kapiScene x0, Kd.val .sl x1, Kd.val .sl x2] false .bool h K) s1 picks2 h Q) :
    CallT Try.prog 25 [Kd.val kapiScene s1, Kd.val .sl picks2] true kcellsledger h Q :=
  fn_sound2 (c := weave (Try.f25.body.getD .skip) ref22_Kin.mk) Try.func25 (by kernel_rfl) Try.ntmps25 (rs := [.tmp 4, .tmp 5]) (by kernel_rfl) [⟨kapiScene, s1⟩, ⟨.sl, picks2⟩] (by kernel_rfl) (by kernel_rfl) (by kernel_rfl) (by kernel_rfl) H

theorem law22_kept.br {l1 : Sl} {list2 : Sl} {h : Heap} {Q : Bool → Heap → Prop} (H : law22_kept.M (fun x0 x1 h K => CallT Try.prog 46 [Kd.val .sl x0, Kd.val .sl x1] false .bool h K) l1 list2 h Q) :
    CallT Try.prog 26 [Kd.val .sl l1, Kd.val .sl list2] false .bool h Q :=
  fn_sound2 (c := weave (Try.f26.body.getD .skip) law22_kept.mk) Try.func26 (by kernel_rfl) Try.ntmps26 (rs := [.tmp 4]) (by kernel_rfl) [⟨.sl, l1⟩, ⟨.sl, list2⟩] (by kernel_rfl) (by kernel_rfl) (by kernel_rfl) (by kernel_rfl) H

theorem explore_Run.br {s1 : Den kapiScene} {picks2 : Sl} {h : Heap} {Q : (Den kapiEnding × (Int × Unit)) → Heap → Prop} (H : explore_Run.M (fun x0 x1 h K => CallT Try.prog 47 [Kd.val kapiScene x0, Kd.val .sl x1] false (.int .i64) h K) (fun x0 x1 h K => CallT Try.prog 52 [Kd.val kapiScene x0, Kd.val .sl x1] false kapiEnding h K) s1 picks2 h Q) :
    CallT Try.prog 27 [Kd.val kapiScene s1, Kd.val .sl picks2] true (.pair kapiEnding (.pair (.int .i64) .nil)) h Q :=
  fn_sound2 (c := weave (Try.f27.body.getD .skip) explore_Run.mk) Try.func27 (by kernel_rfl) Try.ntmps27 (rs := [.cell 4 51, .tmp 5]) (by kernel_rfl) [⟨kapiScene, s1⟩, ⟨.sl, picks2⟩] (by kernel_rfl) (by kernel_rfl) (by kernel_rfl) (by kernel_rfl) H

theorem law22_cellsApart.br {l1 : Sl} {h : Heap} {Q : Bool → Heap → Prop} (H : law22_cellsApart.M  l1 h Q) :
    CallT Try.prog 29 [Kd.val .sl l1] false .bool h Q :=
  fn_sound2 (c := weave (Try.f29.body.getD .skip) law22_cellsApart.mk) Try.func29 (by kernel_rfl) Try.ntmps29 (rs := [.tmp 2]) (by kernel_rfl) [⟨.sl, l1⟩] (by kernel_rfl) (by kernel_rfl) (by kernel_rfl) (by kernel_rfl) H

theorem explore_Finals.br {s1 : Den kapiScene} {h : Heap} {Q : (Sl × (Int × Unit)) → Heap → Prop} (H : explore_Finals.M (fun x0 h K => CallT Try.prog 15 [Kd.val kapiScene x0] false (.int .i64) h K) (fun x0 h K => CallT Try.prog 41 [Kd.val kapiScene x0] false .fn h K) (fun x0 x1 h K => CallT Try.prog 52 [Kd.val kapiScene x0, Kd.val .sl x1] false kapiEnding h K) (fun x0 x1 x2 h K => CallT Try.prog 54 [Kd.val .sl x0, Kd.val .sl x1, Kd.val .fn x2] true (.pair (.int .i64) (.pair .bool .nil)) h K) (fun x0 x1 x2 h K => CallT Try.prog 56 [Kd.val .sl x0, Kd.val (.int .i64) x1, Kd.val .sl x2] false .sl h K) (fun x0 x1 h K => FnY Try.prog x0 [Kd.val .sl x1] false .bool h K) (fun x0 x1 h K => FnT Try.prog x0 [Kd.val .fn x1] true .nil h K) s1 h Q) :
    CallT Try.prog 32 [Kd.val kapiScene s1] true (.pair .sl (.pair (.int .i64) .nil)) h Q :=
  fn_sound2 (c := weave (Try.f32.body.getD .skip) explore_Finals.mk) Try.func32 (by kernel_rfl) Try.ntmps32 (rs := [.tmp 2, .tmp 3]) (by kernel_rfl) [⟨kapiScene, s1⟩] (by kernel_rfl) (by kernel_rfl) (by kernel_rfl) (by kernel_rfl) H

theorem ref22_Finals.br {s1 : Den kapiScene} {h : Heap} {Q : (Sl × (Int × Unit)) → Heap → Prop} (H : ref22_Finals.M (fun x0 h K => CallT Try.prog 16 [Kd.val kapiScene x0] false (.int .i64) h K) (fun x0 h K => CallT Try.prog 43 [Kd.val kapiScene x0] false .sl h K) (fun x0 x1 h K => CallT Try.prog 53 [Kd.val kapiScene x0, Kd.val .sl x1] false kapiEnding h K) (fun x0 x1 h K => CallT Try.prog 57 [Kd.val .sl x0, Kd.val .sl x1] false .sl h K) s1 h Q) :
    CallT Try.prog 33 [Kd.val kapiScene s1] true (.pair .sl (.pair (.int .i64) .nil)) h Q :=
  fn_sound2 (c := weave (Try.f33.body.getD .skip) ref22_Finals.mk) Try.func33 (by kernel_rfl) Try.ntmps33 (rs := [.tmp 2, .tmp 3]) (by kernel_rfl) [⟨kapiScene, s1⟩] (by kernel_rfl) (by kernel_rfl) (by kernel_rfl) (by kernel_rfl) H

theorem law22_sameCells.br {a1 : Sl} {b2 : Sl} {h : Heap} {Q : Bool → Heap → Prop} (H : law22_sameCells.M  a1 b2 h Q) :
    CallT Try.prog 34 [Kd.val .sl a1, Kd.val .sl b2] false .bool h Q :=
  fn_sound2 (c := weave (Try.f34.body.getD .skip) law22_sameCells.mk) Try.func34 (by kernel_rfl) Try.ntmps34 (rs := [.tmp 4]) (by kernel_rfl) [⟨.sl, a1⟩, ⟨.sl, b2⟩] (by kernel_rfl) (by kernel_rfl) (by kernel_rfl) (by kernel_rfl) H

theorem explore_gives.br {x1 : Den kapiAct} {h : Heap} {Q : Bool → Heap → Prop} (H : explore_gives.M  x1 h Q) :
    CallT Try.prog 35 [Kd.val kapiAct x1] false .bool h Q :=
  fn_sound2 (c := weave (Try.f35.body.getD .skip) explore_gives.mk) Try.func35 (by kernel_rfl) Try.ntmps35 (rs := [.tmp 2]) (by kernel_rfl) [⟨kapiAct, x1⟩] (by kernel_rfl) (by kernel_rfl) (by kernel_rfl) (by kernel_rfl) H

theorem explore_touches.br {s1 : Den kapiScene} {x2 : Den kapiAct} {h : Heap} {Q : Bool → Heap → Prop} (H : explore_touches.M  s1 x2 h Q) :
    CallT Try.prog 36 [Kd.val kapiScene s1, Kd.val kapiAct x2] false .bool h Q :=
  fn_sound2 (c := weave (Try.f36.body.getD .skip) explore_touches.mk) Try.func36 (by kernel_rfl) Try.ntmps36 (rs := [.tmp 4]) (by kernel_rfl) [⟨kapiScene, s1⟩, ⟨kapiAct, x2⟩] (by kernel_rfl) (by kernel_rfl) (by kernel_rfl) (by kernel_rfl) H

theorem ref22_cell.br {s1 : Den kapiScene} {x2 : Den kapiAct} {h : Heap} {Q : Int → Heap → Prop} (H : ref22_cell.M  s1 x2 h Q) :
    CallT Try.prog 37 [Kd.val kapiScene s1, Kd.val kapiAct x2] false (.int .i64) h Q :=
  fn_sound2 (c := weave (Try.f37.body.getD .skip) ref22_cell.mk) Try.func37 (by kernel_rfl) Try.ntmps37 (rs := [.tmp 4]) (by kernel_rfl) [⟨kapiScene, s1⟩, ⟨kapiAct, x2⟩] (by kernel_rfl) (by kernel_rfl) (by kernel_rfl) (by kernel_rfl) H

theorem ref22_makes.br {x1 : Den kapiAct} {h : Heap} {Q : Bool → Heap → Prop} (H : ref22_makes.M  x1 h Q) :
    CallT Try.prog 38 [Kd.val kapiAct x1] false .bool h Q :=
  fn_sound2 (c := weave (Try.f38.body.getD .skip) ref22_makes.mk) Try.func38 (by kernel_rfl) Try.ntmps38 (rs := [.tmp 2]) (by kernel_rfl) [⟨kapiAct, x1⟩] (by kernel_rfl) (by kernel_rfl) (by kernel_rfl) (by kernel_rfl) H

theorem law22_marked.br {c1 : Den kapiScene} {h : Heap} {Q : Bool → Heap → Prop} (H : law22_marked.M  c1 h Q) :
    CallT Try.prog 39 [Kd.val kapiScene c1] false .bool h Q :=
  fn_sound2 (c := weave (Try.f39.body.getD .skip) law22_marked.mk) Try.func39 (by kernel_rfl) Try.ntmps39 (rs := [.tmp 2]) (by kernel_rfl) [⟨kapiScene, c1⟩] (by kernel_rfl) (by kernel_rfl) (by kernel_rfl) (by kernel_rfl) H

theorem ref22_acts.br {s1 : Den kapiScene} {h : Heap} {Q : Int → Heap → Prop} (H : ref22_acts.M  s1 h Q) :
    CallT Try.prog 40 [Kd.val kapiScene s1] false (.int .i64) h Q :=
  fn_sound2 (c := weave (Try.f40.body.getD .skip) ref22_acts.mk) Try.func40 (by kernel_rfl) Try.ntmps40 (rs := [.tmp 2]) (by kernel_rfl) [⟨kapiScene, s1⟩] (by kernel_rfl) (by kernel_rfl) (by kernel_rfl) (by kernel_rfl) H

theorem explore_traces.br {s1 : Den kapiScene} {h : Heap} {Q : Value → Heap → Prop} (H : explore_traces.M  s1 h Q) :
    CallT Try.prog 41 [Kd.val kapiScene s1] false .fn h Q :=
  fn_sound2 (c := weave (Try.f41.body.getD .skip) explore_traces.mk) Try.func41 (by kernel_rfl) Try.ntmps41 (rs := [.tmp 2]) (by kernel_rfl) [⟨kapiScene, s1⟩] (by kernel_rfl) (by kernel_rfl) (by kernel_rfl) (by kernel_rfl) H

theorem law22_longer.br {l1 : Sl} {mark2 : Int} {h : Heap} {Q : Sl → Heap → Prop} (H : law22_longer.M  l1 mark2 h Q) :
    CallT Try.prog 42 [Kd.val .sl l1, Kd.val (.int .i64) mark2] false .sl h Q :=
  fn_sound2 (c := weave (Try.f42.body.getD .skip) law22_longer.mk) Try.func42 (by kernel_rfl) Try.ntmps42 (rs := [.tmp 4]) (by kernel_rfl) [⟨.sl, l1⟩, ⟨(.int .i64), mark2⟩] (by kernel_rfl) (by kernel_rfl) (by kernel_rfl) (by kernel_rfl) H

theorem ref22_Scripts.br {s1 : Den kapiScene} {h : Heap} {Q : Sl → Heap → Prop} (H : ref22_Scripts.M (fun x0 x1 x2 h K => CallT Try.prog 60 [Kd.val kapiScene x0, Kd.val .sl x1, Kd.val .sl x2] false .sl h K) s1 h Q) :
    CallT Try.prog 43 [Kd.val kapiScene s1] false .sl h Q :=
  fn_sound2 (c := weave (Try.f43.body.getD .skip) ref22_Scripts.mk) Try.func43 (by kernel_rfl) Try.ntmps43 (rs := [.tmp 2]) (by kernel_rfl) [⟨kapiScene, s1⟩] (by kernel_rfl) (by kernel_rfl) (by kernel_rfl) (by kernel_rfl) H

theorem ref22_least.br {s1 : Den kapiScene} {picks2 : Sl} {h : Heap} {Q : Sl → Heap → Prop} (H : ref22_least.M (fun x0 x1 h K => CallT Try.prog 61 [Kd.val kapiScene x0, Kd.val .sl x1] false .sl h K) (fun x0 x1 x2 h K => CallT Try.prog 62 [Kd.val kapiScene x0, Kd.val .sl x1, Kd.val (.int .i64) x2] false (.int .i64) h K) (fun x0 x1 h K => CallT Try.prog 63 [Kd.val .sl x0, Kd.val (.int .i64) x1] false .sl h K) s1 picks2 h Q) :
    CallT Try.prog 44 [Kd.val kapiScene s1, Kd.val .sl picks2] false .sl h Q :=
  fn_sound2 (c := weave (Try.f44.body.getD .skip) ref22_least.mk) Try.func44 (by kernel_rfl) Try.ntmps44 (rs := [.tmp 4]) (by kernel_rfl) [⟨kapiScene, s1⟩, ⟨.sl, picks2⟩] (by kernel_rfl) (by kernel_rfl) (by kernel_rfl) (by kernel_rfl) H

theorem ref22_equal.br {a1 : Sl} {b2 : Sl} {h : Heap} {Q : Bool → Heap → Prop} (H : ref22_equal.M  a1 b2 h Q) :
    CallT Try.prog 45 [Kd.val .sl a1, Kd.val .sl b2] false .bool h Q :=
  fn_sound2 (c := weave (Try.f45.body.getD .skip) ref22_equal.mk) Try.func45 (by kernel_rfl) Try.ntmps45 (rs := [.tmp 4]) (by kernel_rfl) [⟨.sl, a1⟩, ⟨.sl, b2⟩] (by kernel_rfl) (by kernel_rfl) (by kernel_rfl) (by kernel_rfl) H

theorem law22_same.br {a1 : Sl} {b2 : Sl} {h : Heap} {Q : Bool → Heap → Prop} (H : law22_same.M  a1 b2 h Q) :
    CallT Try.prog 46 [Kd.val .sl a1, Kd.val .sl b2] false .bool h Q :=
  fn_sound2 (c := weave (Try.f46.body.getD .skip) law22_same.mk) Try.func46 (by kernel_rfl) Try.ntmps46 (rs := [.tmp 4]) (by kernel_rfl) [⟨.sl, a1⟩, ⟨.sl, b2⟩] (by kernel_rfl) (by kernel_rfl) (by kernel_rfl) (by kernel_rfl) H

theorem explore_ready.br {s1 : Den kapiScene} {picks2 : Sl} {h : Heap} {Q : Int → Heap → Prop} (H : explore_ready.M (fun x0 h K => CallT Try.prog 15 [Kd.val kapiScene x0] false (.int .i64) h K) (fun x0 x1 h K => CallT Try.prog 64 [Kd.val kapiScene x0, Kd.val .sl x1] false .bool h K) s1 picks2 h Q) :
    CallT Try.prog 47 [Kd.val kapiScene s1, Kd.val .sl picks2] false (.int .i64) h Q :=
  fn_sound2 (c := weave (Try.f47.body.getD .skip) explore_ready.mk) Try.func47 (by kernel_rfl) Try.ntmps47 (rs := [.tmp 4]) (by kernel_rfl) [⟨kapiScene, s1⟩, ⟨.sl, picks2⟩] (by kernel_rfl) (by kernel_rfl) (by kernel_rfl) (by kernel_rfl) H

theorem explore_steps.br {s1 : Den kapiScene} {picks2 : Sl} {h : Heap} {Q : Sl → Heap → Prop} (H : explore_steps.M (fun x0 x1 x2 h K => CallT Try.prog 11 [Kd.val kapiScene x0, Kd.val kapiAct x1, Kd.val kapiAct x2] false .bool h K) s1 picks2 h Q) :
    CallT Try.prog 48 [Kd.val kapiScene s1, Kd.val .sl picks2] false .sl h Q :=
  fn_sound2 (c := weave (Try.f48.body.getD .skip) explore_steps.mk) Try.func48 (by kernel_rfl) Try.ntmps48 (rs := [.tmp 4]) (by kernel_rfl) [⟨kapiScene, s1⟩, ⟨.sl, picks2⟩] (by kernel_rfl) (by kernel_rfl) (by kernel_rfl) (by kernel_rfl) H

theorem explore_ways.br {before1 : Sl} {at_2 : (Fin 4 → Int)} {known3 : Option Nat} {h : Heap} {Q : Int → Heap → Prop} (H : explore_ways.M (fun x0 x1 x2 h K => CallT Try.prog 49 [Kd.val .sl x0, Kd.val (.arr 4 (.int .i64)) x1, Kd.val .map x2] false (.int .i64) h K) before1 at_2 known3 h Q) :
    CallT Try.prog 49 [Kd.val .sl before1, Kd.val (.arr 4 (.int .i64)) at_2, Kd.val .map known3] false (.int .i64) h Q :=
  fn_sound2 (c := weave (Try.f49.body.getD .skip) explore_ways.mk) Try.func49 (by kernel_rfl) Try.ntmps49 (rs := [.tmp 6]) (by kernel_rfl) [⟨.sl, before1⟩, ⟨(.arr 4 (.int .i64)), at_2⟩, ⟨.map, known3⟩] (by kernel_rfl) (by kernel_rfl) (by kernel_rfl) (by kernel_rfl) H

theorem ref22_Bad.br {s1 : Den kapiScene} {picks2 : Sl} {h : Heap} {Q : Int → Heap → Prop} (H : ref22_Bad.M (fun x0 h K => CallT Try.prog 16 [Kd.val kapiScene x0] false (.int .i64) h K) (fun x0 x1 h K => CallT Try.prog 65 [Kd.val kapiScene x0, Kd.val .sl x1] false .bool h K) s1 picks2 h Q) :
    CallT Try.prog 50 [Kd.val kapiScene s1, Kd.val .sl picks2] false (.int .i64) h Q :=
  fn_sound2 (c := weave (Try.f50.body.getD .skip) ref22_Bad.mk) Try.func50 (by kernel_rfl) Try.ntmps50 (rs := [.tmp 4]) (by kernel_rfl) [⟨kapiScene, s1⟩, ⟨.sl, picks2⟩] (by kernel_rfl) (by kernel_rfl) (by kernel_rfl) (by kernel_rfl) H

theorem ref22_same.br {s1 : Den kapiScene} {p2 : Sl} {q3 : Sl} {h : Heap} {Q : Bool → Heap → Prop} (H : ref22_same.M (fun x0 x1 h K => CallT Try.prog 61 [Kd.val kapiScene x0, Kd.val .sl x1] false .sl h K) (fun x0 x1 x2 h K => CallT Try.prog 62 [Kd.val kapiScene x0, Kd.val .sl x1, Kd.val (.int .i64) x2] false (.int .i64) h K) (fun x0 x1 h K => CallT Try.prog 63 [Kd.val .sl x0, Kd.val (.int .i64) x1] false .sl h K) s1 p2 q3 h Q) :
    CallT Try.prog 51 [Kd.val kapiScene s1, Kd.val .sl p2, Kd.val .sl q3] false .bool h Q :=
  fn_sound2 (c := weave (Try.f51.body.getD .skip) ref22_same.mk) Try.func51 (by kernel_rfl) Try.ntmps51 (rs := [.tmp 6]) (by kernel_rfl) [⟨kapiScene, s1⟩, ⟨.sl, p2⟩, ⟨.sl, q3⟩] (by kernel_rfl) (by kernel_rfl) (by kernel_rfl) (by kernel_rfl) H

theorem explore_play.br {s1 : Den kapiScene} {picks2 : Sl} {h : Heap} {Q : Den kapiEnding → Heap → Prop} (H : explore_play.M (fun x0 h K => CallT Try.prog 66 [Kd.val (.int .i64) x0] true (.pair .ptr (.pair (.int .i64) .nil)) h K) (fun x0 x1 h K => CallT Try.prog 67 [Kd.val .ptr x0, Kd.val (.int .i64) x1] true kcellsledger h K) (fun x0 x1 x2 h K => CallT Try.prog 68 [Kd.val .ptr x0, Kd.val (.int .i64) x1, Kd.val (.int .i64) x2] false (.int .i64) h K) (fun x0 x1 h K => CallT Try.prog 69 [Kd.val .ptr x0, Kd.val kapiAct x1] false kapiEffect h K) (fun x0 h K => CallT Try.prog 70 [Kd.val .ptr x0] false .sl h K) s1 picks2 h Q) :
    CallT Try.prog 52 [Kd.val kapiScene s1, Kd.val .sl picks2] false kapiEnding h Q :=
  fn_sound2 (c := weave (Try.f52.body.getD .skip) explore_play.mk) Try.func52 (by kernel_rfl) Try.ntmps52 (rs := [.cell 4 51]) (by kernel_rfl) [⟨kapiScene, s1⟩, ⟨.sl, picks2⟩] (by kernel_rfl) (by kernel_rfl) (by kernel_rfl) (by kernel_rfl) H

theorem ref22_play.br {s1 : Den kapiScene} {picks2 : Sl} {h : Heap} {Q : Den kapiEnding → Heap → Prop} (H : ref22_play.M (fun x0 x1 h K => CallT Try.prog 61 [Kd.val kapiScene x0, Kd.val .sl x1] false .sl h K) (fun x0 x1 x2 h K => CallT Try.prog 71 [Kd.val kapiScene x0, Kd.val .sl x1, Kd.val kapiAct x2] true (.pair kapiEffect (.pair .sl .nil)) h K) s1 picks2 h Q) :
    CallT Try.prog 53 [Kd.val kapiScene s1, Kd.val .sl picks2] false kapiEnding h Q :=
  fn_sound2 (c := weave (Try.f53.body.getD .skip) ref22_play.mk) Try.func53 (by kernel_rfl) Try.ntmps53 (rs := [.cell 4 51]) (by kernel_rfl) [⟨kapiScene, s1⟩, ⟨.sl, picks2⟩] (by kernel_rfl) (by kernel_rfl) (by kernel_rfl) (by kernel_rfl) H

theorem slices_BinarySearchFunc_int64_int64_int64.br {x1 : Sl} {target2 : Sl} {cmp3 : Value} {h : Heap} {Q : (Int × (Bool × Unit)) → Heap → Prop} (H : slices_BinarySearchFunc_int64_int64_int64.M (fun x0 x1 x2 h K => FnT Try.prog x0 [Kd.val .sl x1, Kd.val .sl x2] false (.int .i64) h K) x1 target2 cmp3 h Q) :
    CallT Try.prog 54 [Kd.val .sl x1, Kd.val .sl target2, Kd.val .fn cmp3] true (.pair (.int .i64) (.pair .bool .nil)) h Q :=
  fn_sound2 (c := weave (Try.f54.body.getD .skip) slices_BinarySearchFunc_int64_int64_int64.mk) Try.func54 (by kernel_rfl) Try.ntmps54 (rs := [.tmp 6, .tmp 7]) (by kernel_rfl) [⟨.sl, x1⟩, ⟨.sl, target2⟩, ⟨.fn, cmp3⟩] (by kernel_rfl) (by kernel_rfl) (by kernel_rfl) (by kernel_rfl) H

theorem explore_lesser.br {a1 : Sl} {b2 : Sl} {h : Heap} {Q : Int → Heap → Prop} (H : explore_lesser.M (fun x0 x1 h K => CallT Try.prog 72 [Kd.val (.int .i64) x0, Kd.val (.int .i64) x1] false (.int .i64) h K) (fun x0 x1 h K => CallT Try.prog 73 [Kd.val .sl x0, Kd.val .sl x1] false (.int .i64) h K) a1 b2 h Q) :
    CallT Try.prog 55 [Kd.val .sl a1, Kd.val .sl b2] false (.int .i64) h Q :=
  fn_sound2 (c := weave (Try.f55.body.getD .skip) explore_lesser.mk) Try.func55 (by kernel_rfl) Try.ntmps55 (rs := [.tmp 4]) (by kernel_rfl) [⟨.sl, a1⟩, ⟨.sl, b2⟩] (by kernel_rfl) (by kernel_rfl) (by kernel_rfl) (by kernel_rfl) H

theorem slices_Insert_int64_int64.br {s1 : Sl} {i2 : Int} {v3 : Sl} {h : Heap} {Q : Sl → Heap → Prop} (H : slices_Insert_int64_int64.M (fun x0 x1 h K => ExtT Try.prog 74 [Kd.val .sl x0, Kd.val .sl x1] false .bool h K) (fun x0 x1 h K => CallT Try.prog 75 [Kd.val .sl x0, Kd.val (.int .i64) x1] true .nil h K) s1 i2 v3 h Q) :
    CallT Try.prog 56 [Kd.val .sl s1, Kd.val (.int .i64) i2, Kd.val .sl v3] false .sl h Q :=
  fn_sound2 (c := weave (Try.f56.body.getD .skip) slices_Insert_int64_int64.mk) Try.func56 (by kernel_rfl) Try.ntmps56 (rs := [.tmp 6]) (by kernel_rfl) [⟨.sl, s1⟩, ⟨(.int .i64), i2⟩, ⟨.sl, v3⟩] (by kernel_rfl) (by kernel_rfl) (by kernel_rfl) (by kernel_rfl) H

theorem ref22_put.br {l1 : Sl} {c2 : Sl} {h : Heap} {Q : Sl → Heap → Prop} (H : ref22_put.M (fun x0 x1 h K => CallT Try.prog 76 [Kd.val .sl x0, Kd.val .sl x1] false (.int .i64) h K) l1 c2 h Q) :
    CallT Try.prog 57 [Kd.val .sl l1, Kd.val .sl c2] false .sl h Q :=
  fn_sound2 (c := weave (Try.f57.body.getD .skip) ref22_put.mk) Try.func57 (by kernel_rfl) Try.ntmps57 (rs := [.tmp 4]) (by kernel_rfl) [⟨.sl, l1⟩, ⟨.sl, c2⟩] (by kernel_rfl) (by kernel_rfl) (by kernel_rfl) (by kernel_rfl) H

theorem explore_traces_1.br {yield1 : Value} {t2 : Option Addr} {h : Heap} {Q : Unit → Heap → Prop} (H : explore_traces_1.M (fun x0 x1 x2 h K => CallT Try.prog 59 [Kd.val .ptr x0, Kd.val .map x1, Kd.val .fn x2] false .bool h K) yield1 t2 h Q) :
    CallT Try.prog 58 [Kd.val .fn yield1, Kd.val .ptr t2] true .nil h Q :=
  fn_sound2 (c := weave (Try.f58.body.getD .skip) explore_traces_1.mk) Try.func58 (by kernel_rfl) Try.ntmps58 (rs := []) (by kernel_rfl) [⟨.fn, yield1⟩, ⟨.ptr, t2⟩] (by kernel_rfl) (by kernel_rfl) (by kernel_rfl) (by kernel_rfl) H

theorem explore_walk_down.br {w1 : Option Addr} {asleep2 : Option Nat} {yield3 : Value} {h : Heap} {Q : Bool → Heap → Prop} (H : explore_walk_down.M (fun x0 h K => CallT Try.prog 77 [Kd.val .map x0] false .map h K) (fun x0 x1 h K => CallT Try.prog 78 [Kd.val .ptr x0, Kd.val (.int .i64) x1] false kapiAct h K) (fun x0 x1 x2 h K => CallT Try.prog 11 [Kd.val kapiScene x0, Kd.val kapiAct x1, Kd.val kapiAct x2] false .bool h K) (fun x0 x1 x2 h K => CallT Try.prog 59 [Kd.val .ptr x0, Kd.val .map x1, Kd.val .fn x2] false .bool h K) (fun x0 h K => CallT Try.prog 79 [Kd.val .sl x0] false .sl h K) (fun x0 x1 h K => FnY Try.prog x0 [Kd.val .sl x1] false .bool h K) w1 asleep2 yield3 h Q) :
    CallT Try.prog 59 [Kd.val .ptr w1, Kd.val .map asleep2, Kd.val .fn yield3] false .bool h Q :=
  fn_sound2 (c := weave (Try.f59.body.getD .skip) explore_walk_down.mk) Try.func59 (by kernel_rfl) Try.ntmps59 (rs := [.tmp 6]) (by kernel_rfl) [⟨.ptr, w1⟩, ⟨.map, asleep2⟩, ⟨.fn, yield3⟩] (by kernel_rfl) (by kernel_rfl) (by kernel_rfl) (by kernel_rfl) H

theorem ref22_more.br {s1 : Den kapiScene} {picks2 : Sl} {l3 : Sl} {h : Heap} {Q : Sl → Heap → Prop} (H : ref22_more.M (fun x0 h K => CallT Try.prog 40 [Kd.val kapiScene x0] false (.int .i64) h K) (fun x0 x1 x2 h K => CallT Try.prog 60 [Kd.val kapiScene x0, Kd.val .sl x1, Kd.val .sl x2] false .sl h K) s1 picks2 l3 h Q) :
    CallT Try.prog 60 [Kd.val kapiScene s1, Kd.val .sl picks2, Kd.val .sl l3] false .sl h Q :=
  fn_sound2 (c := weave (Try.f60.body.getD .skip) ref22_more.mk) Try.func60 (by kernel_rfl) Try.ntmps60 (rs := [.tmp 6]) (by kernel_rfl) [⟨kapiScene, s1⟩, ⟨.sl, picks2⟩, ⟨.sl, l3⟩] (by kernel_rfl) (by kernel_rfl) (by kernel_rfl) (by kernel_rfl) H

theorem ref22_Row.br {s1 : Den kapiScene} {picks2 : Sl} {h : Heap} {Q : Sl → Heap → Prop} (H : ref22_Row.M  s1 picks2 h Q) :
    CallT Try.prog 61 [Kd.val kapiScene s1, Kd.val .sl picks2] false .sl h Q :=
  fn_sound2 (c := weave (Try.f61.body.getD .skip) ref22_Row.mk) Try.func61 (by kernel_rfl) Try.ntmps61 (rs := [.tmp 4]) (by kernel_rfl) [⟨kapiScene, s1⟩, ⟨.sl, picks2⟩] (by kernel_rfl) (by kernel_rfl) (by kernel_rfl) (by kernel_rfl) H

theorem ref22_first.br {s1 : Den kapiScene} {l2 : Sl} {who3 : Int} {h : Heap} {Q : Int → Heap → Prop} (H : ref22_first.M (fun x0 x1 x2 h K => CallT Try.prog 80 [Kd.val kapiScene x0, Kd.val kref22Act x1, Kd.val kref22Act x2] false .bool h K) s1 l2 who3 h Q) :
    CallT Try.prog 62 [Kd.val kapiScene s1, Kd.val .sl l2, Kd.val (.int .i64) who3] false (.int .i64) h Q :=
  fn_sound2 (c := weave (Try.f62.body.getD .skip) ref22_first.mk) Try.func62 (by kernel_rfl) Try.ntmps62 (rs := [.tmp 6]) (by kernel_rfl) [⟨kapiScene, s1⟩, ⟨.sl, l2⟩, ⟨(.int .i64), who3⟩] (by kernel_rfl) (by kernel_rfl) (by kernel_rfl) (by kernel_rfl) H

theorem ref22_without.br {l1 : Sl} {at_2 : Int} {h : Heap} {Q : Sl → Heap → Prop} (H : ref22_without.M  l1 at_2 h Q) :
    CallT Try.prog 63 [Kd.val .sl l1, Kd.val (.int .i64) at_2] false .sl h Q :=
  fn_sound2 (c := weave (Try.f63.body.getD .skip) ref22_without.mk) Try.func63 (by kernel_rfl) Try.ntmps63 (rs := [.tmp 4]) (by kernel_rfl) [⟨.sl, l1⟩, ⟨(.int .i64), at_2⟩] (by kernel_rfl) (by kernel_rfl) (by kernel_rfl) (by kernel_rfl) H

theorem explore_isScript.br {s1 : Den kapiScene} {picks2 : Sl} {h : Heap} {Q : Bool → Heap → Prop} (H : explore_isScript.M (fun x0 x1 h K => CallT Try.prog 81 [Kd.val .sl x0, Kd.val .fn x1] false .bool h K) s1 picks2 h Q) :
    CallT Try.prog 64 [Kd.val kapiScene s1, Kd.val .sl picks2] false .bool h Q :=
  fn_sound2 (c := weave (Try.f64.body.getD .skip) explore_isScript.mk) Try.func64 (by kernel_rfl) Try.ntmps64 (rs := [.tmp 4]) (by kernel_rfl) [⟨kapiScene, s1⟩, ⟨.sl, picks2⟩] (by kernel_rfl) (by kernel_rfl) (by kernel_rfl) (by kernel_rfl) H

theorem ref22_Script.br {s1 : Den kapiScene} {picks2 : Sl} {h : Heap} {Q : Bool → Heap → Prop} (H : ref22_Script.M (fun x0 h K => CallT Try.prog 40 [Kd.val kapiScene x0] false (.int .i64) h K) s1 picks2 h Q) :
    CallT Try.prog 65 [Kd.val kapiScene s1, Kd.val .sl picks2] false .bool h Q :=
  fn_sound2 (c := weave (Try.f65.body.getD .skip) ref22_Script.mk) Try.func65 (by kernel_rfl) Try.ntmps65 (rs := [.tmp 4]) (by kernel_rfl) [⟨kapiScene, s1⟩, ⟨.sl, picks2⟩] (by kernel_rfl) (by kernel_rfl) (by kernel_rfl) (by kernel_rfl) H

theorem cells_New.br {size1 : Int} {h : Heap} {Q : (Option Addr × (Int × Unit)) → Heap → Prop} (H : cells_New.M (fun x0 h K => CallT Try.prog 83 [Kd.val (.int .i64) x0] false .bool h K) size1 h Q) :
    CallT Try.prog 66 [Kd.val (.int .i64) size1] true (.pair .ptr (.pair (.int .i64) .nil)) h Q :=
  fn_sound2 (c := weave (Try.f66.body.getD .skip) cells_New.mk) Try.func66 (by kernel_rfl) Try.ntmps66 (rs := [.tmp 2, .tmp 3]) (by kernel_rfl) [⟨(.int .i64), size1⟩] (by kernel_rfl) (by kernel_rfl) (by kernel_rfl) (by kernel_rfl) H

theorem cells_Arena_Reserve.br {a1 : Option Addr} {n2 : Int} {h : Heap} {Q : Den kcellsledger → Heap → Prop} (H : cells_Arena_Reserve.M (fun x0 x1 h K => CallT Try.prog 84 [Kd.val .ptr x0, Kd.val (.int .i64) x1] false (.int .i64) h K) (fun x0 x1 h K => CallT Try.prog 85 [Kd.val .ptr x0, Kd.val (.int .i64) x1] false (.int .i64) h K) (fun x0 x1 x2 x3 x4 x5 h K => CallT Try.prog 86 [Kd.val .ptr x0, Kd.val (.int .i64) x1, Kd.val (.int .i64) x2, Kd.val (.int .i64) x3, Kd.val (.int .i64) x4, Kd.val .bool x5] true .nil h K) a1 n2 h Q) :
    CallT Try.prog 67 [Kd.val .ptr a1, Kd.val (.int .i64) n2] true kcellsledger h Q :=
  fn_sound2 (c := weave (Try.f67.body.getD .skip) cells_Arena_Reserve.mk) Try.func67 (by kernel_rfl) Try.ntmps67 (rs := [.tmp 4, .tmp 5]) (by kernel_rfl) [⟨.ptr, a1⟩, ⟨(.int .i64), n2⟩] (by kernel_rfl) (by kernel_rfl) (by kernel_rfl) (by kernel_rfl) H

theorem cells_Arena_Store.br {a1 : Option Addr} {addr2 : Int} {v3 : Int} {h : Heap} {Q : Int → Heap → Prop} (H : cells_Arena_Store.M (fun x0 x1 h K => CallT Try.prog 87 [Kd.val .ptr x0, Kd.val (.int .i64) x1] false .bool h K) (fun x0 x1 x2 x3 x4 x5 h K => CallT Try.prog 86 [Kd.val .ptr x0, Kd.val (.int .i64) x1, Kd.val (.int .i64) x2, Kd.val (.int .i64) x3, Kd.val (.int .i64) x4, Kd.val .bool x5] true .nil h K) a1 addr2 v3 h Q) :
    CallT Try.prog 68 [Kd.val .ptr a1, Kd.val (.int .i64) addr2, Kd.val (.int .i64) v3] false (.int .i64) h Q :=
  fn_sound2 (c := weave (Try.f68.body.getD .skip) cells_Arena_Store.mk) Try.func68 (by kernel_rfl) Try.ntmps68 (rs := [.tmp 6]) (by kernel_rfl) [⟨.ptr, a1⟩, ⟨(.int .i64), addr2⟩, ⟨(.int .i64), v3⟩] (by kernel_rfl) (by kernel_rfl) (by kernel_rfl) (by kernel_rfl) H

theorem explore_act.br {a1 : Option Addr} {x2 : Den kapiAct} {h : Heap} {Q : Den kapiEffect → Heap → Prop} (H : explore_act.M (fun x0 x1 h K => CallT Try.prog 88 [Kd.val .ptr x0, Kd.val (.int .i64) x1] true kcellsledger h K) (fun x0 x1 x2 h K => CallT Try.prog 68 [Kd.val .ptr x0, Kd.val (.int .i64) x1, Kd.val (.int .i64) x2] false (.int .i64) h K) (fun x0 x1 x2 x3 h K => CallT Try.prog 89 [Kd.val .ptr x0, Kd.val (.int .i64) x1, Kd.val (.int .i64) x2, Kd.val (.int .i64) x3] true (.pair .bool (.pair (.int .i64) .nil)) h K) (fun x0 x1 x2 h K => CallT Try.prog 90 [Kd.val .ptr x0, Kd.val (.int .i64) x1, Kd.val (.int .i64) x2] true kcellsledger h K) (fun x0 x1 h K => CallT Try.prog 67 [Kd.val .ptr x0, Kd.val (.int .i64) x1] true kcellsledger h K) a1 x2 h Q) :
    CallT Try.prog 69 [Kd.val .ptr a1, Kd.val kapiAct x2] false kapiEffect h Q :=
  fn_sound2 (c := weave (Try.f69.body.getD .skip) explore_act.mk) Try.func69 (by kernel_rfl) Try.ntmps69 (rs := [.cell 4 87]) (by kernel_rfl) [⟨.ptr, a1⟩, ⟨kapiAct, x2⟩] (by kernel_rfl) (by kernel_rfl) (by kernel_rfl) (by kernel_rfl) H

theorem cells_Arena_Cells.br {a1 : Option Addr} {h : Heap} {Q : Sl → Heap → Prop} (H : cells_Arena_Cells.M  a1 h Q) :
    CallT Try.prog 70 [Kd.val .ptr a1] false .sl h Q :=
  fn_sound2 (c := weave (Try.f70.body.getD .skip) cells_Arena_Cells.mk) Try.func70 (by kernel_rfl) Try.ntmps70 (rs := [.tmp 2]) (by kernel_rfl) [⟨.ptr, a1⟩] (by kernel_rfl) (by kernel_rfl) (by kernel_rfl) (by kernel_rfl) H

theorem ref22_do.br {s1 : Den kapiScene} {cells2 : Sl} {x3 : Den kapiAct} {h : Heap} {Q : (Den kapiEffect × (Sl × Unit)) → Heap → Prop} (H : ref22_do.M  s1 cells2 x3 h Q) :
    CallT Try.prog 71 [Kd.val kapiScene s1, Kd.val .sl cells2, Kd.val kapiAct x3] true (.pair kapiEffect (.pair .sl .nil)) h Q :=
  fn_sound2 (c := weave (Try.f71.body.getD .skip) ref22_do.mk) Try.func71 (by kernel_rfl) Try.ntmps71 (rs := [.cell 6 87, .tmp 7]) (by kernel_rfl) [⟨kapiScene, s1⟩, ⟨.sl, cells2⟩, ⟨kapiAct, x3⟩] (by kernel_rfl) (by kernel_rfl) (by kernel_rfl) (by kernel_rfl) H

theorem cmp_Compare_int.br {x1 : Int} {y2 : Int} {h : Heap} {Q : Int → Heap → Prop} (H : cmp_Compare_int.M (fun x0 h K => CallT Try.prog 91 [Kd.val (.int .i64) x0] false .bool h K) x1 y2 h Q) :
    CallT Try.prog 72 [Kd.val (.int .i64) x1, Kd.val (.int .i64) y2] false (.int .i64) h Q :=
  fn_sound2 (c := weave (Try.f72.body.getD .skip) cmp_Compare_int.mk) Try.func72 (by kernel_rfl) Try.ntmps72 (rs := [.tmp 4]) (by kernel_rfl) [⟨(.int .i64), x1⟩, ⟨(.int .i64), y2⟩] (by kernel_rfl) (by kernel_rfl) (by kernel_rfl) (by kernel_rfl) H

theorem slices_Compare_int64_int64.br {s11 : Sl} {s22 : Sl} {h : Heap} {Q : Int → Heap → Prop} (H : slices_Compare_int64_int64.M (fun x0 x1 h K => CallT Try.prog 92 [Kd.val (.int .i64) x0, Kd.val (.int .i64) x1] false (.int .i64) h K) s11 s22 h Q) :
    CallT Try.prog 73 [Kd.val .sl s11, Kd.val .sl s22] false (.int .i64) h Q :=
  fn_sound2 (c := weave (Try.f73.body.getD .skip) slices_Compare_int64_int64.mk) Try.func73 (by kernel_rfl) Try.ntmps73 (rs := [.tmp 4]) (by kernel_rfl) [⟨.sl, s11⟩, ⟨.sl, s22⟩] (by kernel_rfl) (by kernel_rfl) (by kernel_rfl) (by kernel_rfl) H

theorem slices_rotateRight_int64.br {s1 : Sl} {r2 : Int} {h : Heap} {Q : Unit → Heap → Prop} (H : slices_rotateRight_int64.M (fun x0 x1 h K => CallT Try.prog 93 [Kd.val .sl x0, Kd.val (.int .i64) x1] true .nil h K) s1 r2 h Q) :
    CallT Try.prog 75 [Kd.val .sl s1, Kd.val (.int .i64) r2] true .nil h Q :=
  fn_sound2 (c := weave (Try.f75.body.getD .skip) slices_rotateRight_int64.mk) Try.func75 (by kernel_rfl) Try.ntmps75 (rs := []) (by kernel_rfl) [⟨.sl, s1⟩, ⟨(.int .i64), r2⟩] (by kernel_rfl) (by kernel_rfl) (by kernel_rfl) (by kernel_rfl) H

theorem ref22_below.br {a1 : Sl} {b2 : Sl} {h : Heap} {Q : Int → Heap → Prop} (H : ref22_below.M  a1 b2 h Q) :
    CallT Try.prog 76 [Kd.val .sl a1, Kd.val .sl b2] false (.int .i64) h Q :=
  fn_sound2 (c := weave (Try.f76.body.getD .skip) ref22_below.mk) Try.func76 (by kernel_rfl) Try.ntmps76 (rs := [.tmp 4]) (by kernel_rfl) [⟨.sl, a1⟩, ⟨.sl, b2⟩] (by kernel_rfl) (by kernel_rfl) (by kernel_rfl) (by kernel_rfl) H

theorem maps_Clone_map_int_int_int_int.br {m1 : Option Nat} {h : Heap} {Q : Option Nat → Heap → Prop} (H : maps_Clone_map_int_int_int_int.M (fun x0 h K => ExtT Try.prog 94 [Kd.val .iface x0] false .iface h K) m1 h Q) :
    CallT Try.prog 77 [Kd.val .map m1] false .map h Q :=
  fn_sound2 (c := weave (Try.f77.body.getD .skip) maps_Clone_map_int_int_int_int.mk) Try.func77 (by kernel_rfl) Try.ntmps77 (rs := [.tmp 2]) (by kernel_rfl) [⟨.map, m1⟩] (by kernel_rfl) (by kernel_rfl) (by kernel_rfl) (by kernel_rfl) H

theorem explore_walk_act.br {w1 : Option Addr} {who2 : Int} {h : Heap} {Q : Den kapiAct → Heap → Prop} (H : explore_walk_act.M  w1 who2 h Q) :
    CallT Try.prog 78 [Kd.val .ptr w1, Kd.val (.int .i64) who2] false kapiAct h Q :=
  fn_sound2 (c := weave (Try.f78.body.getD .skip) explore_walk_act.mk) Try.func78 (by kernel_rfl) Try.ntmps78 (rs := [.cell 4 27]) (by kernel_rfl) [⟨.ptr, w1⟩, ⟨(.int .i64), who2⟩] (by kernel_rfl) (by kernel_rfl) (by kernel_rfl) (by kernel_rfl) H

theorem slices_Clone_int_int.br {s1 : Sl} {h : Heap} {Q : Sl → Heap → Prop} (H : slices_Clone_int_int.M  s1 h Q) :
    CallT Try.prog 79 [Kd.val .sl s1] false .sl h Q :=
  fn_sound2 (c := weave (Try.f79.body.getD .skip) slices_Clone_int_int.mk) Try.func79 (by kernel_rfl) Try.ntmps79 (rs := [.tmp 2]) (by kernel_rfl) [⟨.sl, s1⟩] (by kernel_rfl) (by kernel_rfl) (by kernel_rfl) (by kernel_rfl) H

theorem ref22_bound.br {s1 : Den kapiScene} {a2 : Den kref22Act} {b3 : Den kref22Act} {h : Heap} {Q : Bool → Heap → Prop} (H : ref22_bound.M (fun x0 x1 x2 h K => CallT Try.prog 13 [Kd.val kapiScene x0, Kd.val kapiAct x1, Kd.val kapiAct x2] false .bool h K) s1 a2 b3 h Q) :
    CallT Try.prog 80 [Kd.val kapiScene s1, Kd.val kref22Act a2, Kd.val kref22Act b3] false .bool h Q :=
  fn_sound2 (c := weave (Try.f80.body.getD .skip) ref22_bound.mk) Try.func80 (by kernel_rfl) Try.ntmps80 (rs := [.tmp 6]) (by kernel_rfl) [⟨kapiScene, s1⟩, ⟨kref22Act, a2⟩, ⟨kref22Act, b3⟩] (by kernel_rfl) (by kernel_rfl) (by kernel_rfl) (by kernel_rfl) H

theorem slices_ContainsFunc_int_int.br {s1 : Sl} {f2 : Value} {h : Heap} {Q : Bool → Heap → Prop} (H : slices_ContainsFunc_int_int.M (fun x0 x1 h K => CallT Try.prog 95 [Kd.val .sl x0, Kd.val .fn x1] false (.int .i64) h K) s1 f2 h Q) :
    CallT Try.prog 81 [Kd.val .sl s1, Kd.val .fn f2] false .bool h Q :=
  fn_sound2 (c := weave (Try.f81.body.getD .skip) slices_ContainsFunc_int_int.mk) Try.func81 (by kernel_rfl) Try.ntmps81 (rs := [.tmp 4]) (by kernel_rfl) [⟨.sl, s1⟩, ⟨.fn, f2⟩] (by kernel_rfl) (by kernel_rfl) (by kernel_rfl) (by kernel_rfl) H

theorem explore_isScript_1.br {n1 : Int} {h : Heap} {Q : Bool → Heap → Prop} (H : explore_isScript_1.M  n1 h Q) :
    CallT Try.prog 82 [Kd.val (.int .i64) n1] false .bool h Q :=
  fn_sound2 (c := weave (Try.f82.body.getD .skip) explore_isScript_1.mk) Try.func82 (by kernel_rfl) Try.ntmps82 (rs := [.tmp 2]) (by kernel_rfl) [⟨(.int .i64), n1⟩] (by kernel_rfl) (by kernel_rfl) (by kernel_rfl) (by kernel_rfl) H

theorem cells_good.br {size1 : Int} {h : Heap} {Q : Bool → Heap → Prop} (H : cells_good.M  size1 h Q) :
    CallT Try.prog 83 [Kd.val (.int .i64) size1] false .bool h Q :=
  fn_sound2 (c := weave (Try.f83.body.getD .skip) cells_good.mk) Try.func83 (by kernel_rfl) Try.ntmps83 (rs := [.tmp 2]) (by kernel_rfl) [⟨(.int .i64), size1⟩] (by kernel_rfl) (by kernel_rfl) (by kernel_rfl) (by kernel_rfl) H

theorem cells_ledger_refuse.br {l1 : Option Addr} {n2 : Int} {h : Heap} {Q : Int → Heap → Prop} (H : cells_ledger_refuse.M  l1 n2 h Q) :
    CallT Try.prog 84 [Kd.val .ptr l1, Kd.val (.int .i64) n2] false (.int .i64) h Q :=
  fn_sound2 (c := weave (Try.f84.body.getD .skip) cells_ledger_refuse.mk) Try.func84 (by kernel_rfl) Try.ntmps84 (rs := [.tmp 4]) (by kernel_rfl) [⟨.ptr, l1⟩, ⟨(.int .i64), n2⟩] (by kernel_rfl) (by kernel_rfl) (by kernel_rfl) (by kernel_rfl) H

theorem cells_ledger_take.br {l1 : Option Addr} {n2 : Int} {h : Heap} {Q : Int → Heap → Prop} (H : cells_ledger_take.M  l1 n2 h Q) :
    CallT Try.prog 85 [Kd.val .ptr l1, Kd.val (.int .i64) n2] false (.int .i64) h Q :=
  fn_sound2 (c := weave (Try.f85.body.getD .skip) cells_ledger_take.mk) Try.func85 (by kernel_rfl) Try.ntmps85 (rs := [.tmp 4]) (by kernel_rfl) [⟨.ptr, l1⟩, ⟨(.int .i64), n2⟩] (by kernel_rfl) (by kernel_rfl) (by kernel_rfl) (by kernel_rfl) H

theorem cells_Arena_note.br {a1 : Option Addr} {kind2 : Int} {addr3 : Int} {x4 : Int} {y5 : Int} {ok6 : Bool} {h : Heap} {Q : Unit → Heap → Prop} (H : cells_Arena_note.M  a1 kind2 addr3 x4 y5 ok6 h Q) :
    CallT Try.prog 86 [Kd.val .ptr a1, Kd.val (.int .i64) kind2, Kd.val (.int .i64) addr3, Kd.val (.int .i64) x4, Kd.val (.int .i64) y5, Kd.val .bool ok6] true .nil h Q :=
  fn_sound2 (c := weave (Try.f86.body.getD .skip) cells_Arena_note.mk) Try.func86 (by kernel_rfl) Try.ntmps86 (rs := []) (by kernel_rfl) [⟨.ptr, a1⟩, ⟨(.int .i64), kind2⟩, ⟨(.int .i64), addr3⟩, ⟨(.int .i64), x4⟩, ⟨(.int .i64), y5⟩, ⟨.bool, ok6⟩] (by kernel_rfl) (by kernel_rfl) (by kernel_rfl) (by kernel_rfl) H

theorem cells_Arena_outside.br {a1 : Option Addr} {addr2 : Int} {h : Heap} {Q : Bool → Heap → Prop} (H : cells_Arena_outside.M (fun x0 x1 h K => CallT Try.prog 96 [Kd.val .ptr x0, Kd.val (.int .i64) x1] false .bool h K) a1 addr2 h Q) :
    CallT Try.prog 87 [Kd.val .ptr a1, Kd.val (.int .i64) addr2] false .bool h Q :=
  fn_sound2 (c := weave (Try.f87.body.getD .skip) cells_Arena_outside.mk) Try.func87 (by kernel_rfl) Try.ntmps87 (rs := [.tmp 4]) (by kernel_rfl) [⟨.ptr, a1⟩, ⟨(.int .i64), addr2⟩] (by kernel_rfl) (by kernel_rfl) (by kernel_rfl) (by kernel_rfl) H

theorem cells_Arena_Load.br {a1 : Option Addr} {addr2 : Int} {h : Heap} {Q : Den kcellsledger → Heap → Prop} (H : cells_Arena_Load.M (fun x0 x1 h K => CallT Try.prog 87 [Kd.val .ptr x0, Kd.val (.int .i64) x1] false .bool h K) (fun x0 x1 x2 x3 x4 x5 h K => CallT Try.prog 86 [Kd.val .ptr x0, Kd.val (.int .i64) x1, Kd.val (.int .i64) x2, Kd.val (.int .i64) x3, Kd.val (.int .i64) x4, Kd.val .bool x5] true .nil h K) a1 addr2 h Q) :
    CallT Try.prog 88 [Kd.val .ptr a1, Kd.val (.int .i64) addr2] true kcellsledger h Q :=
  fn_sound2 (c := weave (Try.f88.body.getD .skip) cells_Arena_Load.mk) Try.func88 (by kernel_rfl) Try.ntmps88 (rs := [.tmp 4, .tmp 5]) (by kernel_rfl) [⟨.ptr, a1⟩, ⟨(.int .i64), addr2⟩] (by kernel_rfl) (by kernel_rfl) (by kernel_rfl) (by kernel_rfl) H

theorem cells_Arena_CAS.br {a1 : Option Addr} {addr2 : Int} {old3 : Int} {next4 : Int} {h : Heap} {Q : (Bool × (Int × Unit)) → Heap → Prop} (H : cells_Arena_CAS.M (fun x0 x1 h K => CallT Try.prog 87 [Kd.val .ptr x0, Kd.val (.int .i64) x1] false .bool h K) (fun x0 x1 x2 x3 x4 x5 h K => CallT Try.prog 86 [Kd.val .ptr x0, Kd.val (.int .i64) x1, Kd.val (.int .i64) x2, Kd.val (.int .i64) x3, Kd.val (.int .i64) x4, Kd.val .bool x5] true .nil h K) a1 addr2 old3 next4 h Q) :
    CallT Try.prog 89 [Kd.val .ptr a1, Kd.val (.int .i64) addr2, Kd.val (.int .i64) old3, Kd.val (.int .i64) next4] true (.pair .bool (.pair (.int .i64) .nil)) h Q :=
  fn_sound2 (c := weave (Try.f89.body.getD .skip) cells_Arena_CAS.mk) Try.func89 (by kernel_rfl) Try.ntmps89 (rs := [.tmp 8, .tmp 9]) (by kernel_rfl) [⟨.ptr, a1⟩, ⟨(.int .i64), addr2⟩, ⟨(.int .i64), old3⟩, ⟨(.int .i64), next4⟩] (by kernel_rfl) (by kernel_rfl) (by kernel_rfl) (by kernel_rfl) H

theorem cells_Arena_Add.br {a1 : Option Addr} {addr2 : Int} {d3 : Int} {h : Heap} {Q : Den kcellsledger → Heap → Prop} (H : cells_Arena_Add.M (fun x0 x1 h K => CallT Try.prog 87 [Kd.val .ptr x0, Kd.val (.int .i64) x1] false .bool h K) (fun x0 x1 x2 x3 x4 x5 h K => CallT Try.prog 86 [Kd.val .ptr x0, Kd.val (.int .i64) x1, Kd.val (.int .i64) x2, Kd.val (.int .i64) x3, Kd.val (.int .i64) x4, Kd.val .bool x5] true .nil h K) a1 addr2 d3 h Q) :
    CallT Try.prog 90 [Kd.val .ptr a1, Kd.val (.int .i64) addr2, Kd.val (.int .i64) d3] true kcellsledger h Q :=
  fn_sound2 (c := weave (Try.f90.body.getD .skip) cells_Arena_Add.mk) Try.func90 (by kernel_rfl) Try.ntmps90 (rs := [.tmp 6, .tmp 7]) (by kernel_rfl) [⟨.ptr, a1⟩, ⟨(.int .i64), addr2⟩, ⟨(.int .i64), d3⟩] (by kernel_rfl) (by kernel_rfl) (by kernel_rfl) (by kernel_rfl) H

theorem cmp_isNaN_int.br {x1 : Int} {h : Heap} {Q : Bool → Heap → Prop} (H : cmp_isNaN_int.M  x1 h Q) :
    CallT Try.prog 91 [Kd.val (.int .i64) x1] false .bool h Q :=
  fn_sound2 (c := weave (Try.f91.body.getD .skip) cmp_isNaN_int.mk) Try.func91 (by kernel_rfl) Try.ntmps91 (rs := [.tmp 2]) (by kernel_rfl) [⟨(.int .i64), x1⟩] (by kernel_rfl) (by kernel_rfl) (by kernel_rfl) (by kernel_rfl) H

theorem cmp_Compare_int64.br {x1 : Int} {y2 : Int} {h : Heap} {Q : Int → Heap → Prop} (H : cmp_Compare_int64.M (fun x0 h K => CallT Try.prog 97 [Kd.val (.int .i64) x0] false .bool h K) x1 y2 h Q) :
    CallT Try.prog 92 [Kd.val (.int .i64) x1, Kd.val (.int .i64) y2] false (.int .i64) h Q :=
  fn_sound2 (c := weave (Try.f92.body.getD .skip) cmp_Compare_int64.mk) Try.func92 (by kernel_rfl) Try.ntmps92 (rs := [.tmp 4]) (by kernel_rfl) [⟨(.int .i64), x1⟩, ⟨(.int .i64), y2⟩] (by kernel_rfl) (by kernel_rfl) (by kernel_rfl) (by kernel_rfl) H

theorem slices_rotateLeft_int64.br {s1 : Sl} {r2 : Int} {h : Heap} {Q : Unit → Heap → Prop} (H : slices_rotateLeft_int64.M (fun x0 h K => CallT Try.prog 98 [Kd.val .sl x0] true .nil h K) s1 r2 h Q) :
    CallT Try.prog 93 [Kd.val .sl s1, Kd.val (.int .i64) r2] true .nil h Q :=
  fn_sound2 (c := weave (Try.f93.body.getD .skip) slices_rotateLeft_int64.mk) Try.func93 (by kernel_rfl) Try.ntmps93 (rs := []) (by kernel_rfl) [⟨.sl, s1⟩, ⟨(.int .i64), r2⟩] (by kernel_rfl) (by kernel_rfl) (by kernel_rfl) (by kernel_rfl) H

theorem slices_IndexFunc_int_int.br {s1 : Sl} {f2 : Value} {h : Heap} {Q : Int → Heap → Prop} (H : slices_IndexFunc_int_int.M (fun x0 x1 h K => FnT Try.prog x0 [Kd.val (.int .i64) x1] false .bool h K) s1 f2 h Q) :
    CallT Try.prog 95 [Kd.val .sl s1, Kd.val .fn f2] false (.int .i64) h Q :=
  fn_sound2 (c := weave (Try.f95.body.getD .skip) slices_IndexFunc_int_int.mk) Try.func95 (by kernel_rfl) Try.ntmps95 (rs := [.tmp 4]) (by kernel_rfl) [⟨.sl, s1⟩, ⟨.fn, f2⟩] (by kernel_rfl) (by kernel_rfl) (by kernel_rfl) (by kernel_rfl) H

theorem cells_ledger_has.br {l1 : Option Addr} {addr2 : Int} {h : Heap} {Q : Bool → Heap → Prop} (H : cells_ledger_has.M  l1 addr2 h Q) :
    CallT Try.prog 96 [Kd.val .ptr l1, Kd.val (.int .i64) addr2] false .bool h Q :=
  fn_sound2 (c := weave (Try.f96.body.getD .skip) cells_ledger_has.mk) Try.func96 (by kernel_rfl) Try.ntmps96 (rs := [.tmp 4]) (by kernel_rfl) [⟨.ptr, l1⟩, ⟨(.int .i64), addr2⟩] (by kernel_rfl) (by kernel_rfl) (by kernel_rfl) (by kernel_rfl) H

theorem cmp_isNaN_int64.br {x1 : Int} {h : Heap} {Q : Bool → Heap → Prop} (H : cmp_isNaN_int64.M  x1 h Q) :
    CallT Try.prog 97 [Kd.val (.int .i64) x1] false .bool h Q :=
  fn_sound2 (c := weave (Try.f97.body.getD .skip) cmp_isNaN_int64.mk) Try.func97 (by kernel_rfl) Try.ntmps97 (rs := [.tmp 2]) (by kernel_rfl) [⟨(.int .i64), x1⟩] (by kernel_rfl) (by kernel_rfl) (by kernel_rfl) (by kernel_rfl) H

theorem slices_Reverse_int64_int64.br {s1 : Sl} {h : Heap} {Q : Unit → Heap → Prop} (H : slices_Reverse_int64_int64.M  s1 h Q) :
    CallT Try.prog 98 [Kd.val .sl s1] true .nil h Q :=
  fn_sound2 (c := weave (Try.f98.body.getD .skip) slices_Reverse_int64_int64.mk) Try.func98 (by kernel_rfl) Try.ntmps98 (rs := []) (by kernel_rfl) [⟨.sl, s1⟩] (by kernel_rfl) (by kernel_rfl) (by kernel_rfl) (by kernel_rfl) H

end Go.Mx
