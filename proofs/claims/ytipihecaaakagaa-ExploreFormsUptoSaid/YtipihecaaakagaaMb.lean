/-
  The bridges: a function's calls, by what it comes to over abstract heaps: printed by a program of this workplace.
-/
import Derived.Test.YtipihecaaakagaaMd
import Derived.Test.YtipihecaaakagaaProg
set_option linter.unusedVariables false
set_option maxRecDepth 100000
namespace Go.Mx
open Go.Proofs
theorem law22_ExploreForms.br {scene1 : Den kapiScene} {picks2 : Sl} {others3 : Sl} {h : Heap} {Q : Bool → Heap → Prop} (H : law22_ExploreForms.M (fun x0 h K => CallT Try.prog 22 [Kd.val kapiScene x0] false kapiScene h K) (fun x0 x1 h K => CallT Try.prog 26 [Kd.val kapiScene x0, Kd.val .sl x1] false .sl h K) (fun x0 x1 h K => CallT Try.prog 13 [Kd.val kapiScene x0, Kd.val .sl x1] true (.pair .sl (.pair (.int .i64) .nil)) h K) (fun x0 x1 x2 h K => CallT Try.prog 29 [Kd.val kapiScene x0, Kd.val .sl x1, Kd.val .sl x2] true (.pair .bool (.pair (.int .i64) .nil)) h K) (fun x0 x1 h K => CallT Try.prog 18 [Kd.val .sl x0, Kd.val .sl x1] false .bool h K) (fun  h K => CallT Try.prog 28 [] false .bool h K) (fun x0 x1 h K => CallT Try.prog 36 [Kd.val kapiScene x0, Kd.val .sl x1] false .sl h K) (fun x0 x1 x2 h K => CallT Try.prog 37 [Kd.val kapiScene x0, Kd.val kapiAct x1, Kd.val kapiAct x2] false .bool h K) (fun x0 h K => CallT Try.prog 38 [Kd.val kapiDag x0] true kapiEdge h K) (fun x0 h K => CallT Try.prog 39 [Kd.val kapiDag x0] true (.pair .sl (.pair (.int .i64) .nil)) h K) (fun x0 x1 h K => CallT Try.prog 40 [Kd.val .sl x0, Kd.val (.int .i64) x1] false .bool h K) scene1 picks2 others3 h Q) :
    CallT Try.prog 9 [Kd.val kapiScene scene1, Kd.val .sl picks2, Kd.val .sl others3] false .bool h Q :=
  fn_sound2 (c := weave (Try.f9.body.getD .skip) law22_ExploreForms.mk) Try.func9 (by kernel_rfl) Try.ntmps9 (rs := [.tmp 6]) (by kernel_rfl) [⟨kapiScene, scene1⟩, ⟨.sl, picks2⟩, ⟨.sl, others3⟩] (by kernel_rfl) (by kernel_rfl) (by kernel_rfl) (by kernel_rfl) H

theorem explore_Foata.br {s1 : Den kapiScene} {picks2 : Sl} {h : Heap} {Q : (Sl × (Int × Unit)) → Heap → Prop} (H : explore_Foata.M (fun x0 x1 h K => CallT Try.prog 41 [Kd.val kapiScene x0, Kd.val .sl x1] false (.int .i64) h K) (fun x0 x1 h K => CallT Try.prog 42 [Kd.val kapiScene x0, Kd.val .sl x1] false .sl h K) s1 picks2 h Q) :
    CallT Try.prog 13 [Kd.val kapiScene s1, Kd.val .sl picks2] true (.pair .sl (.pair (.int .i64) .nil)) h Q :=
  fn_sound2 (c := weave (Try.f13.body.getD .skip) explore_Foata.mk) Try.func13 (by kernel_rfl) Try.ntmps13 (rs := [.tmp 4, .tmp 5]) (by kernel_rfl) [⟨kapiScene, s1⟩, ⟨.sl, picks2⟩] (by kernel_rfl) (by kernel_rfl) (by kernel_rfl) (by kernel_rfl) H

theorem law22_sameLists.br {a1 : Sl} {b2 : Sl} {h : Heap} {Q : Bool → Heap → Prop} (H : law22_sameLists.M (fun x0 x1 h K => CallT Try.prog 47 [Kd.val .sl x0, Kd.val .sl x1] false .bool h K) a1 b2 h Q) :
    CallT Try.prog 18 [Kd.val .sl a1, Kd.val .sl b2] false .bool h Q :=
  fn_sound2 (c := weave (Try.f18.body.getD .skip) law22_sameLists.mk) Try.func18 (by kernel_rfl) Try.ntmps18 (rs := [.tmp 4]) (by kernel_rfl) [⟨.sl, a1⟩, ⟨.sl, b2⟩] (by kernel_rfl) (by kernel_rfl) (by kernel_rfl) (by kernel_rfl) H

theorem law22_fit.br {s1 : Den kapiScene} {h : Heap} {Q : Den kapiScene → Heap → Prop} (H : law22_fit.M (fun x0 x1 h K => CallT Try.prog 31 [Kd.val (.int .i64) x0, Kd.val (.int .i64) x1] false (.int .i64) h K) s1 h Q) :
    CallT Try.prog 22 [Kd.val kapiScene s1] false kapiScene h Q :=
  fn_sound2 (c := weave (Try.f22.body.getD .skip) law22_fit.mk) Try.func22 (by kernel_rfl) Try.ntmps22 (rs := [.cell 2 25]) (by kernel_rfl) [⟨kapiScene, s1⟩] (by kernel_rfl) (by kernel_rfl) (by kernel_rfl) (by kernel_rfl) H

theorem explore_Finals.br {s1 : Den kapiScene} {h : Heap} {Q : (Sl × (Int × Unit)) → Heap → Prop} (H : explore_Finals.M (fun x0 h K => CallT Try.prog 50 [Kd.val kapiScene x0] false (.int .i64) h K) (fun x0 h K => CallT Try.prog 51 [Kd.val kapiScene x0] false .fn h K) (fun x0 x1 h K => CallT Try.prog 52 [Kd.val kapiScene x0, Kd.val .sl x1] false kapiEnding h K) (fun x0 x1 x2 h K => CallT Try.prog 53 [Kd.val .sl x0, Kd.val .sl x1, Kd.val .fn x2] true (.pair (.int .i64) (.pair .bool .nil)) h K) (fun x0 x1 x2 h K => CallT Try.prog 55 [Kd.val .sl x0, Kd.val (.int .i64) x1, Kd.val .sl x2] false .sl h K) (fun x0 x1 h K => FnY Try.prog x0 [Kd.val .sl x1] false .bool h K) (fun x0 x1 h K => FnT Try.prog x0 [Kd.val .fn x1] true .nil h K) s1 h Q) :
    CallT Try.prog 23 [Kd.val kapiScene s1] true (.pair .sl (.pair (.int .i64) .nil)) h Q :=
  fn_sound2 (c := weave (Try.f23.body.getD .skip) explore_Finals.mk) Try.func23 (by kernel_rfl) Try.ntmps23 (rs := [.tmp 2, .tmp 3]) (by kernel_rfl) [⟨kapiScene, s1⟩] (by kernel_rfl) (by kernel_rfl) (by kernel_rfl) (by kernel_rfl) H

theorem explore_Explore.br {s1 : Den kapiScene} {h : Heap} {Q : (Sl × (Int × Unit)) → Heap → Prop} (H : explore_Explore.M (fun x0 h K => CallT Try.prog 50 [Kd.val kapiScene x0] false (.int .i64) h K) (fun x0 h K => CallT Try.prog 51 [Kd.val kapiScene x0] false .fn h K) (fun x0 x1 h K => FnY Try.prog x0 [Kd.val .sl x1] false .bool h K) (fun x0 x1 h K => FnT Try.prog x0 [Kd.val .fn x1] true .nil h K) s1 h Q) :
    CallT Try.prog 24 [Kd.val kapiScene s1] true (.pair .sl (.pair (.int .i64) .nil)) h Q :=
  fn_sound2 (c := weave (Try.f24.body.getD .skip) explore_Explore.mk) Try.func24 (by kernel_rfl) Try.ntmps24 (rs := [.tmp 2, .tmp 3]) (by kernel_rfl) [⟨kapiScene, s1⟩] (by kernel_rfl) (by kernel_rfl) (by kernel_rfl) (by kernel_rfl) H

theorem law22_script.br {s1 : Den kapiScene} {picks2 : Sl} {h : Heap} {Q : Sl → Heap → Prop} (H : law22_script.M (fun x0 h K => CallT Try.prog 56 [Kd.val kapiScene x0] false (.int .i64) h K) (fun x0 x1 h K => CallT Try.prog 31 [Kd.val (.int .i64) x0, Kd.val (.int .i64) x1] false (.int .i64) h K) s1 picks2 h Q) :
    CallT Try.prog 26 [Kd.val kapiScene s1, Kd.val .sl picks2] false .sl h Q :=
  fn_sound2 (c := weave (Try.f26.body.getD .skip) law22_script.mk) Try.func26 (by kernel_rfl) Try.ntmps26 (rs := [.tmp 4]) (by kernel_rfl) [⟨kapiScene, s1⟩, ⟨.sl, picks2⟩] (by kernel_rfl) (by kernel_rfl) (by kernel_rfl) (by kernel_rfl) H

theorem law22_stands.br  {h : Heap} {Q : Bool → Heap → Prop} (H : law22_stands.M (fun x0 h K => CallT Try.prog 24 [Kd.val kapiScene x0] true (.pair .sl (.pair (.int .i64) .nil)) h K) (fun x0 h K => CallT Try.prog 23 [Kd.val kapiScene x0] true (.pair .sl (.pair (.int .i64) .nil)) h K)  h Q) :
    CallT Try.prog 28 [] false .bool h Q :=
  fn_sound2 (c := weave (Try.f28.body.getD .skip) law22_stands.mk) Try.func28 (by kernel_rfl) Try.ntmps28 (rs := [.tmp 0]) (by kernel_rfl) [] (by kernel_rfl) (by kernel_rfl) (by kernel_rfl) (by kernel_rfl) H

theorem explore_Alike.br {s1 : Den kapiScene} {p2 : Sl} {q3 : Sl} {h : Heap} {Q : (Bool × (Int × Unit)) → Heap → Prop} (H : explore_Alike.M (fun x0 x1 h K => CallT Try.prog 41 [Kd.val kapiScene x0, Kd.val .sl x1] false (.int .i64) h K) (fun x0 x1 h K => CallT Try.prog 57 [Kd.val kapiScene x0, Kd.val .sl x1] false .bool h K) (fun x0 x1 h K => CallT Try.prog 42 [Kd.val kapiScene x0, Kd.val .sl x1] false .sl h K) (fun x0 x1 x2 h K => CallT Try.prog 58 [Kd.val .sl x0, Kd.val .sl x1, Kd.val .fn x2] false .bool h K) s1 p2 q3 h Q) :
    CallT Try.prog 29 [Kd.val kapiScene s1, Kd.val .sl p2, Kd.val .sl q3] true (.pair .bool (.pair (.int .i64) .nil)) h Q :=
  fn_sound2 (c := weave (Try.f29.body.getD .skip) explore_Alike.mk) Try.func29 (by kernel_rfl) Try.ntmps29 (rs := [.tmp 6, .tmp 7]) (by kernel_rfl) [⟨kapiScene, s1⟩, ⟨.sl, p2⟩, ⟨.sl, q3⟩] (by kernel_rfl) (by kernel_rfl) (by kernel_rfl) (by kernel_rfl) H

theorem law22_mod.br {x1 : Int} {n2 : Int} {h : Heap} {Q : Int → Heap → Prop} (H : law22_mod.M  x1 n2 h Q) :
    CallT Try.prog 31 [Kd.val (.int .i64) x1, Kd.val (.int .i64) n2] false (.int .i64) h Q :=
  fn_sound2 (c := weave (Try.f31.body.getD .skip) law22_mod.mk) Try.func31 (by kernel_rfl) Try.ntmps31 (rs := [.tmp 4]) (by kernel_rfl) [⟨(.int .i64), x1⟩, ⟨(.int .i64), n2⟩] (by kernel_rfl) (by kernel_rfl) (by kernel_rfl) (by kernel_rfl) H

theorem law22_row.br {s1 : Den kapiScene} {picks2 : Sl} {h : Heap} {Q : Sl → Heap → Prop} (H : law22_row.M  s1 picks2 h Q) :
    CallT Try.prog 36 [Kd.val kapiScene s1, Kd.val .sl picks2] false .sl h Q :=
  fn_sound2 (c := weave (Try.f36.body.getD .skip) law22_row.mk) Try.func36 (by kernel_rfl) Try.ntmps36 (rs := [.tmp 4]) (by kernel_rfl) [⟨kapiScene, s1⟩, ⟨.sl, picks2⟩] (by kernel_rfl) (by kernel_rfl) (by kernel_rfl) (by kernel_rfl) H

theorem explore_Depends.br {s1 : Den kapiScene} {x2 : Den kapiAct} {y3 : Den kapiAct} {h : Heap} {Q : Bool → Heap → Prop} (H : explore_Depends.M (fun x0 h K => CallT Try.prog 66 [Kd.val kapiAct x0] false .bool h K) (fun x0 x1 h K => CallT Try.prog 67 [Kd.val kapiScene x0, Kd.val kapiAct x1] false .bool h K) s1 x2 y3 h Q) :
    CallT Try.prog 37 [Kd.val kapiScene s1, Kd.val kapiAct x2, Kd.val kapiAct y3] false .bool h Q :=
  fn_sound2 (c := weave (Try.f37.body.getD .skip) explore_Depends.mk) Try.func37 (by kernel_rfl) Try.ntmps37 (rs := [.tmp 6]) (by kernel_rfl) [⟨kapiScene, s1⟩, ⟨kapiAct, x2⟩, ⟨kapiAct, y3⟩] (by kernel_rfl) (by kernel_rfl) (by kernel_rfl) (by kernel_rfl) H

theorem dag_Span.br {d1 : Den kapiDag} {h : Heap} {Q : Den kapiEdge → Heap → Prop} (H : dag_Span.M (fun x0 h K => CallT Try.prog 39 [Kd.val kapiDag x0] true (.pair .sl (.pair (.int .i64) .nil)) h K) d1 h Q) :
    CallT Try.prog 38 [Kd.val kapiDag d1] true kapiEdge h Q :=
  fn_sound2 (c := weave (Try.f38.body.getD .skip) dag_Span.mk) Try.func38 (by kernel_rfl) Try.ntmps38 (rs := [.tmp 2, .tmp 3]) (by kernel_rfl) [⟨kapiDag, d1⟩] (by kernel_rfl) (by kernel_rfl) (by kernel_rfl) (by kernel_rfl) H

theorem dag_Earliest.br {d1 : Den kapiDag} {h : Heap} {Q : (Sl × (Int × Unit)) → Heap → Prop} (H : dag_Earliest.M (fun x0 h K => CallT Try.prog 68 [Kd.val kapiDag x0] false (.int .i64) h K) (fun x0 h K => CallT Try.prog 69 [Kd.val kapiDag x0] false .sl h K) d1 h Q) :
    CallT Try.prog 39 [Kd.val kapiDag d1] true (.pair .sl (.pair (.int .i64) .nil)) h Q :=
  fn_sound2 (c := weave (Try.f39.body.getD .skip) dag_Earliest.mk) Try.func39 (by kernel_rfl) Try.ntmps39 (rs := [.tmp 2, .tmp 3]) (by kernel_rfl) [⟨kapiDag, d1⟩] (by kernel_rfl) (by kernel_rfl) (by kernel_rfl) (by kernel_rfl) H

theorem law22_holds.br {l1 : Sl} {n2 : Int} {h : Heap} {Q : Bool → Heap → Prop} (H : law22_holds.M  l1 n2 h Q) :
    CallT Try.prog 40 [Kd.val .sl l1, Kd.val (.int .i64) n2] false .bool h Q :=
  fn_sound2 (c := weave (Try.f40.body.getD .skip) law22_holds.mk) Try.func40 (by kernel_rfl) Try.ntmps40 (rs := [.tmp 4]) (by kernel_rfl) [⟨.sl, l1⟩, ⟨(.int .i64), n2⟩] (by kernel_rfl) (by kernel_rfl) (by kernel_rfl) (by kernel_rfl) H

theorem explore_ready.br {s1 : Den kapiScene} {picks2 : Sl} {h : Heap} {Q : Int → Heap → Prop} (H : explore_ready.M (fun x0 h K => CallT Try.prog 50 [Kd.val kapiScene x0] false (.int .i64) h K) (fun x0 x1 h K => CallT Try.prog 57 [Kd.val kapiScene x0, Kd.val .sl x1] false .bool h K) s1 picks2 h Q) :
    CallT Try.prog 41 [Kd.val kapiScene s1, Kd.val .sl picks2] false (.int .i64) h Q :=
  fn_sound2 (c := weave (Try.f41.body.getD .skip) explore_ready.mk) Try.func41 (by kernel_rfl) Try.ntmps41 (rs := [.tmp 4]) (by kernel_rfl) [⟨kapiScene, s1⟩, ⟨.sl, picks2⟩] (by kernel_rfl) (by kernel_rfl) (by kernel_rfl) (by kernel_rfl) H

theorem explore_form.br {s1 : Den kapiScene} {picks2 : Sl} {h : Heap} {Q : Sl → Heap → Prop} (H : explore_form.M (fun x0 x1 h K => CallT Try.prog 64 [Kd.val kapiScene x0, Kd.val .sl x1] false .sl h K) (fun x0 h K => CallT Try.prog 70 [Kd.val .sl x0] true .nil h K) s1 picks2 h Q) :
    CallT Try.prog 42 [Kd.val kapiScene s1, Kd.val .sl picks2] false .sl h Q :=
  fn_sound2 (c := weave (Try.f42.body.getD .skip) explore_form.mk) Try.func42 (by kernel_rfl) Try.ntmps42 (rs := [.tmp 4]) (by kernel_rfl) [⟨kapiScene, s1⟩, ⟨.sl, picks2⟩] (by kernel_rfl) (by kernel_rfl) (by kernel_rfl) (by kernel_rfl) H

theorem law22_same.br {a1 : Sl} {b2 : Sl} {h : Heap} {Q : Bool → Heap → Prop} (H : law22_same.M  a1 b2 h Q) :
    CallT Try.prog 47 [Kd.val .sl a1, Kd.val .sl b2] false .bool h Q :=
  fn_sound2 (c := weave (Try.f47.body.getD .skip) law22_same.mk) Try.func47 (by kernel_rfl) Try.ntmps47 (rs := [.tmp 4]) (by kernel_rfl) [⟨.sl, a1⟩, ⟨.sl, b2⟩] (by kernel_rfl) (by kernel_rfl) (by kernel_rfl) (by kernel_rfl) H

theorem law22_sameCells.br {a1 : Sl} {b2 : Sl} {h : Heap} {Q : Bool → Heap → Prop} (H : law22_sameCells.M  a1 b2 h Q) :
    CallT Try.prog 49 [Kd.val .sl a1, Kd.val .sl b2] false .bool h Q :=
  fn_sound2 (c := weave (Try.f49.body.getD .skip) law22_sameCells.mk) Try.func49 (by kernel_rfl) Try.ntmps49 (rs := [.tmp 4]) (by kernel_rfl) [⟨.sl, a1⟩, ⟨.sl, b2⟩] (by kernel_rfl) (by kernel_rfl) (by kernel_rfl) (by kernel_rfl) H

theorem explore_Check.br {s1 : Den kapiScene} {h : Heap} {Q : Int → Heap → Prop} (H : explore_Check.M  s1 h Q) :
    CallT Try.prog 50 [Kd.val kapiScene s1] false (.int .i64) h Q :=
  fn_sound2 (c := weave (Try.f50.body.getD .skip) explore_Check.mk) Try.func50 (by kernel_rfl) Try.ntmps50 (rs := [.tmp 2]) (by kernel_rfl) [⟨kapiScene, s1⟩] (by kernel_rfl) (by kernel_rfl) (by kernel_rfl) (by kernel_rfl) H

theorem explore_traces.br {s1 : Den kapiScene} {h : Heap} {Q : Value → Heap → Prop} (H : explore_traces.M  s1 h Q) :
    CallT Try.prog 51 [Kd.val kapiScene s1] false .fn h Q :=
  fn_sound2 (c := weave (Try.f51.body.getD .skip) explore_traces.mk) Try.func51 (by kernel_rfl) Try.ntmps51 (rs := [.tmp 2]) (by kernel_rfl) [⟨kapiScene, s1⟩] (by kernel_rfl) (by kernel_rfl) (by kernel_rfl) (by kernel_rfl) H

theorem explore_play.br {s1 : Den kapiScene} {picks2 : Sl} {h : Heap} {Q : Den kapiEnding → Heap → Prop} (H : explore_play.M (fun x0 h K => CallT Try.prog 75 [Kd.val (.int .i64) x0] true (.pair .ptr (.pair (.int .i64) .nil)) h K) (fun x0 x1 h K => CallT Try.prog 76 [Kd.val .ptr x0, Kd.val (.int .i64) x1] true kapiEdge h K) (fun x0 x1 x2 h K => CallT Try.prog 77 [Kd.val .ptr x0, Kd.val (.int .i64) x1, Kd.val (.int .i64) x2] false (.int .i64) h K) (fun x0 x1 h K => CallT Try.prog 78 [Kd.val .ptr x0, Kd.val kapiAct x1] false kapiEffect h K) (fun x0 h K => CallT Try.prog 79 [Kd.val .ptr x0] false .sl h K) s1 picks2 h Q) :
    CallT Try.prog 52 [Kd.val kapiScene s1, Kd.val .sl picks2] false kapiEnding h Q :=
  fn_sound2 (c := weave (Try.f52.body.getD .skip) explore_play.mk) Try.func52 (by kernel_rfl) Try.ntmps52 (rs := [.cell 4 48]) (by kernel_rfl) [⟨kapiScene, s1⟩, ⟨.sl, picks2⟩] (by kernel_rfl) (by kernel_rfl) (by kernel_rfl) (by kernel_rfl) H

theorem slices_BinarySearchFunc_int64_int64_int64.br {x1 : Sl} {target2 : Sl} {cmp3 : Value} {h : Heap} {Q : (Int × (Bool × Unit)) → Heap → Prop} (H : slices_BinarySearchFunc_int64_int64_int64.M (fun x0 x1 x2 h K => FnT Try.prog x0 [Kd.val .sl x1, Kd.val .sl x2] false (.int .i64) h K) x1 target2 cmp3 h Q) :
    CallT Try.prog 53 [Kd.val .sl x1, Kd.val .sl target2, Kd.val .fn cmp3] true (.pair (.int .i64) (.pair .bool .nil)) h Q :=
  fn_sound2 (c := weave (Try.f53.body.getD .skip) slices_BinarySearchFunc_int64_int64_int64.mk) Try.func53 (by kernel_rfl) Try.ntmps53 (rs := [.tmp 6, .tmp 7]) (by kernel_rfl) [⟨.sl, x1⟩, ⟨.sl, target2⟩, ⟨.fn, cmp3⟩] (by kernel_rfl) (by kernel_rfl) (by kernel_rfl) (by kernel_rfl) H

theorem explore_lesser.br {a1 : Sl} {b2 : Sl} {h : Heap} {Q : Int → Heap → Prop} (H : explore_lesser.M (fun x0 x1 h K => CallT Try.prog 80 [Kd.val (.int .i64) x0, Kd.val (.int .i64) x1] false (.int .i64) h K) (fun x0 x1 h K => CallT Try.prog 81 [Kd.val .sl x0, Kd.val .sl x1] false (.int .i64) h K) a1 b2 h Q) :
    CallT Try.prog 54 [Kd.val .sl a1, Kd.val .sl b2] false (.int .i64) h Q :=
  fn_sound2 (c := weave (Try.f54.body.getD .skip) explore_lesser.mk) Try.func54 (by kernel_rfl) Try.ntmps54 (rs := [.tmp 4]) (by kernel_rfl) [⟨.sl, a1⟩, ⟨.sl, b2⟩] (by kernel_rfl) (by kernel_rfl) (by kernel_rfl) (by kernel_rfl) H

theorem slices_Insert_int64_int64.br {s1 : Sl} {i2 : Int} {v3 : Sl} {h : Heap} {Q : Sl → Heap → Prop} (H : slices_Insert_int64_int64.M (fun x0 x1 h K => ExtT Try.prog 82 [Kd.val .sl x0, Kd.val .sl x1] false .bool h K) (fun x0 x1 h K => CallT Try.prog 83 [Kd.val .sl x0, Kd.val (.int .i64) x1] true .nil h K) s1 i2 v3 h Q) :
    CallT Try.prog 55 [Kd.val .sl s1, Kd.val (.int .i64) i2, Kd.val .sl v3] false .sl h Q :=
  fn_sound2 (c := weave (Try.f55.body.getD .skip) slices_Insert_int64_int64.mk) Try.func55 (by kernel_rfl) Try.ntmps55 (rs := [.tmp 6]) (by kernel_rfl) [⟨.sl, s1⟩, ⟨(.int .i64), i2⟩, ⟨.sl, v3⟩] (by kernel_rfl) (by kernel_rfl) (by kernel_rfl) (by kernel_rfl) H

theorem law22_total.br {s1 : Den kapiScene} {h : Heap} {Q : Int → Heap → Prop} (H : law22_total.M  s1 h Q) :
    CallT Try.prog 56 [Kd.val kapiScene s1] false (.int .i64) h Q :=
  fn_sound2 (c := weave (Try.f56.body.getD .skip) law22_total.mk) Try.func56 (by kernel_rfl) Try.ntmps56 (rs := [.tmp 2]) (by kernel_rfl) [⟨kapiScene, s1⟩] (by kernel_rfl) (by kernel_rfl) (by kernel_rfl) (by kernel_rfl) H

theorem explore_isScript.br {s1 : Den kapiScene} {picks2 : Sl} {h : Heap} {Q : Bool → Heap → Prop} (H : explore_isScript.M (fun x0 x1 h K => CallT Try.prog 84 [Kd.val .sl x0, Kd.val .fn x1] false .bool h K) s1 picks2 h Q) :
    CallT Try.prog 57 [Kd.val kapiScene s1, Kd.val .sl picks2] false .bool h Q :=
  fn_sound2 (c := weave (Try.f57.body.getD .skip) explore_isScript.mk) Try.func57 (by kernel_rfl) Try.ntmps57 (rs := [.tmp 4]) (by kernel_rfl) [⟨kapiScene, s1⟩, ⟨.sl, picks2⟩] (by kernel_rfl) (by kernel_rfl) (by kernel_rfl) (by kernel_rfl) H

theorem slices_EqualFunc_int_int_int_int.br {s11 : Sl} {s22 : Sl} {eq3 : Value} {h : Heap} {Q : Bool → Heap → Prop} (H : slices_EqualFunc_int_int_int_int.M (fun x0 x1 x2 h K => FnT Try.prog x0 [Kd.val .sl x1, Kd.val .sl x2] false .bool h K) s11 s22 eq3 h Q) :
    CallT Try.prog 58 [Kd.val .sl s11, Kd.val .sl s22, Kd.val .fn eq3] false .bool h Q :=
  fn_sound2 (c := weave (Try.f58.body.getD .skip) slices_EqualFunc_int_int_int_int.mk) Try.func58 (by kernel_rfl) Try.ntmps58 (rs := [.tmp 6]) (by kernel_rfl) [⟨.sl, s11⟩, ⟨.sl, s22⟩, ⟨.fn, eq3⟩] (by kernel_rfl) (by kernel_rfl) (by kernel_rfl) (by kernel_rfl) H

theorem explore_Alike_1.br {a1 : Sl} {b2 : Sl} {h : Heap} {Q : Bool → Heap → Prop} (H : explore_Alike_1.M (fun x0 x1 h K => CallT Try.prog 60 [Kd.val .sl x0, Kd.val .sl x1] false .bool h K) a1 b2 h Q) :
    CallT Try.prog 59 [Kd.val .sl a1, Kd.val .sl b2] false .bool h Q :=
  fn_sound2 (c := weave (Try.f59.body.getD .skip) explore_Alike_1.mk) Try.func59 (by kernel_rfl) Try.ntmps59 (rs := [.tmp 4]) (by kernel_rfl) [⟨.sl, a1⟩, ⟨.sl, b2⟩] (by kernel_rfl) (by kernel_rfl) (by kernel_rfl) (by kernel_rfl) H

theorem slices_Equal_int_int.br {s11 : Sl} {s22 : Sl} {h : Heap} {Q : Bool → Heap → Prop} (H : slices_Equal_int_int.M  s11 s22 h Q) :
    CallT Try.prog 60 [Kd.val .sl s11, Kd.val .sl s22] false .bool h Q :=
  fn_sound2 (c := weave (Try.f60.body.getD .skip) slices_Equal_int_int.mk) Try.func60 (by kernel_rfl) Try.ntmps60 (rs := [.tmp 4]) (by kernel_rfl) [⟨.sl, s11⟩, ⟨.sl, s22⟩] (by kernel_rfl) (by kernel_rfl) (by kernel_rfl) (by kernel_rfl) H

theorem explore_steps.br {s1 : Den kapiScene} {picks2 : Sl} {h : Heap} {Q : Sl → Heap → Prop} (H : explore_steps.M (fun x0 x1 x2 h K => CallT Try.prog 37 [Kd.val kapiScene x0, Kd.val kapiAct x1, Kd.val kapiAct x2] false .bool h K) s1 picks2 h Q) :
    CallT Try.prog 64 [Kd.val kapiScene s1, Kd.val .sl picks2] false .sl h Q :=
  fn_sound2 (c := weave (Try.f64.body.getD .skip) explore_steps.mk) Try.func64 (by kernel_rfl) Try.ntmps64 (rs := [.tmp 4]) (by kernel_rfl) [⟨kapiScene, s1⟩, ⟨.sl, picks2⟩] (by kernel_rfl) (by kernel_rfl) (by kernel_rfl) (by kernel_rfl) H

theorem explore_gives.br {x1 : Den kapiAct} {h : Heap} {Q : Bool → Heap → Prop} (H : explore_gives.M  x1 h Q) :
    CallT Try.prog 66 [Kd.val kapiAct x1] false .bool h Q :=
  fn_sound2 (c := weave (Try.f66.body.getD .skip) explore_gives.mk) Try.func66 (by kernel_rfl) Try.ntmps66 (rs := [.tmp 2]) (by kernel_rfl) [⟨kapiAct, x1⟩] (by kernel_rfl) (by kernel_rfl) (by kernel_rfl) (by kernel_rfl) H

theorem explore_touches.br {s1 : Den kapiScene} {x2 : Den kapiAct} {h : Heap} {Q : Bool → Heap → Prop} (H : explore_touches.M  s1 x2 h Q) :
    CallT Try.prog 67 [Kd.val kapiScene s1, Kd.val kapiAct x2] false .bool h Q :=
  fn_sound2 (c := weave (Try.f67.body.getD .skip) explore_touches.mk) Try.func67 (by kernel_rfl) Try.ntmps67 (rs := [.tmp 4]) (by kernel_rfl) [⟨kapiScene, s1⟩, ⟨kapiAct, x2⟩] (by kernel_rfl) (by kernel_rfl) (by kernel_rfl) (by kernel_rfl) H

theorem dag_Check.br {d1 : Den kapiDag} {h : Heap} {Q : Int → Heap → Prop} (H : dag_Check.M  d1 h Q) :
    CallT Try.prog 68 [Kd.val kapiDag d1] false (.int .i64) h Q :=
  fn_sound2 (c := weave (Try.f68.body.getD .skip) dag_Check.mk) Try.func68 (by kernel_rfl) Try.ntmps68 (rs := [.tmp 2]) (by kernel_rfl) [⟨kapiDag, d1⟩] (by kernel_rfl) (by kernel_rfl) (by kernel_rfl) (by kernel_rfl) H

theorem dag_ahead.br {d1 : Den kapiDag} {h : Heap} {Q : Sl → Heap → Prop} (H : dag_ahead.M  d1 h Q) :
    CallT Try.prog 69 [Kd.val kapiDag d1] false .sl h Q :=
  fn_sound2 (c := weave (Try.f69.body.getD .skip) dag_ahead.mk) Try.func69 (by kernel_rfl) Try.ntmps69 (rs := [.tmp 2]) (by kernel_rfl) [⟨kapiDag, d1⟩] (by kernel_rfl) (by kernel_rfl) (by kernel_rfl) (by kernel_rfl) H

theorem slices_Sort_int_int.br {x1 : Sl} {h : Heap} {Q : Unit → Heap → Prop} (H : slices_Sort_int_int.M (fun x0 h K => CallT Try.prog 90 [Kd.val (.int .u64) x0] false (.int .i64) h K) (fun x0 x1 x2 x3 h K => CallT Try.prog 89 [Kd.val .sl x0, Kd.val (.int .i64) x1, Kd.val (.int .i64) x2, Kd.val (.int .i64) x3] true .nil h K) x1 h Q) :
    CallT Try.prog 70 [Kd.val .sl x1] true .nil h Q :=
  fn_sound2 (c := weave (Try.f70.body.getD .skip) slices_Sort_int_int.mk) Try.func70 (by kernel_rfl) Try.ntmps70 (rs := []) (by kernel_rfl) [⟨.sl, x1⟩] (by kernel_rfl) (by kernel_rfl) (by kernel_rfl) (by kernel_rfl) H

theorem explore_traces_1.br {yield1 : Value} {t2 : Option Addr} {h : Heap} {Q : Unit → Heap → Prop} (H : explore_traces_1.M (fun x0 x1 x2 h K => CallT Try.prog 74 [Kd.val .ptr x0, Kd.val .map x1, Kd.val .fn x2] false .bool h K) yield1 t2 h Q) :
    CallT Try.prog 73 [Kd.val .fn yield1, Kd.val .ptr t2] true .nil h Q :=
  fn_sound2 (c := weave (Try.f73.body.getD .skip) explore_traces_1.mk) Try.func73 (by kernel_rfl) Try.ntmps73 (rs := []) (by kernel_rfl) [⟨.fn, yield1⟩, ⟨.ptr, t2⟩] (by kernel_rfl) (by kernel_rfl) (by kernel_rfl) (by kernel_rfl) H

theorem explore_walk_down.br {w1 : Option Addr} {asleep2 : Option Nat} {yield3 : Value} {h : Heap} {Q : Bool → Heap → Prop} (H : explore_walk_down.M (fun x0 h K => CallT Try.prog 93 [Kd.val .map x0] false .map h K) (fun x0 x1 h K => CallT Try.prog 94 [Kd.val .ptr x0, Kd.val (.int .i64) x1] false kapiAct h K) (fun x0 x1 x2 h K => CallT Try.prog 37 [Kd.val kapiScene x0, Kd.val kapiAct x1, Kd.val kapiAct x2] false .bool h K) (fun x0 x1 x2 h K => CallT Try.prog 74 [Kd.val .ptr x0, Kd.val .map x1, Kd.val .fn x2] false .bool h K) (fun x0 h K => CallT Try.prog 95 [Kd.val .sl x0] false .sl h K) (fun x0 x1 h K => FnY Try.prog x0 [Kd.val .sl x1] false .bool h K) w1 asleep2 yield3 h Q) :
    CallT Try.prog 74 [Kd.val .ptr w1, Kd.val .map asleep2, Kd.val .fn yield3] false .bool h Q :=
  fn_sound2 (c := weave (Try.f74.body.getD .skip) explore_walk_down.mk) Try.func74 (by kernel_rfl) Try.ntmps74 (rs := [.tmp 6]) (by kernel_rfl) [⟨.ptr, w1⟩, ⟨.map, asleep2⟩, ⟨.fn, yield3⟩] (by kernel_rfl) (by kernel_rfl) (by kernel_rfl) (by kernel_rfl) H

theorem cells_New.br {size1 : Int} {h : Heap} {Q : (Option Addr × (Int × Unit)) → Heap → Prop} (H : cells_New.M (fun x0 h K => CallT Try.prog 96 [Kd.val (.int .i64) x0] false .bool h K) size1 h Q) :
    CallT Try.prog 75 [Kd.val (.int .i64) size1] true (.pair .ptr (.pair (.int .i64) .nil)) h Q :=
  fn_sound2 (c := weave (Try.f75.body.getD .skip) cells_New.mk) Try.func75 (by kernel_rfl) Try.ntmps75 (rs := [.tmp 2, .tmp 3]) (by kernel_rfl) [⟨(.int .i64), size1⟩] (by kernel_rfl) (by kernel_rfl) (by kernel_rfl) (by kernel_rfl) H

theorem cells_Arena_Reserve.br {a1 : Option Addr} {n2 : Int} {h : Heap} {Q : Den kapiEdge → Heap → Prop} (H : cells_Arena_Reserve.M (fun x0 x1 h K => CallT Try.prog 97 [Kd.val .ptr x0, Kd.val (.int .i64) x1] false (.int .i64) h K) (fun x0 x1 h K => CallT Try.prog 98 [Kd.val .ptr x0, Kd.val (.int .i64) x1] false (.int .i64) h K) (fun x0 x1 x2 x3 x4 x5 h K => CallT Try.prog 99 [Kd.val .ptr x0, Kd.val (.int .i64) x1, Kd.val (.int .i64) x2, Kd.val (.int .i64) x3, Kd.val (.int .i64) x4, Kd.val .bool x5] true .nil h K) a1 n2 h Q) :
    CallT Try.prog 76 [Kd.val .ptr a1, Kd.val (.int .i64) n2] true kapiEdge h Q :=
  fn_sound2 (c := weave (Try.f76.body.getD .skip) cells_Arena_Reserve.mk) Try.func76 (by kernel_rfl) Try.ntmps76 (rs := [.tmp 4, .tmp 5]) (by kernel_rfl) [⟨.ptr, a1⟩, ⟨(.int .i64), n2⟩] (by kernel_rfl) (by kernel_rfl) (by kernel_rfl) (by kernel_rfl) H

theorem cells_Arena_Store.br {a1 : Option Addr} {addr2 : Int} {v3 : Int} {h : Heap} {Q : Int → Heap → Prop} (H : cells_Arena_Store.M (fun x0 x1 h K => CallT Try.prog 100 [Kd.val .ptr x0, Kd.val (.int .i64) x1] false .bool h K) (fun x0 x1 x2 x3 x4 x5 h K => CallT Try.prog 99 [Kd.val .ptr x0, Kd.val (.int .i64) x1, Kd.val (.int .i64) x2, Kd.val (.int .i64) x3, Kd.val (.int .i64) x4, Kd.val .bool x5] true .nil h K) a1 addr2 v3 h Q) :
    CallT Try.prog 77 [Kd.val .ptr a1, Kd.val (.int .i64) addr2, Kd.val (.int .i64) v3] false (.int .i64) h Q :=
  fn_sound2 (c := weave (Try.f77.body.getD .skip) cells_Arena_Store.mk) Try.func77 (by kernel_rfl) Try.ntmps77 (rs := [.tmp 6]) (by kernel_rfl) [⟨.ptr, a1⟩, ⟨(.int .i64), addr2⟩, ⟨(.int .i64), v3⟩] (by kernel_rfl) (by kernel_rfl) (by kernel_rfl) (by kernel_rfl) H

theorem explore_act.br {a1 : Option Addr} {x2 : Den kapiAct} {h : Heap} {Q : Den kapiEffect → Heap → Prop} (H : explore_act.M (fun x0 x1 h K => CallT Try.prog 101 [Kd.val .ptr x0, Kd.val (.int .i64) x1] true kapiEdge h K) (fun x0 x1 x2 h K => CallT Try.prog 77 [Kd.val .ptr x0, Kd.val (.int .i64) x1, Kd.val (.int .i64) x2] false (.int .i64) h K) (fun x0 x1 x2 x3 h K => CallT Try.prog 102 [Kd.val .ptr x0, Kd.val (.int .i64) x1, Kd.val (.int .i64) x2, Kd.val (.int .i64) x3] true (.pair .bool (.pair (.int .i64) .nil)) h K) (fun x0 x1 x2 h K => CallT Try.prog 103 [Kd.val .ptr x0, Kd.val (.int .i64) x1, Kd.val (.int .i64) x2] true kapiEdge h K) (fun x0 x1 h K => CallT Try.prog 76 [Kd.val .ptr x0, Kd.val (.int .i64) x1] true kapiEdge h K) a1 x2 h Q) :
    CallT Try.prog 78 [Kd.val .ptr a1, Kd.val kapiAct x2] false kapiEffect h Q :=
  fn_sound2 (c := weave (Try.f78.body.getD .skip) explore_act.mk) Try.func78 (by kernel_rfl) Try.ntmps78 (rs := [.cell 4 110]) (by kernel_rfl) [⟨.ptr, a1⟩, ⟨kapiAct, x2⟩] (by kernel_rfl) (by kernel_rfl) (by kernel_rfl) (by kernel_rfl) H

theorem cells_Arena_Cells.br {a1 : Option Addr} {h : Heap} {Q : Sl → Heap → Prop} (H : cells_Arena_Cells.M  a1 h Q) :
    CallT Try.prog 79 [Kd.val .ptr a1] false .sl h Q :=
  fn_sound2 (c := weave (Try.f79.body.getD .skip) cells_Arena_Cells.mk) Try.func79 (by kernel_rfl) Try.ntmps79 (rs := [.tmp 2]) (by kernel_rfl) [⟨.ptr, a1⟩] (by kernel_rfl) (by kernel_rfl) (by kernel_rfl) (by kernel_rfl) H

theorem cmp_Compare_int.br {x1 : Int} {y2 : Int} {h : Heap} {Q : Int → Heap → Prop} (H : cmp_Compare_int.M (fun x0 h K => CallT Try.prog 104 [Kd.val (.int .i64) x0] false .bool h K) x1 y2 h Q) :
    CallT Try.prog 80 [Kd.val (.int .i64) x1, Kd.val (.int .i64) y2] false (.int .i64) h Q :=
  fn_sound2 (c := weave (Try.f80.body.getD .skip) cmp_Compare_int.mk) Try.func80 (by kernel_rfl) Try.ntmps80 (rs := [.tmp 4]) (by kernel_rfl) [⟨(.int .i64), x1⟩, ⟨(.int .i64), y2⟩] (by kernel_rfl) (by kernel_rfl) (by kernel_rfl) (by kernel_rfl) H

theorem slices_Compare_int64_int64.br {s11 : Sl} {s22 : Sl} {h : Heap} {Q : Int → Heap → Prop} (H : slices_Compare_int64_int64.M (fun x0 x1 h K => CallT Try.prog 105 [Kd.val (.int .i64) x0, Kd.val (.int .i64) x1] false (.int .i64) h K) s11 s22 h Q) :
    CallT Try.prog 81 [Kd.val .sl s11, Kd.val .sl s22] false (.int .i64) h Q :=
  fn_sound2 (c := weave (Try.f81.body.getD .skip) slices_Compare_int64_int64.mk) Try.func81 (by kernel_rfl) Try.ntmps81 (rs := [.tmp 4]) (by kernel_rfl) [⟨.sl, s11⟩, ⟨.sl, s22⟩] (by kernel_rfl) (by kernel_rfl) (by kernel_rfl) (by kernel_rfl) H

theorem slices_rotateRight_int64.br {s1 : Sl} {r2 : Int} {h : Heap} {Q : Unit → Heap → Prop} (H : slices_rotateRight_int64.M (fun x0 x1 h K => CallT Try.prog 106 [Kd.val .sl x0, Kd.val (.int .i64) x1] true .nil h K) s1 r2 h Q) :
    CallT Try.prog 83 [Kd.val .sl s1, Kd.val (.int .i64) r2] true .nil h Q :=
  fn_sound2 (c := weave (Try.f83.body.getD .skip) slices_rotateRight_int64.mk) Try.func83 (by kernel_rfl) Try.ntmps83 (rs := []) (by kernel_rfl) [⟨.sl, s1⟩, ⟨(.int .i64), r2⟩] (by kernel_rfl) (by kernel_rfl) (by kernel_rfl) (by kernel_rfl) H

theorem slices_ContainsFunc_int_int.br {s1 : Sl} {f2 : Value} {h : Heap} {Q : Bool → Heap → Prop} (H : slices_ContainsFunc_int_int.M (fun x0 x1 h K => CallT Try.prog 107 [Kd.val .sl x0, Kd.val .fn x1] false (.int .i64) h K) s1 f2 h Q) :
    CallT Try.prog 84 [Kd.val .sl s1, Kd.val .fn f2] false .bool h Q :=
  fn_sound2 (c := weave (Try.f84.body.getD .skip) slices_ContainsFunc_int_int.mk) Try.func84 (by kernel_rfl) Try.ntmps84 (rs := [.tmp 4]) (by kernel_rfl) [⟨.sl, s1⟩, ⟨.fn, f2⟩] (by kernel_rfl) (by kernel_rfl) (by kernel_rfl) (by kernel_rfl) H

theorem explore_isScript_1.br {n1 : Int} {h : Heap} {Q : Bool → Heap → Prop} (H : explore_isScript_1.M  n1 h Q) :
    CallT Try.prog 85 [Kd.val (.int .i64) n1] false .bool h Q :=
  fn_sound2 (c := weave (Try.f85.body.getD .skip) explore_isScript_1.mk) Try.func85 (by kernel_rfl) Try.ntmps85 (rs := [.tmp 2]) (by kernel_rfl) [⟨(.int .i64), n1⟩] (by kernel_rfl) (by kernel_rfl) (by kernel_rfl) (by kernel_rfl) H

theorem slices_pdqsortOrdered_int.br {data1 : Sl} {a2 : Int} {b3 : Int} {limit4 : Int} {h : Heap} {Q : Unit → Heap → Prop} (H : slices_pdqsortOrdered_int.M (fun x0 x1 x2 h K => CallT Try.prog 108 [Kd.val .sl x0, Kd.val (.int .i64) x1, Kd.val (.int .i64) x2] true .nil h K) (fun x0 x1 x2 h K => CallT Try.prog 109 [Kd.val .sl x0, Kd.val (.int .i64) x1, Kd.val (.int .i64) x2] true .nil h K) (fun x0 x1 x2 h K => CallT Try.prog 110 [Kd.val .sl x0, Kd.val (.int .i64) x1, Kd.val (.int .i64) x2] true .nil h K) (fun x0 x1 x2 h K => CallT Try.prog 111 [Kd.val .sl x0, Kd.val (.int .i64) x1, Kd.val (.int .i64) x2] true kapiEdge h K) (fun x0 x1 x2 h K => CallT Try.prog 112 [Kd.val .sl x0, Kd.val (.int .i64) x1, Kd.val (.int .i64) x2] true .nil h K) (fun x0 x1 x2 h K => CallT Try.prog 113 [Kd.val .sl x0, Kd.val (.int .i64) x1, Kd.val (.int .i64) x2] false .bool h K) (fun x0 x1 h K => CallT Try.prog 114 [Kd.val (.int .i64) x0, Kd.val (.int .i64) x1] false .bool h K) (fun x0 x1 x2 x3 h K => CallT Try.prog 115 [Kd.val .sl x0, Kd.val (.int .i64) x1, Kd.val (.int .i64) x2, Kd.val (.int .i64) x3] false (.int .i64) h K) (fun x0 x1 x2 x3 h K => CallT Try.prog 116 [Kd.val .sl x0, Kd.val (.int .i64) x1, Kd.val (.int .i64) x2, Kd.val (.int .i64) x3] true (.pair (.int .i64) (.pair .bool .nil)) h K) (fun x0 x1 x2 x3 h K => CallT Try.prog 89 [Kd.val .sl x0, Kd.val (.int .i64) x1, Kd.val (.int .i64) x2, Kd.val (.int .i64) x3] true .nil h K) data1 a2 b3 limit4 h Q) :
    CallT Try.prog 89 [Kd.val .sl data1, Kd.val (.int .i64) a2, Kd.val (.int .i64) b3, Kd.val (.int .i64) limit4] true .nil h Q :=
  fn_sound2 (c := weave (Try.f89.body.getD .skip) slices_pdqsortOrdered_int.mk) Try.func89 (by kernel_rfl) Try.ntmps89 (rs := []) (by kernel_rfl) [⟨.sl, data1⟩, ⟨(.int .i64), a2⟩, ⟨(.int .i64), b3⟩, ⟨(.int .i64), limit4⟩] (by kernel_rfl) (by kernel_rfl) (by kernel_rfl) (by kernel_rfl) H

theorem math_bits_Len.br {x1 : Int} {h : Heap} {Q : Int → Heap → Prop} (H : math_bits_Len.M (fun x0 h K => CallT Try.prog 118 [Kd.val (.int .u64) x0] false (.int .i64) h K) x1 h Q) :
    CallT Try.prog 90 [Kd.val (.int .u64) x1] false (.int .i64) h Q :=
  fn_sound2 (c := weave (Try.f90.body.getD .skip) math_bits_Len.mk) Try.func90 (by kernel_rfl) Try.ntmps90 (rs := [.tmp 2]) (by kernel_rfl) [⟨(.int .u64), x1⟩] (by kernel_rfl) (by kernel_rfl) (by kernel_rfl) (by kernel_rfl) H

theorem maps_Clone_map_int_int_int_int.br {m1 : Option Nat} {h : Heap} {Q : Option Nat → Heap → Prop} (H : maps_Clone_map_int_int_int_int.M (fun x0 h K => ExtT Try.prog 119 [Kd.val .iface x0] false .iface h K) m1 h Q) :
    CallT Try.prog 93 [Kd.val .map m1] false .map h Q :=
  fn_sound2 (c := weave (Try.f93.body.getD .skip) maps_Clone_map_int_int_int_int.mk) Try.func93 (by kernel_rfl) Try.ntmps93 (rs := [.tmp 2]) (by kernel_rfl) [⟨.map, m1⟩] (by kernel_rfl) (by kernel_rfl) (by kernel_rfl) (by kernel_rfl) H

theorem explore_walk_act.br {w1 : Option Addr} {who2 : Int} {h : Heap} {Q : Den kapiAct → Heap → Prop} (H : explore_walk_act.M  w1 who2 h Q) :
    CallT Try.prog 94 [Kd.val .ptr w1, Kd.val (.int .i64) who2] false kapiAct h Q :=
  fn_sound2 (c := weave (Try.f94.body.getD .skip) explore_walk_act.mk) Try.func94 (by kernel_rfl) Try.ntmps94 (rs := [.cell 4 60]) (by kernel_rfl) [⟨.ptr, w1⟩, ⟨(.int .i64), who2⟩] (by kernel_rfl) (by kernel_rfl) (by kernel_rfl) (by kernel_rfl) H

theorem slices_Clone_int_int.br {s1 : Sl} {h : Heap} {Q : Sl → Heap → Prop} (H : slices_Clone_int_int.M  s1 h Q) :
    CallT Try.prog 95 [Kd.val .sl s1] false .sl h Q :=
  fn_sound2 (c := weave (Try.f95.body.getD .skip) slices_Clone_int_int.mk) Try.func95 (by kernel_rfl) Try.ntmps95 (rs := [.tmp 2]) (by kernel_rfl) [⟨.sl, s1⟩] (by kernel_rfl) (by kernel_rfl) (by kernel_rfl) (by kernel_rfl) H

theorem cells_good.br {size1 : Int} {h : Heap} {Q : Bool → Heap → Prop} (H : cells_good.M  size1 h Q) :
    CallT Try.prog 96 [Kd.val (.int .i64) size1] false .bool h Q :=
  fn_sound2 (c := weave (Try.f96.body.getD .skip) cells_good.mk) Try.func96 (by kernel_rfl) Try.ntmps96 (rs := [.tmp 2]) (by kernel_rfl) [⟨(.int .i64), size1⟩] (by kernel_rfl) (by kernel_rfl) (by kernel_rfl) (by kernel_rfl) H

theorem cells_ledger_refuse.br {l1 : Option Addr} {n2 : Int} {h : Heap} {Q : Int → Heap → Prop} (H : cells_ledger_refuse.M  l1 n2 h Q) :
    CallT Try.prog 97 [Kd.val .ptr l1, Kd.val (.int .i64) n2] false (.int .i64) h Q :=
  fn_sound2 (c := weave (Try.f97.body.getD .skip) cells_ledger_refuse.mk) Try.func97 (by kernel_rfl) Try.ntmps97 (rs := [.tmp 4]) (by kernel_rfl) [⟨.ptr, l1⟩, ⟨(.int .i64), n2⟩] (by kernel_rfl) (by kernel_rfl) (by kernel_rfl) (by kernel_rfl) H

theorem cells_ledger_take.br {l1 : Option Addr} {n2 : Int} {h : Heap} {Q : Int → Heap → Prop} (H : cells_ledger_take.M  l1 n2 h Q) :
    CallT Try.prog 98 [Kd.val .ptr l1, Kd.val (.int .i64) n2] false (.int .i64) h Q :=
  fn_sound2 (c := weave (Try.f98.body.getD .skip) cells_ledger_take.mk) Try.func98 (by kernel_rfl) Try.ntmps98 (rs := [.tmp 4]) (by kernel_rfl) [⟨.ptr, l1⟩, ⟨(.int .i64), n2⟩] (by kernel_rfl) (by kernel_rfl) (by kernel_rfl) (by kernel_rfl) H

theorem cells_Arena_note.br {a1 : Option Addr} {kind2 : Int} {addr3 : Int} {x4 : Int} {y5 : Int} {ok6 : Bool} {h : Heap} {Q : Unit → Heap → Prop} (H : cells_Arena_note.M  a1 kind2 addr3 x4 y5 ok6 h Q) :
    CallT Try.prog 99 [Kd.val .ptr a1, Kd.val (.int .i64) kind2, Kd.val (.int .i64) addr3, Kd.val (.int .i64) x4, Kd.val (.int .i64) y5, Kd.val .bool ok6] true .nil h Q :=
  fn_sound2 (c := weave (Try.f99.body.getD .skip) cells_Arena_note.mk) Try.func99 (by kernel_rfl) Try.ntmps99 (rs := []) (by kernel_rfl) [⟨.ptr, a1⟩, ⟨(.int .i64), kind2⟩, ⟨(.int .i64), addr3⟩, ⟨(.int .i64), x4⟩, ⟨(.int .i64), y5⟩, ⟨.bool, ok6⟩] (by kernel_rfl) (by kernel_rfl) (by kernel_rfl) (by kernel_rfl) H

theorem cells_Arena_outside.br {a1 : Option Addr} {addr2 : Int} {h : Heap} {Q : Bool → Heap → Prop} (H : cells_Arena_outside.M (fun x0 x1 h K => CallT Try.prog 120 [Kd.val .ptr x0, Kd.val (.int .i64) x1] false .bool h K) a1 addr2 h Q) :
    CallT Try.prog 100 [Kd.val .ptr a1, Kd.val (.int .i64) addr2] false .bool h Q :=
  fn_sound2 (c := weave (Try.f100.body.getD .skip) cells_Arena_outside.mk) Try.func100 (by kernel_rfl) Try.ntmps100 (rs := [.tmp 4]) (by kernel_rfl) [⟨.ptr, a1⟩, ⟨(.int .i64), addr2⟩] (by kernel_rfl) (by kernel_rfl) (by kernel_rfl) (by kernel_rfl) H

theorem cells_Arena_Load.br {a1 : Option Addr} {addr2 : Int} {h : Heap} {Q : Den kapiEdge → Heap → Prop} (H : cells_Arena_Load.M (fun x0 x1 h K => CallT Try.prog 100 [Kd.val .ptr x0, Kd.val (.int .i64) x1] false .bool h K) (fun x0 x1 x2 x3 x4 x5 h K => CallT Try.prog 99 [Kd.val .ptr x0, Kd.val (.int .i64) x1, Kd.val (.int .i64) x2, Kd.val (.int .i64) x3, Kd.val (.int .i64) x4, Kd.val .bool x5] true .nil h K) a1 addr2 h Q) :
    CallT Try.prog 101 [Kd.val .ptr a1, Kd.val (.int .i64) addr2] true kapiEdge h Q :=
  fn_sound2 (c := weave (Try.f101.body.getD .skip) cells_Arena_Load.mk) Try.func101 (by kernel_rfl) Try.ntmps101 (rs := [.tmp 4, .tmp 5]) (by kernel_rfl) [⟨.ptr, a1⟩, ⟨(.int .i64), addr2⟩] (by kernel_rfl) (by kernel_rfl) (by kernel_rfl) (by kernel_rfl) H

theorem cells_Arena_CAS.br {a1 : Option Addr} {addr2 : Int} {old3 : Int} {next4 : Int} {h : Heap} {Q : (Bool × (Int × Unit)) → Heap → Prop} (H : cells_Arena_CAS.M (fun x0 x1 h K => CallT Try.prog 100 [Kd.val .ptr x0, Kd.val (.int .i64) x1] false .bool h K) (fun x0 x1 x2 x3 x4 x5 h K => CallT Try.prog 99 [Kd.val .ptr x0, Kd.val (.int .i64) x1, Kd.val (.int .i64) x2, Kd.val (.int .i64) x3, Kd.val (.int .i64) x4, Kd.val .bool x5] true .nil h K) a1 addr2 old3 next4 h Q) :
    CallT Try.prog 102 [Kd.val .ptr a1, Kd.val (.int .i64) addr2, Kd.val (.int .i64) old3, Kd.val (.int .i64) next4] true (.pair .bool (.pair (.int .i64) .nil)) h Q :=
  fn_sound2 (c := weave (Try.f102.body.getD .skip) cells_Arena_CAS.mk) Try.func102 (by kernel_rfl) Try.ntmps102 (rs := [.tmp 8, .tmp 9]) (by kernel_rfl) [⟨.ptr, a1⟩, ⟨(.int .i64), addr2⟩, ⟨(.int .i64), old3⟩, ⟨(.int .i64), next4⟩] (by kernel_rfl) (by kernel_rfl) (by kernel_rfl) (by kernel_rfl) H

theorem cells_Arena_Add.br {a1 : Option Addr} {addr2 : Int} {d3 : Int} {h : Heap} {Q : Den kapiEdge → Heap → Prop} (H : cells_Arena_Add.M (fun x0 x1 h K => CallT Try.prog 100 [Kd.val .ptr x0, Kd.val (.int .i64) x1] false .bool h K) (fun x0 x1 x2 x3 x4 x5 h K => CallT Try.prog 99 [Kd.val .ptr x0, Kd.val (.int .i64) x1, Kd.val (.int .i64) x2, Kd.val (.int .i64) x3, Kd.val (.int .i64) x4, Kd.val .bool x5] true .nil h K) a1 addr2 d3 h Q) :
    CallT Try.prog 103 [Kd.val .ptr a1, Kd.val (.int .i64) addr2, Kd.val (.int .i64) d3] true kapiEdge h Q :=
  fn_sound2 (c := weave (Try.f103.body.getD .skip) cells_Arena_Add.mk) Try.func103 (by kernel_rfl) Try.ntmps103 (rs := [.tmp 6, .tmp 7]) (by kernel_rfl) [⟨.ptr, a1⟩, ⟨(.int .i64), addr2⟩, ⟨(.int .i64), d3⟩] (by kernel_rfl) (by kernel_rfl) (by kernel_rfl) (by kernel_rfl) H

theorem cmp_isNaN_int.br {x1 : Int} {h : Heap} {Q : Bool → Heap → Prop} (H : cmp_isNaN_int.M  x1 h Q) :
    CallT Try.prog 104 [Kd.val (.int .i64) x1] false .bool h Q :=
  fn_sound2 (c := weave (Try.f104.body.getD .skip) cmp_isNaN_int.mk) Try.func104 (by kernel_rfl) Try.ntmps104 (rs := [.tmp 2]) (by kernel_rfl) [⟨(.int .i64), x1⟩] (by kernel_rfl) (by kernel_rfl) (by kernel_rfl) (by kernel_rfl) H

theorem cmp_Compare_int64.br {x1 : Int} {y2 : Int} {h : Heap} {Q : Int → Heap → Prop} (H : cmp_Compare_int64.M (fun x0 h K => CallT Try.prog 121 [Kd.val (.int .i64) x0] false .bool h K) x1 y2 h Q) :
    CallT Try.prog 105 [Kd.val (.int .i64) x1, Kd.val (.int .i64) y2] false (.int .i64) h Q :=
  fn_sound2 (c := weave (Try.f105.body.getD .skip) cmp_Compare_int64.mk) Try.func105 (by kernel_rfl) Try.ntmps105 (rs := [.tmp 4]) (by kernel_rfl) [⟨(.int .i64), x1⟩, ⟨(.int .i64), y2⟩] (by kernel_rfl) (by kernel_rfl) (by kernel_rfl) (by kernel_rfl) H

theorem slices_rotateLeft_int64.br {s1 : Sl} {r2 : Int} {h : Heap} {Q : Unit → Heap → Prop} (H : slices_rotateLeft_int64.M (fun x0 h K => CallT Try.prog 122 [Kd.val .sl x0] true .nil h K) s1 r2 h Q) :
    CallT Try.prog 106 [Kd.val .sl s1, Kd.val (.int .i64) r2] true .nil h Q :=
  fn_sound2 (c := weave (Try.f106.body.getD .skip) slices_rotateLeft_int64.mk) Try.func106 (by kernel_rfl) Try.ntmps106 (rs := []) (by kernel_rfl) [⟨.sl, s1⟩, ⟨(.int .i64), r2⟩] (by kernel_rfl) (by kernel_rfl) (by kernel_rfl) (by kernel_rfl) H

theorem slices_IndexFunc_int_int.br {s1 : Sl} {f2 : Value} {h : Heap} {Q : Int → Heap → Prop} (H : slices_IndexFunc_int_int.M (fun x0 x1 h K => FnT Try.prog x0 [Kd.val (.int .i64) x1] false .bool h K) s1 f2 h Q) :
    CallT Try.prog 107 [Kd.val .sl s1, Kd.val .fn f2] false (.int .i64) h Q :=
  fn_sound2 (c := weave (Try.f107.body.getD .skip) slices_IndexFunc_int_int.mk) Try.func107 (by kernel_rfl) Try.ntmps107 (rs := [.tmp 4]) (by kernel_rfl) [⟨.sl, s1⟩, ⟨.fn, f2⟩] (by kernel_rfl) (by kernel_rfl) (by kernel_rfl) (by kernel_rfl) H

theorem slices_insertionSortOrdered_int.br {data1 : Sl} {a2 : Int} {b3 : Int} {h : Heap} {Q : Unit → Heap → Prop} (H : slices_insertionSortOrdered_int.M (fun x0 x1 h K => CallT Try.prog 114 [Kd.val (.int .i64) x0, Kd.val (.int .i64) x1] false .bool h K) data1 a2 b3 h Q) :
    CallT Try.prog 108 [Kd.val .sl data1, Kd.val (.int .i64) a2, Kd.val (.int .i64) b3] true .nil h Q :=
  fn_sound2 (c := weave (Try.f108.body.getD .skip) slices_insertionSortOrdered_int.mk) Try.func108 (by kernel_rfl) Try.ntmps108 (rs := []) (by kernel_rfl) [⟨.sl, data1⟩, ⟨(.int .i64), a2⟩, ⟨(.int .i64), b3⟩] (by kernel_rfl) (by kernel_rfl) (by kernel_rfl) (by kernel_rfl) H

theorem slices_heapSortOrdered_int.br {data1 : Sl} {a2 : Int} {b3 : Int} {h : Heap} {Q : Unit → Heap → Prop} (H : slices_heapSortOrdered_int.M (fun x0 x1 x2 x3 h K => CallT Try.prog 123 [Kd.val .sl x0, Kd.val (.int .i64) x1, Kd.val (.int .i64) x2, Kd.val (.int .i64) x3] true .nil h K) data1 a2 b3 h Q) :
    CallT Try.prog 109 [Kd.val .sl data1, Kd.val (.int .i64) a2, Kd.val (.int .i64) b3] true .nil h Q :=
  fn_sound2 (c := weave (Try.f109.body.getD .skip) slices_heapSortOrdered_int.mk) Try.func109 (by kernel_rfl) Try.ntmps109 (rs := []) (by kernel_rfl) [⟨.sl, data1⟩, ⟨(.int .i64), a2⟩, ⟨(.int .i64), b3⟩] (by kernel_rfl) (by kernel_rfl) (by kernel_rfl) (by kernel_rfl) H

theorem slices_choosePivotOrdered_int.br {data1 : Sl} {a2 : Int} {b3 : Int} {h : Heap} {Q : Den kapiEdge → Heap → Prop} (H : slices_choosePivotOrdered_int.M (fun x0 x1 x2 h K => CallT Try.prog 126 [Kd.val .sl x0, Kd.val (.int .i64) x1, Kd.val .ptr x2] false (.int .i64) h K) (fun x0 x1 x2 x3 x4 h K => CallT Try.prog 127 [Kd.val .sl x0, Kd.val (.int .i64) x1, Kd.val (.int .i64) x2, Kd.val (.int .i64) x3, Kd.val .ptr x4] false (.int .i64) h K) data1 a2 b3 h Q) :
    CallT Try.prog 111 [Kd.val .sl data1, Kd.val (.int .i64) a2, Kd.val (.int .i64) b3] true kapiEdge h Q :=
  fn_sound2 (c := weave (Try.f111.body.getD .skip) slices_choosePivotOrdered_int.mk) Try.func111 (by kernel_rfl) Try.ntmps111 (rs := [.tmp 6, .tmp 7]) (by kernel_rfl) [⟨.sl, data1⟩, ⟨(.int .i64), a2⟩, ⟨(.int .i64), b3⟩] (by kernel_rfl) (by kernel_rfl) (by kernel_rfl) (by kernel_rfl) H

theorem slices_reverseRangeOrdered_int.br {data1 : Sl} {a2 : Int} {b3 : Int} {h : Heap} {Q : Unit → Heap → Prop} (H : slices_reverseRangeOrdered_int.M  data1 a2 b3 h Q) :
    CallT Try.prog 112 [Kd.val .sl data1, Kd.val (.int .i64) a2, Kd.val (.int .i64) b3] true .nil h Q :=
  fn_sound2 (c := weave (Try.f112.body.getD .skip) slices_reverseRangeOrdered_int.mk) Try.func112 (by kernel_rfl) Try.ntmps112 (rs := []) (by kernel_rfl) [⟨.sl, data1⟩, ⟨(.int .i64), a2⟩, ⟨(.int .i64), b3⟩] (by kernel_rfl) (by kernel_rfl) (by kernel_rfl) (by kernel_rfl) H

theorem slices_partialInsertionSortOrdered_int.br {data1 : Sl} {a2 : Int} {b3 : Int} {h : Heap} {Q : Bool → Heap → Prop} (H : slices_partialInsertionSortOrdered_int.M (fun x0 x1 h K => CallT Try.prog 114 [Kd.val (.int .i64) x0, Kd.val (.int .i64) x1] false .bool h K) data1 a2 b3 h Q) :
    CallT Try.prog 113 [Kd.val .sl data1, Kd.val (.int .i64) a2, Kd.val (.int .i64) b3] false .bool h Q :=
  fn_sound2 (c := weave (Try.f113.body.getD .skip) slices_partialInsertionSortOrdered_int.mk) Try.func113 (by kernel_rfl) Try.ntmps113 (rs := [.tmp 6]) (by kernel_rfl) [⟨.sl, data1⟩, ⟨(.int .i64), a2⟩, ⟨(.int .i64), b3⟩] (by kernel_rfl) (by kernel_rfl) (by kernel_rfl) (by kernel_rfl) H

theorem cmp_Less_int.br {x1 : Int} {y2 : Int} {h : Heap} {Q : Bool → Heap → Prop} (H : cmp_Less_int.M (fun x0 h K => CallT Try.prog 104 [Kd.val (.int .i64) x0] false .bool h K) x1 y2 h Q) :
    CallT Try.prog 114 [Kd.val (.int .i64) x1, Kd.val (.int .i64) y2] false .bool h Q :=
  fn_sound2 (c := weave (Try.f114.body.getD .skip) cmp_Less_int.mk) Try.func114 (by kernel_rfl) Try.ntmps114 (rs := [.tmp 4]) (by kernel_rfl) [⟨(.int .i64), x1⟩, ⟨(.int .i64), y2⟩] (by kernel_rfl) (by kernel_rfl) (by kernel_rfl) (by kernel_rfl) H

theorem slices_partitionEqualOrdered_int.br {data1 : Sl} {a2 : Int} {b3 : Int} {pivot4 : Int} {h : Heap} {Q : Int → Heap → Prop} (H : slices_partitionEqualOrdered_int.M (fun x0 x1 h K => CallT Try.prog 114 [Kd.val (.int .i64) x0, Kd.val (.int .i64) x1] false .bool h K) data1 a2 b3 pivot4 h Q) :
    CallT Try.prog 115 [Kd.val .sl data1, Kd.val (.int .i64) a2, Kd.val (.int .i64) b3, Kd.val (.int .i64) pivot4] false (.int .i64) h Q :=
  fn_sound2 (c := weave (Try.f115.body.getD .skip) slices_partitionEqualOrdered_int.mk) Try.func115 (by kernel_rfl) Try.ntmps115 (rs := [.tmp 8]) (by kernel_rfl) [⟨.sl, data1⟩, ⟨(.int .i64), a2⟩, ⟨(.int .i64), b3⟩, ⟨(.int .i64), pivot4⟩] (by kernel_rfl) (by kernel_rfl) (by kernel_rfl) (by kernel_rfl) H

theorem slices_partitionOrdered_int.br {data1 : Sl} {a2 : Int} {b3 : Int} {pivot4 : Int} {h : Heap} {Q : (Int × (Bool × Unit)) → Heap → Prop} (H : slices_partitionOrdered_int.M (fun x0 x1 h K => CallT Try.prog 114 [Kd.val (.int .i64) x0, Kd.val (.int .i64) x1] false .bool h K) data1 a2 b3 pivot4 h Q) :
    CallT Try.prog 116 [Kd.val .sl data1, Kd.val (.int .i64) a2, Kd.val (.int .i64) b3, Kd.val (.int .i64) pivot4] true (.pair (.int .i64) (.pair .bool .nil)) h Q :=
  fn_sound2 (c := weave (Try.f116.body.getD .skip) slices_partitionOrdered_int.mk) Try.func116 (by kernel_rfl) Try.ntmps116 (rs := [.tmp 8, .tmp 9]) (by kernel_rfl) [⟨.sl, data1⟩, ⟨(.int .i64), a2⟩, ⟨(.int .i64), b3⟩, ⟨(.int .i64), pivot4⟩] (by kernel_rfl) (by kernel_rfl) (by kernel_rfl) (by kernel_rfl) H

theorem math_bits_Len64.br {x1 : Int} {h : Heap} {Q : Int → Heap → Prop} (H : math_bits_Len64.M  x1 h Q) :
    CallT Try.prog 118 [Kd.val (.int .u64) x1] false (.int .i64) h Q :=
  fn_sound2 (c := weave (Try.f118.body.getD .skip) math_bits_Len64.mk) Try.func118 (by kernel_rfl) Try.ntmps118 (rs := [.tmp 2]) (by kernel_rfl) [⟨(.int .u64), x1⟩] (by kernel_rfl) (by kernel_rfl) (by kernel_rfl) (by kernel_rfl) H

theorem cells_ledger_has.br {l1 : Option Addr} {addr2 : Int} {h : Heap} {Q : Bool → Heap → Prop} (H : cells_ledger_has.M  l1 addr2 h Q) :
    CallT Try.prog 120 [Kd.val .ptr l1, Kd.val (.int .i64) addr2] false .bool h Q :=
  fn_sound2 (c := weave (Try.f120.body.getD .skip) cells_ledger_has.mk) Try.func120 (by kernel_rfl) Try.ntmps120 (rs := [.tmp 4]) (by kernel_rfl) [⟨.ptr, l1⟩, ⟨(.int .i64), addr2⟩] (by kernel_rfl) (by kernel_rfl) (by kernel_rfl) (by kernel_rfl) H

theorem cmp_isNaN_int64.br {x1 : Int} {h : Heap} {Q : Bool → Heap → Prop} (H : cmp_isNaN_int64.M  x1 h Q) :
    CallT Try.prog 121 [Kd.val (.int .i64) x1] false .bool h Q :=
  fn_sound2 (c := weave (Try.f121.body.getD .skip) cmp_isNaN_int64.mk) Try.func121 (by kernel_rfl) Try.ntmps121 (rs := [.tmp 2]) (by kernel_rfl) [⟨(.int .i64), x1⟩] (by kernel_rfl) (by kernel_rfl) (by kernel_rfl) (by kernel_rfl) H

theorem slices_Reverse_int64_int64.br {s1 : Sl} {h : Heap} {Q : Unit → Heap → Prop} (H : slices_Reverse_int64_int64.M  s1 h Q) :
    CallT Try.prog 122 [Kd.val .sl s1] true .nil h Q :=
  fn_sound2 (c := weave (Try.f122.body.getD .skip) slices_Reverse_int64_int64.mk) Try.func122 (by kernel_rfl) Try.ntmps122 (rs := []) (by kernel_rfl) [⟨.sl, s1⟩] (by kernel_rfl) (by kernel_rfl) (by kernel_rfl) (by kernel_rfl) H

theorem slices_siftDownOrdered_int.br {data1 : Sl} {lo2 : Int} {hi3 : Int} {first4 : Int} {h : Heap} {Q : Unit → Heap → Prop} (H : slices_siftDownOrdered_int.M (fun x0 x1 h K => CallT Try.prog 114 [Kd.val (.int .i64) x0, Kd.val (.int .i64) x1] false .bool h K) data1 lo2 hi3 first4 h Q) :
    CallT Try.prog 123 [Kd.val .sl data1, Kd.val (.int .i64) lo2, Kd.val (.int .i64) hi3, Kd.val (.int .i64) first4] true .nil h Q :=
  fn_sound2 (c := weave (Try.f123.body.getD .skip) slices_siftDownOrdered_int.mk) Try.func123 (by kernel_rfl) Try.ntmps123 (rs := []) (by kernel_rfl) [⟨.sl, data1⟩, ⟨(.int .i64), lo2⟩, ⟨(.int .i64), hi3⟩, ⟨(.int .i64), first4⟩] (by kernel_rfl) (by kernel_rfl) (by kernel_rfl) (by kernel_rfl) H

theorem slices_medianAdjacentOrdered_int.br {data1 : Sl} {a2 : Int} {swaps3 : Option Addr} {h : Heap} {Q : Int → Heap → Prop} (H : slices_medianAdjacentOrdered_int.M (fun x0 x1 x2 x3 x4 h K => CallT Try.prog 127 [Kd.val .sl x0, Kd.val (.int .i64) x1, Kd.val (.int .i64) x2, Kd.val (.int .i64) x3, Kd.val .ptr x4] false (.int .i64) h K) data1 a2 swaps3 h Q) :
    CallT Try.prog 126 [Kd.val .sl data1, Kd.val (.int .i64) a2, Kd.val .ptr swaps3] false (.int .i64) h Q :=
  fn_sound2 (c := weave (Try.f126.body.getD .skip) slices_medianAdjacentOrdered_int.mk) Try.func126 (by kernel_rfl) Try.ntmps126 (rs := [.tmp 6]) (by kernel_rfl) [⟨.sl, data1⟩, ⟨(.int .i64), a2⟩, ⟨.ptr, swaps3⟩] (by kernel_rfl) (by kernel_rfl) (by kernel_rfl) (by kernel_rfl) H

theorem slices_medianOrdered_int.br {data1 : Sl} {a2 : Int} {b3 : Int} {c4 : Int} {swaps5 : Option Addr} {h : Heap} {Q : Int → Heap → Prop} (H : slices_medianOrdered_int.M (fun x0 x1 x2 x3 h K => CallT Try.prog 128 [Kd.val .sl x0, Kd.val (.int .i64) x1, Kd.val (.int .i64) x2, Kd.val .ptr x3] true kapiEdge h K) data1 a2 b3 c4 swaps5 h Q) :
    CallT Try.prog 127 [Kd.val .sl data1, Kd.val (.int .i64) a2, Kd.val (.int .i64) b3, Kd.val (.int .i64) c4, Kd.val .ptr swaps5] false (.int .i64) h Q :=
  fn_sound2 (c := weave (Try.f127.body.getD .skip) slices_medianOrdered_int.mk) Try.func127 (by kernel_rfl) Try.ntmps127 (rs := [.tmp 10]) (by kernel_rfl) [⟨.sl, data1⟩, ⟨(.int .i64), a2⟩, ⟨(.int .i64), b3⟩, ⟨(.int .i64), c4⟩, ⟨.ptr, swaps5⟩] (by kernel_rfl) (by kernel_rfl) (by kernel_rfl) (by kernel_rfl) H

theorem slices_order2Ordered_int.br {data1 : Sl} {a2 : Int} {b3 : Int} {swaps4 : Option Addr} {h : Heap} {Q : Den kapiEdge → Heap → Prop} (H : slices_order2Ordered_int.M (fun x0 x1 h K => CallT Try.prog 114 [Kd.val (.int .i64) x0, Kd.val (.int .i64) x1] false .bool h K) data1 a2 b3 swaps4 h Q) :
    CallT Try.prog 128 [Kd.val .sl data1, Kd.val (.int .i64) a2, Kd.val (.int .i64) b3, Kd.val .ptr swaps4] true kapiEdge h Q :=
  fn_sound2 (c := weave (Try.f128.body.getD .skip) slices_order2Ordered_int.mk) Try.func128 (by kernel_rfl) Try.ntmps128 (rs := [.tmp 8, .tmp 9]) (by kernel_rfl) [⟨.sl, data1⟩, ⟨(.int .i64), a2⟩, ⟨(.int .i64), b3⟩, ⟨.ptr, swaps4⟩] (by kernel_rfl) (by kernel_rfl) (by kernel_rfl) (by kernel_rfl) H

end Go.Mx
