/-
  What is proved: plunderlaw22.ExploreAll returns true and leaves its arguments as they were, for every input. Condition: what it reads is of bulk at most 1048576.
-/
import Derived.Test.YtanfmmcpjifgiabMxKh
import Derived.Test.YtanfmmcpjifgiabMxKi
import Derived.Test.YtanfmmcpjifgiabMxKt
import Derived.Test.YtanfmmcpjifgiabMxEe
import Derived.Test.YtanfmmcpjifgiabMxV
import Derived.Test.YtanfmmcpjifgiabMb
import Derived.WalkKit
import Derived.ProofKit
import Derived.JoinedCond
namespace Go.Proofs.Ytanfmmcpjifgiab.exploreAll
open Go.ChangeShapes Go.WideShapes Go.ChangeAt Go.RowKit Go.Mx
set_option linter.unusedVariables false
set_option linter.unusedSimpArgs false
set_option maxRecDepth 100000

theorem own : ownKnob Try.prog.godebug = none := by kernel_rfl

theorem depends {s : Sc} {x y : Ac} {h : Heap} {Q : Bool → Heap → Prop} (hQ : ∀ b : Bool, (b = true ↔ DepI s.1 (s.2.1.len : Int) x.2.1 x.2.2.1 x.2.2.2.1 y.2.1 y.2.2.1 y.2.2.2.1) → Q b h) : CallT Try.prog 11 [Kd.val kapiScene s, Kd.val kapiAct x, Kd.val kapiAct y] false .bool h Q :=
  explore_Depends.br (depends_spec explore_gives.br explore_touches.br hQ)
theorem rdepends {s : Sc} {x y : Ac} {h : Heap} {Q : Bool → Heap → Prop} (hQ : ∀ b : Bool, (b = true ↔ DepI s.1 (s.2.1.len : Int) x.2.1 x.2.2.1 x.2.2.2.1 y.2.1 y.2.2.1 y.2.2.2.1) → Q b h) : CallT Try.prog 13 [Kd.val kapiScene s, Kd.val kapiAct x, Kd.val kapiAct y] false .bool h Q :=
  ref22_Depends.br (rdepends_spec ref22_cell.br ref22_makes.br hQ)
theorem rfirst {sc : Sc} {h : Heap} {rl : Sl} {l : List Rc} {w : Int} {Q : Int → Heap → Prop} {n : Int} (hn : (sc.2.1.len : Int) = n) (a : Arr h kref22Act rl l) (b : l.length ≤ 1000000) (hQ : Q (match firstR (bdA sc.1 n) w l with | none => -1 | some k => (k : Int)) h) :
    CallT Try.prog 62 [Kd.val kapiScene sc, Kd.val .sl rl, Kd.val ki w] false ki h Q := by
  subst hn
  exact ref22_first.br (first_spec a b w (fun q => ref22_bound.br (rbound_spec rdepends q)) hQ)
theorem acts {s : Sc} {h : Heap} {bs : List Int} {xss : List (List Ac)} (r : ScR h s bs xss) (hs : Small bs xss) {Q : Int → Heap → Prop} (hQ : Q (((xss.map List.length).sum : Nat) : Int) h) : CallT Try.prog 40 [Kd.val kapiScene s] false ki h Q :=
  ref22_acts.br (acts_spec r hs (by rw [actsE_sum hs.2.1 hs.2.2]; exact hQ))
theorem more {h0 : Heap} {s : Sc} {bs : List Int} {xss : List (List Ac)} (r : ScR h0 s bs xss) (hs : Small bs xss) (hc : chkE s.1 bs.length xss = 0) {Q : Sl → Heap → Prop} (hQ : ∀ l' els' h', Nest h0 h' ki l' els' ([] ++ allS xss) → Q l' h') :
    CallT Try.prog 60 [Kd.val kapiScene s, Kd.val .sl ⟨none, 0, 0⟩, Kd.val .sl ⟨none, 0, 0⟩] false .sl h0 Q :=
  more_spec r rfl (chkE_ok hc).2.2.2.1 (total := (xss.map List.length).sum) (by have h1 := (chkE_ok hc).2.2.2.2.1; rw [actsE_sum hs.2.1 hs.2.2] at h1; omega) (F := fun x0 x1 x2 h K => CallT Try.prog 60 [Kd.val kapiScene x0, Kd.val .sl x1, Kd.val .sl x2] false .sl h K)
    (fun l q => acts (r.le l) hs q) ref22_more.br (xss.map List.length).sum [] ⟨none, 0, 0⟩ ⟨none, 0, 0⟩ h0 [] [] Q (by simp) (New.nil h0 ki).arr (New.nil h0 ki).own.live (fun x hx => absurd hx no_blk) (Nest.nil h0 ki)
    (by have h1 := (chkE_ok hc).2.2.2.2.1; rw [actsE_sum hs.2.1 hs.2.2] at h1; have h2 : 4 ^ (xss.map List.length).sum ≤ 4 ^ 10 := Nat.pow_le_pow_right (by omega) (by omega); have h3 : (4 : Nat) ^ 10 = 1048576 := by decide
        rw [List.length_nil]; omega) (fun l' els' h' n' _ => hQ l' els' h' n')
theorem mclone (ty : TypeId) {b : Nat} {h : Heap} {es : Array MapEntry} {c : Nat} {Q : Value → Heap → Prop} (hm : h b = some (.map es c)) (hK : ∀ b', h b' = none → Q (Value.iface ty (.map (some b'))) (upd h b' (.map es c))) :
    ExtT Try.prog 94 [Kd.val .iface (Value.iface ty (.map (some b)))] false .iface h Q := mcloneT Try.func94 (by kernel_rfl) (by kernel_rfl) (by kernel_rfl) (by kernel_rfl) ty hm hK
theorem cloneJ {m : Nat} {h : Heap} {l : List (Int × Int)} {Q : Option Nat → Heap → Prop} (hm : MapIs h m ki ki l) (hQ : ∀ m' h', h m' = none → MapIs h' m' ki ki l → le h h' → Q (some m') h') :
    CallT Try.prog 77 [Kd.val .map (some m)] false .map h Q := maps_Clone_map_int_int_int_int.br (mapsClone_spec mclone hm hQ)
theorem tracesF : callOk Try.prog 58 = true := by kernel_rfl
theorem exploreJ {s : Sc} {h : Heap} {bs : List Int} {xss : List (List Ac)} {Q : (Sl × (Int × Unit)) → Heap → Prop} (r : ScR h s bs xss) (hs : Small bs xss) (hQ : ∀ o h', FoR h h' o (expP s.1 bs.length xss (chkE s.1 bs.length xss)) → Q (o, (chkE s.1 bs.length xss, ())) h') :
    CallT Try.prog 17 [Kd.val kapiScene s] true (.pair .sl (.pair (.int .i64) .nil)) h Q :=
  explore_Explore.br (explore_spec r hs (F := fun x0 x1 x2 h K => CallT Try.prog 59 [Kd.val .ptr x0, Kd.val .map x1, Kd.val .fn x2] false .bool h K)
    (fun q => explore_Check.br (check_spec r hs q)) (fv := fun p => Value.func (.func 58) (List.toArray []) (List.toArray [Kd.val .ptr p]))
    (fun hT => explore_traces.br (Obj.new fun p k' a b c => hT p k' a b c))
    (fun {p y k Q} hR => FnT.of (first := (List.toArray [])) (captured := (List.toArray [Kd.val .ptr (some (ptr p))])) (vs := [y]) tracesF (explore_traces_1.br hR))
    cloneJ explore_walk_act.br depends explore_walk_down.br (fun a b q => slices_Clone_int_int.br (clonei_spec' a b q)) hQ)
theorem rexploreJ {s : Sc} {h : Heap} {bs : List Int} {xss : List (List Ac)} {Q : (Sl × (Int × Unit)) → Heap → Prop} (r : ScR h s bs xss) (hs : Small bs xss) (hQ : ∀ o h', FoR h h' o (expP s.1 bs.length xss (chkE s.1 bs.length xss)) → Q (o, (chkE s.1 bs.length xss, ())) h') :
    CallT Try.prog 19 [Kd.val kapiScene s] true (.pair .sl (.pair (.int .i64) .nil)) h Q :=
  ref22_Explore.br (rexplore_spec r hs (fun q => ref22_Check.br (rcheck_spec r hs ref22_acts.br q)) (fun hc q => ref22_Scripts.br (scripts_spec (more r hs hc) q))
    (fun l hc hS a b q => ref22_least.br (least_walk (by rw [rowP_len]; have := ten hs.2.1 hs.2.2 hc hS; omega) (chkE_ok hc).2.2.2.1 (rowP_in hS) (fun q2 => ref22_Row.br (row_spec (r.le l) a (by omega) hc hS q2)) (rfirst r.beg) (fun a b q => ref22_without.br (without_spec a b q)) (by rw [rowP_len]; exact q)))
    (fun a b c q => ref22_equal.br (requal_spec a b c q)) hQ)
theorem call (s : Sc) (W : World) (bs : List Int) (xss : List (List Ac)) (r : ScR (view W) s bs xss) (hs : Small bs xss) :
    CallT Try.prog 5 [Kd.val kapiScene s] false .bool (view W) fun b h' => b = true ∧ le (view W) h' :=
  law22_ExploreAll.br (exploreAll_spec r hs (fun h' l => ⟨rfl, l⟩) law22_copied.br law22_moved.br exploreJ law22_back.br (fun a b c q => law22_spoilt.br (spoilt_spec a b c law22_longer.br q)) rexploreJ
    (fun a b c d q => law22_sameLists.br (sameLists_spec a b c d law22_same.br q)) (fun a b c d e => law22_alike.br (alike_spec a b c d law22_marked.br law22_sameCells.br e)) (fun a b c q => law22_apart.br (apart_spec a b c law22_longer.br q)))

theorem contract (H : Type) (enc : TypeId × Value → H) (W : World) (base : Nat) (args : Array Value) (ds gs : List (DataW H)) (before : List MemPlace)
    (hval : ∀ (j : Nat) t v, Try.f5.params[j]? = some t → args[j]? = some v → Value.okWide Try.prog W .any base t v)
    (hW : DataW.Whole enc Try.prog Try.f5.params.toList Rows.exploreAllSpec.vars false W args.toList ds gs before) (hk : Rows.uptoSmall H (ds ++ gs) = true) :
    Calls Try.prog 5 args W fun e W' => ∃ v, e = .returned v ∧ Rows.exploreAllSpec.post enc Try.prog Try.f5 false true false false W args v W' := by
  have hW' := hW
  obtain ⟨p, q, hA, hV, rfl, hfz, hnd⟩ := hW
  obtain ⟨rfl, rfl⟩ := trodVars_none hV
  rw [List.append_nil] at hk
  have hB : Rows.uptoBulkAll ds ≤ 1048576 := of_decide_eq_true hk
  obtain ⟨es, e1, e2, e3⟩ := args_of (P := Try.prog) (base := base) (m := 6) (B := 1048576) (ts := Try.f5.params.toList) (ks := [kapiScene]) (by kernel_rfl) (fun j t v a b => hval j t v (by simpa using a) (by simpa using b)) hA hB
  rcases es with _ | ⟨⟨k1, x1⟩, _ | ⟨_, _⟩⟩
  · cases e1
  · simp only [List.map_cons, List.map_nil, List.cons.injEq, and_true] at e1
    obtain rfl := e1
    rw [Try.params5] at e3 hA
    obtain ⟨f1, _⟩ := e3
    obtain ⟨bs, xss, g1, g2⟩ := DataOf.scene (m := 3) f1 (by kernel_rfl) (by kernel_rfl) (by kernel_rfl) (by kernel_rfl)
    obtain ⟨v0, vs0, d0, ds0, p0, q0, _, rfl, _, _, r0⟩ := trodAll_cons hA
    obtain ⟨_, rfl, _⟩ := trodAll_nil r0
    refine law_post (bT := Try.f5.resultTypes.getD 0 0) (by kernel_rfl) (by kernel_rfl) (by kernel_rfl) rfl (by kernel_rfl) hW' (fun _ => ⟨rfl, rfl, rfl⟩) ?_
    rw [e2]
    exact call x1 W bs xss g1 g2
  · cases e1

theorem lifted (os : Os) (started : os.Started) (H : Type) (enc : TypeId × Value → H) (F : Stop.Interp) :
    ReturnsInHanded {} Try.checked os 5 .any ((Rows.OpenSpec.upto Rows.exploreAllSpec).pre6 enc Try.prog Try.f5 Rows.exploreAllUptoRow.domain false) (((Rows.OpenSpec.upto Rows.exploreAllSpec).at F).post enc Try.prog Try.f5 false true false false) := by
  refine returnsInHanded_of_cond (C := Try.checked) (s := Rows.OpenSpec.upto Rows.exploreAllSpec) (k := Rows.uptoSmall) rfl own started (by kernel_rfl) Try.func5
    (OpenSpec.witness (enc := enc) (C := Try.checked) (s := Rows.OpenSpec.upto Rows.exploreAllSpec) (k := Rows.uptoSmall) rfl false ⟨#[], #[.agg #[.int .i64 0, .slice none 0 0, .slice none 0 0]], []⟩ 8 (by kernel_rfl) (by kernel_rfl) (by kernel_rfl)
      (x := ([.agg [.lit (.int .i64 0), .nil, .nil]], [], [])) (by kernel_rfl) rfl (by kernel_rfl)) ?_
  intro W base args ds gs before hval hW _ hk _
  exact contract H enc W base args ds gs before hval hW hk

theorem over : Rows.exploreAllUptoRow.holds Try.pinned (Rows.OpenSpec.upto Rows.exploreAllSpec) :=
  OpenClaim.holds_of_cond 5 Try.f5 rfl rfl rfl rfl rfl rfl rfl ⟨rfl, rfl, rfl, rfl, rfl⟩ rfl rfl rfl rfl rfl (by kernel_rfl) Try.func5 (by kernel_rfl)
    (of_decide_eq_true (by kernel_rfl)) (by unfold Func.isWrapper; first | (rw [if_pos (by decide +kernel)]; kernel_rfl) | (rw [if_neg (by decide +kernel)]; exact ⟨rfl, rfl⟩))
    (fun os started H enc _ F => lifted os started H enc F)

theorem proved : Rows.ExploreAllUptoSaid :=
  over
end Go.Proofs.Ytanfmmcpjifgiab.exploreAll
