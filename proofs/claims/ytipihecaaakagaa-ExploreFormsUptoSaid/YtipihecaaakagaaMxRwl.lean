/-
  What is proved: plunderlaw22.ExploreForms returns true and leaves its arguments as they were, for every input. Condition: what it reads is of bulk at most 1048576.
-/
import Derived.Test.YtipihecaaakagaaMxYg
import Derived.Test.YtipihecaaakagaaMxKi
import Derived.Test.YtipihecaaakagaaMxEe
import Derived.Test.YtipihecaaakagaaMxFg
import Derived.Test.YtipihecaaakagaaMxKg
import Derived.Test.YtipihecaaakagaaMxV
import Derived.Test.YtipihecaaakagaaMb
import Derived.WalkKit
import Derived.ProofKit
import Derived.JoinedCond
namespace Go.Proofs.Ytipihecaaakagaa.exploreForms
open Go.ChangeShapes Go.WideShapes Go.ChangeAt Go.RowKit Go.Mx
set_option linter.unusedVariables false
set_option linter.unusedSimpArgs false
set_option maxRecDepth 100000

theorem own : ownKnob Try.prog.godebug = none := by kernel_rfl

theorem contains {s : Sl} {ls : List Int} {h : Heap} {Q : Bool → Heap → Prop} (ha : Arr h ki s ls) (hn : ls.length ≤ 1048576) (hQ : ∀ b : Bool, (b = true ↔ ∃ x ∈ ls, 0 < x) → Q b h) :
    CallT Try.prog 84 [Kd.val .sl s, Kd.val .fn (Value.func (.func 85) #[] #[])] false .bool h Q :=
  slices_ContainsFunc_int_int.br (contains_spec ha hn (f := Value.func (.func 85) #[] #[]) (cf := fun x0 x1 h K => FnT Try.prog x0 [Kd.val (.int .i64) x1] false .bool h K) (fun hq => FnT.of (f := 85) (by kernel_rfl) (explore_isScript_1.br hq)) slices_IndexFunc_int_int.br hQ)
theorem isScript {s : Sc} {t : Sl} {h : Heap} {bs ps : List Int} {xss : List (List Ac)} (r : ScR h s bs xss) (hs : Small bs xss) (hp : Arr h ki t ps) (hn : ps.length ≤ 1048576) {Q : Bool → Heap → Prop} (hQ : ∀ b h', (b = true ↔ ScriptP (xss.map List.length) ps) → le h h' → Q b h') :
    CallT Try.prog 57 [Kd.val kapiScene s, Kd.val .sl t] false .bool h Q := explore_isScript.br (isScript_spec r hs hp hn contains hQ)
theorem ready {s : Sc} {t : Sl} {h : Heap} {bs ps : List Int} {xss : List (List Ac)} (r : ScR h s bs xss) (hs : Small bs xss) (hp : Arr h ki t ps) (hn : ps.length ≤ 1048576) {Q : Int → Heap → Prop} (hQ : ∀ e h', Rdy s.1 bs.length xss ps e → le h h' → Q e h') :
    CallT Try.prog 41 [Kd.val kapiScene s, Kd.val .sl t] false ki h Q :=
  explore_ready.br (ready_spec r hs hp hn (fun q => explore_Check.br (check_spec r hs q)) (isScript r hs hp hn) hQ)
theorem depends {s : Sc} {x y : Ac} {h : Heap} {Q : Bool → Heap → Prop} (hQ : ∀ b : Bool, (b = true ↔ DepI s.1 (s.2.1.len : Int) x.2.1 x.2.2.1 x.2.2.2.1 y.2.1 y.2.2.1 y.2.2.2.1) → Q b h) : CallT Try.prog 37 [Kd.val kapiScene s, Kd.val kapiAct x, Kd.val kapiAct y] false .bool h Q :=
  explore_Depends.br (depends_spec explore_gives.br explore_touches.br hQ)
theorem mclone (ty : TypeId) {b : Nat} {h : Heap} {es : Array MapEntry} {c : Nat} {Q : Value → Heap → Prop} (hm : h b = some (.map es c)) (hK : ∀ b', h b' = none → Q (Value.iface ty (.map (some b'))) (upd h b' (.map es c))) :
    ExtT Try.prog 119 [Kd.val .iface (Value.iface ty (.map (some b)))] false .iface h Q := mcloneT Try.func119 (by kernel_rfl) (by kernel_rfl) (by kernel_rfl) (by kernel_rfl) ty hm hK
theorem cloneJ {m : Nat} {h : Heap} {l : List (Int × Int)} {Q : Option Nat → Heap → Prop} (hm : MapIs h m ki ki l) (hQ : ∀ m' h', h m' = none → MapIs h' m' ki ki l → le h h' → Q (some m') h') :
    CallT Try.prog 93 [Kd.val .map (some m)] false .map h Q := maps_Clone_map_int_int_int_int.br (mapsClone_spec mclone hm hQ)
theorem tracesF : callOk Try.prog 73 = true := by kernel_rfl
theorem exploreJ {s : Sc} {h : Heap} {bs : List Int} {xss : List (List Ac)} {Q : (Sl × (Int × Unit)) → Heap → Prop} (r : ScR h s bs xss) (hs : Small bs xss) (hQ : ∀ o h', FoR h h' o (expP s.1 bs.length xss (chkE s.1 bs.length xss)) → Q (o, (chkE s.1 bs.length xss, ())) h') :
    CallT Try.prog 24 [Kd.val kapiScene s] true (.pair .sl (.pair (.int .i64) .nil)) h Q :=
  explore_Explore.br (explore_spec r hs (F := fun x0 x1 x2 h K => CallT Try.prog 74 [Kd.val .ptr x0, Kd.val .map x1, Kd.val .fn x2] false .bool h K)
    (fun q => explore_Check.br (check_spec r hs q)) (fv := fun p => Value.func (.func 73) (List.toArray []) (List.toArray [Kd.val .ptr p]))
    (fun hT => explore_traces.br (Obj.new fun p k' a b c => hT p k' a b c))
    (fun {p y k Q} hR => FnT.of (first := (List.toArray [])) (captured := (List.toArray [Kd.val .ptr (some (ptr p))])) (vs := [y]) tracesF (explore_traces_1.br hR))
    cloneJ explore_walk_act.br depends explore_walk_down.br (fun a b q => slices_Clone_int_int.br (clonei_spec' a b q)) hQ)
theorem reserve {h0 h : Heap} {b : Nat} {c l : Sl} {sz : Int} {cs : List Int} {lg : List Acc} {who : Int} {wt : Bool} (o : Ar h0 h b c l sz cs lg who wt) (hl : lg.length ≤ 1000000000) (hf : (cs.length : Int) ≤ sz) (hz : sz ≤ 1048576) {n : Int} {Q : Den K2 → Heap → Prop} (hC : n < 1 → Q (0, (21, ())) h) (hR : 1 ≤ n → sz - (cs.length : Int) < n → Q (0, (22, ())) h)
    (hQ : ∀ c' l' h', 1 ≤ n → n ≤ sz - (cs.length : Int) → Ar h0 h' b c' l' sz (cs ++ List.replicate n.toNat 0) (wl wt lg (who, (4, ((cs.length : Int), (n, (0, (true, ()))))))) who wt → Step (fpA b c l) (fpA b c' l') h h' → Q ((cs.length : Int), (0, ())) h') :
    CallT Try.prog 76 [Kd.val .ptr (some (ptr b)), Kd.val ki n] true K2 h Q :=
  cells_Arena_Reserve.br (reserve_spec o hl hf hz cells_ledger_refuse.br cells_ledger_take.br cells_Arena_note.br hC hR hQ)
theorem act {h0 h : Heap} {b : Nat} {c l : Sl} {sz : Int} {cs : List Int} (o : Ar h0 h b c l sz cs [] 0 false) (hf : (cs.length : Int) ≤ sz) (hz : sz ≤ 1048576) {x : Ac} (hx : badE x = false) {Q : Ef → Heap → Prop} (hQ : ∀ c' l' h', Ar h0 h' b c' l' sz (actP sz cs x).2 [] 0 false → Step (fpA b c l) (fpA b c' l') h h' → Q (actP sz cs x).1 h') :
    CallT Try.prog 78 [Kd.val .ptr (some (ptr b)), Kd.val kapiAct x] false kapiEffect h Q :=
  explore_act.br (act_spec o (by simp) hf hz cells_ledger_has.br (fun h => cells_Arena_outside.br h) cells_Arena_note.br cells_ledger_refuse.br cells_ledger_take.br cells_Arena_Load.br cells_Arena_Store.br cells_Arena_CAS.br cells_Arena_Add.br cells_Arena_Reserve.br hx hQ)
theorem play {h : Heap} {s : Sc} {t : Sl} {bs ps : List Int} {xss : List (List Ac)} (r : ScR h s bs xss) (hs : Small bs xss) (hp : Arr h ki t ps) (hn : ps.length ≤ 1048576) (hc : chkE s.1 bs.length xss = 0) (hS : ScriptP (xss.map List.length) ps) {Q : Den kapiEnding → Heap → Prop} (hQ : ∀ e h', EndR h h' e (playP s.1 bs xss ps) → Q e h') :
    CallT Try.prog 52 [Kd.val kapiScene s, Kd.val .sl t] false kapiEnding h Q :=
  explore_play.br (play_spec r hs hp hn hc hS (fun hz hq => cells_New.br (cnew_spec cells_good.br (fun q => absurd hz q) (fun _ => hq)))
    (fun {h0 h b c l sz n Q} o hz n1 n2 hq => reserve (cs := []) o (by simp) (by simp; omega) hz (fun e => absurd e (by omega)) (fun _ e => absurd e (by simp; omega)) (fun c' l' h' _ _ o' _ => hq _ c' l' h' (by rw [List.nil_append] at o'; exact o')))
    (fun o hb hq => cells_Arena_Store.br (store_spec o (by simp) cells_ledger_has.br (fun h => cells_Arena_outside.br h) cells_Arena_note.br (fun e => absurd hb e) (fun l' h' _ o' _ => hq _ l' h' o')))
    (fun a b c d e => act a b c d e) (fun o hn hq => cells_Arena_Cells.br (cells_spec o hn hq)) hQ)
theorem finOver {a b : Sl} {p : Nat} {cs : List Value} {h : Heap} {Q : Bool → Heap → Prop} (ha : a.a = some (ptr p)) (hp : h p = some (.cells cs false)) (hq : ∀ q, b.a = some q → q.block ≠ p ∧ ∃ cs, h q.block = some (.cells cs false)) (hQ : Q false h) :
    ExtT Try.prog 82 [Kd.val .sl a, Kd.val .sl b] false .bool h Q :=
  overT Try.func82 (by kernel_rfl) (by kernel_rfl) (by kernel_rfl) (by kernel_rfl) (by kernel_rfl) ha hp hq hQ
theorem finIns {h0 k : Heap} {o c : Sl} {els : List Sl} {p j : Nat} {Q : Sl → Heap → Prop} (a1 : New h0 k .sl o els) (a2 : j ≤ els.length) (a3 : k p = some (.cells (([c] : List (Den .sl)).flatMap (Kd.cells .sl)) false)) (a4 : ¬ blkOf o p) (a5 : els.length ≤ 2000000)
    (hQ : ∀ o' h', New h0 h' .sl o' (els.take j ++ c :: els.drop j) → Ext (blkOf o) k h' → (∀ x, blkOf o' x → blkOf o x ∨ k x = none) → Q o' h') : CallT Try.prog 55 [Kd.val .sl o, Kd.val (.int .i64) (j : Int), Kd.val .sl ⟨some (ptr p), 1, 1⟩] false .sl k Q :=
  slices_Insert_int64_int64.br (sinsert_spec a1 a2 a3 a4 a5 finOver hQ)
theorem finCmpI {x y : Int} {h : Heap} {Q : Int → Heap → Prop} (hQ : Q (sgnC x y) h) : CallT Try.prog 80 [Kd.val (.int .i64) x, Kd.val (.int .i64) y] false (.int .i64) h Q :=
  cmp_Compare_int.br (cmpI_spec cmp_isNaN_int.br hQ)
theorem finCmpL {x y : Int} {h : Heap} {Q : Int → Heap → Prop} (hQ : Q (sgnC x y) h) : CallT Try.prog 105 [Kd.val (.int .i64) x, Kd.val (.int .i64) y] false (.int .i64) h Q :=
  cmp_Compare_int64.br (cmpL_spec cmp_isNaN_int64.br hQ)
theorem finLess {a b : Sl} {h : Heap} {xs ys : List Int} (ha : Arr h ki a xs) (hb : Arr h ki b ys) (hn : xs.length ≤ 1000000) {Q : Int → Heap → Prop} (hQ : Q (cmpC xs ys) h) : CallT Try.prog 54 [Kd.val .sl a, Kd.val .sl b] false (.int .i64) h Q :=
  explore_lesser.br (lesser_spec ha hb hn finCmpI (fun hl q => slices_Compare_int64_int64.br (compare_spec ha hb hn hl finCmpL q)) hQ)
theorem finSearch {h0 k : Heap} {o t : Sl} {els : List Sl} {l : List (List Int)} {q : List Int} {Q : (Int × (Bool × Unit)) → Heap → Prop} (a1 : Nest h0 k ki o els l) (a2 : Srt l) (a3 : Arr k ki t q) (a4 : l.length ≤ 2000000) (a5 : ∀ xs ∈ l, xs.length ≤ 64)
    (hQ : ∀ m : Nat, m ≤ l.length → (∀ k xs, l[k]? = some xs → (k < m ↔ cmpC xs q < 0)) → Q ((m : Int), (decide (l[m]? = some q), ())) k) :
    CallT Try.prog 53 [Kd.val .sl o, Kd.val .sl t, Kd.val .fn (Value.func (.func 54) #[] #[])] true (.pair (.int .i64) (.pair .bool .nil)) k Q :=
  slices_BinarySearchFunc_int64_int64_int64.br (bsearch_spec (fv := Value.func (.func 54) #[] #[]) (cf := fun x0 x1 x2 h K => FnT Try.prog x0 [Kd.val .sl x1, Kd.val .sl x2] false (.int .i64) h K) a1 a2 a3 a4 (fun hx hu q2 => FnT.of (f := 54) (by kernel_rfl) (finLess hu a3 (by have := a5 _ hx; omega) q2)) hQ)
theorem finalsJ {s : Sc} {h : Heap} {bs : List Int} {xss : List (List Ac)} {Q : (Sl × (Int × Unit)) → Heap → Prop} (r : ScR h s bs xss) (hs : Small bs xss) (hQ : ∀ o h', FoR h h' o (finP s.1 bs xss (chkE s.1 bs.length xss)) → Q (o, (chkE s.1 bs.length xss, ())) h') :
    CallT Try.prog 23 [Kd.val kapiScene s] true (.pair .sl (.pair (.int .i64) .nil)) h Q :=
  explore_Finals.br (finals_spec r hs (F := fun x0 x1 x2 h K => CallT Try.prog 74 [Kd.val .ptr x0, Kd.val .map x1, Kd.val .fn x2] false .bool h K)
    (fun l q => explore_Check.br (check_spec (r.le l) hs q)) (fv := fun p => Value.func (.func 73) (List.toArray []) (List.toArray [Kd.val .ptr p]))
    (fun hT => explore_traces.br (Obj.new fun p k' a b c => hT p k' a b c))
    (fun {p y k Q} hR => FnT.of (first := (List.toArray [])) (captured := (List.toArray [Kd.val .ptr (some (ptr p))])) (vs := [y]) tracesF (explore_traces_1.br hR))
    (fun l hc hS a b q => play (r.le l) hs a b hc hS q) finSearch finIns
    cloneJ explore_walk_act.br depends explore_walk_down.br (fun a b q => slices_Clone_int_int.br (clonei_spec' a b q)) hQ)
theorem sort {sl : Sl} {h0 h : Heap} {ys : List Int} {Q : Unit → Heap → Prop} (n : New h0 h ki sl ys) (hl : ys.length ≤ 12) (hQ : ∀ zs h', New h0 h' ki sl zs → zs.Perm ys → zs.Pairwise (· ≤ ·) → Ext (blkOf sl) h h' → Q () h') :
    CallT Try.prog 70 [Kd.val .sl sl] true .nil h Q :=
  slices_Sort_int_int.br (sort_spec n hl (fun a b q => math_bits_Len.br (math_bits_Len64.br (len64_spec a b q)))
    (fun {n h ys Q} o hl2 q => slices_pdqsortOrdered_int.br (pdq_spec (by rw [← o.len]; exact hl2) (slices_insertionSortOrdered_int.br (insert_spec o (by omega) (fun q2 => cmp_Less_int.br (less_spec cmp_isNaN_int.br q2)) q)))) hQ)
theorem stepsJ {h : Heap} {s : Sc} {t : Sl} {bs ps : List Int} {xss : List (List Ac)} (r : ScR h s bs xss) (hp : Arr h ki t ps) (hn : ps.length ≤ 1048576) (hc : chkE s.1 bs.length xss = 0) (hS : ScriptP (xss.map List.length) ps) {Q : Sl → Heap → Prop} (hQ : ∀ l h', New h h' kexploredone l ((foaS s.1 bs.length xss ps).map toDone) → Q l h') :
    CallT Try.prog 64 [Kd.val kapiScene s, Kd.val .sl t] false .sl h Q :=
  explore_steps.br (steps_spec' r hp hn hc hS depends (by rw [r.beg]; exact hQ))
theorem equal1 {h : Heap} {a b : Sl} {xs ys : List Int} {Q : Bool → Heap → Prop} (ha : Arr h ki a xs) (hb : Arr h ki b ys) (hn : xs.length ≤ 1000000) (hQ : Q (decide (xs = ys)) h) : CallT Try.prog 59 [Kd.val .sl a, Kd.val .sl b] false .bool h Q :=
  explore_Alike_1.br (slices_Equal_int_int.br (equal_spec ha hb hn hQ))
theorem equal1F : callOk Try.prog 59 = true := by kernel_rfl
theorem equal2 {h : Heap} {a b : Sl} {xs ys : List Int} {Q : Bool → Heap → Prop} (ha : Arr h ki a xs) (hb : Arr h ki b ys) (hn : xs.length ≤ 1000000) (hQ : Q (decide (xs = ys)) h) : FnT Try.prog (Value.func (.func 59) #[] #[]) [Kd.val .sl a, Kd.val .sl b] false .bool h Q :=
  FnT.of (first := #[]) (captured := #[]) (vs := [Kd.val .sl a, Kd.val .sl b]) equal1F (equal1 ha hb hn hQ)
theorem equalFn {h h1 h2 : Heap} {a b : Sl} {ea eb : List Sl} {xss yss : List (List Int)} {Q : Bool → Heap → Prop} (na : Nest h1 h ki a ea xss) (nb : Nest h2 h ki b eb yss) (hl : xss.length ≤ 1000000) (hr : ∀ xs ∈ xss, xs.length ≤ 1000000) (hQ : Q (decide (xss = yss)) h) :
    CallT Try.prog 58 [Kd.val .sl a, Kd.val .sl b, Kd.val .fn (Value.func (.func 59) #[] #[])] false .bool h Q :=
  slices_EqualFunc_int_int_int_int.br (equalFunc_spec na nb hl hr (cf := fun x0 x1 x2 h K => FnT Try.prog x0 [Kd.val .sl x1, Kd.val .sl x2] false .bool h K) equal2 hQ)
theorem alikeJ {s : Sc} {t u : Sl} {h : Heap} {bs ps qs : List Int} {xss : List (List Ac)} {Q : (Bool × (Int × Unit)) → Heap → Prop} (r : ScR h s bs xss) (hs : Small bs xss) (hp : Arr h ki t ps ∧ ps.length ≤ 1048576) (hq : Arr h ki u qs ∧ qs.length ≤ 1048576) (hQ : ∀ b e h', AlR s.1 bs.length xss ps qs b e → le h h' → Q (b, (e, ())) h') :
    CallT Try.prog 29 [Kd.val kapiScene s, Kd.val .sl t, Kd.val .sl u] true (.pair .bool (.pair (.int .i64) .nil)) h Q :=
  explore_Alike.br (alikeP_spec r hs (ready r hs hp.1 hp.2) (fun l q => isScript (r.le l) hs (hq.1.le l) hq.2 q) (fun {k ps t Q} l hp hc hS f1 f2 q => explore_form.br (form_spec f1 f2 (stepsJ (r.le l) (hp.1.le l) hp.2 hc hS) sort q)) equalFn hp hq hQ)
theorem formJ {s : Sc} {t : Sl} {h k : Heap} {bs ps : List Int} {xss : List (List Ac)} (r : ScR h s bs xss) (hp : Arr h ki t ps) (hn : ps.length ≤ 1048576) {Q : Sl → Heap → Prop} (l : le h k) (hc : chkE s.1 bs.length xss = 0) (hS : ScriptP (xss.map List.length) ps) (f1 : (foaS s.1 bs.length xss ps).length ≤ 12) (f2 : ∀ c ∈ foaS s.1 bs.length xss ps, c.2 < 12)
    (hQ : ∀ o els (zss : List (List Int)) h', Nest k h' ki o els zss → zss.length = (formR (foaS s.1 bs.length xss ps)).length → (∀ (i : Nat) (z : List Int), zss[i]? = some z → z.Perm (((formR (foaS s.1 bs.length xss ps))[i]?).getD []) ∧ z.Pairwise (· ≤ ·)) → Q o h') :
    CallT Try.prog 42 [Kd.val kapiScene s, Kd.val .sl t] false .sl k Q :=
  explore_form.br (form_spec f1 f2 (stepsJ (r.le l) (hp.le l) hn hc hS) sort hQ)
theorem foata {s : Sc} {t : Sl} {h : Heap} {bs ps : List Int} {xss : List (List Ac)} {Q : (Sl × (Int × Unit)) → Heap → Prop} (r : ScR h s bs xss) (hs : Small bs xss) (hp : Arr h ki t ps) (hn : ps.length ≤ 1048576) (hQ : ∀ o e h', Rdy s.1 bs.length xss ps e → FoR h h' o (foataP s.1 bs.length xss ps e) → Q (o, (e, ())) h') :
    CallT Try.prog 13 [Kd.val kapiScene s, Kd.val .sl t] true (.pair .sl (.pair (.int .i64) .nil)) h Q :=
  explore_Foata.br (foata_spec r hs (ready r hs hp hn) (formJ r hp hn) hQ)
theorem modJ {x n : Int} {h : Heap} {Q : Int → Heap → Prop} (hQ : law22_mod.M x n h Q) : CallT Try.prog 31 [Kd.val (.int .i64) x, Kd.val (.int .i64) n] false (.int .i64) h Q := law22_mod.br hQ
theorem fitJ {s : Sc} {h : Heap} {bs : List Int} {xss : List (List Ac)} (r : ScR h s bs xss) (hs : Small bs xss) {Q : Sc → Heap → Prop} (hQ : ∀ c bs' xss' h', le h h' → ScR h' c bs' xss' → FitP c.1 bs' xss' → Q c h') :
    CallT Try.prog 22 [Kd.val kapiScene s] false kapiScene h Q := law22_fit.br (fit22_spec r hs law22_mod.br hQ)
theorem scriptJ {s : Sc} {t : Sl} {h : Heap} {bs ps : List Int} {xss : List (List Ac)} (hpn : ps.length ≤ 1048576) {Q : Sl → Heap → Prop} (r : ScR h s bs xss) (f : FitP s.1 bs xss) (hp : Arr h ki t ps)
    (hQ : ∀ l qs h', New h h' ki l qs → ScriptP (xss.map List.length) qs → Q l h') : CallT Try.prog 26 [Kd.val kapiScene s, Kd.val .sl t] false .sl h Q := law22_script.br (script22_spec r f hp hpn law22_total.br law22_mod.br hQ)
theorem standsJ {h : Heap} {Q : Bool → Heap → Prop} (hQ : ∀ h', le h h' → Q true h') : CallT Try.prog 28 [] false .bool h Q := law22_stands.br (stands_spec exploreJ finalsJ hQ)

theorem dcheckJ {d : Den kapiDag} {h : Heap} {Q : Int → Heap → Prop} (q : dag_Check.M d h Q) : CallT Try.prog 68 [Kd.val kapiDag d] false (.int .i64) h Q := dag_Check.br q
theorem earliestJ {N : Nat} {l : Sl} {es : List Eg} {h : Heap} {Q : (Sl × (Int × Unit)) → Heap → Prop} (he : Arr h K2 l es) (ok : EdgesOk N es) (hN : N ≤ 4096) (hE : es.length ≤ 16384) (hQ : ∀ o h', New h h' ki o (earl (rowsE N es) N) → Q (o, (0, ())) h') :
    CallT Try.prog 39 [Kd.val kapiDag ((N : Int), (l, ()))] true (.pair .sl (.pair (.int .i64) .nil)) h Q := dag_Earliest.br (earliest_spec he ok hN hE dag_Check.br dag_ahead.br hQ)
theorem spanJ {N : Nat} {l : Sl} {es : List Eg} {h : Heap} {Q : Eg → Heap → Prop} (he : Arr h K2 l es) (ok : EdgesOk N es) (hN : N ≤ 4096) (hE : es.length ≤ 16384) (hQ : ∀ h', le h h' → Q ((earl (rowsE N es) N).foldl mxI 0, (0, ())) h') :
    CallT Try.prog 38 [Kd.val kapiDag ((N : Int), (l, ()))] true K2 h Q := dag_Span.br (span_spec (es := es) hN (earliestJ he ok hN hE) hQ)
theorem call (s : Sc) (t w : Sl) (W : World) (bs ps ws : List Int) (xss : List (List Ac)) (r : ScR (view W) s bs xss) (hs : Small bs xss) (hp : Arr (view W) ki t ps) (hn : ps.length ≤ 1048576) (hw : Arr (view W) ki w ws) (hwn : ws.length ≤ 1048576) :
    CallT Try.prog 9 [Kd.val kapiScene s, Kd.val .sl t, Kd.val .sl w] false .bool (view W) fun b h' => b = true ∧ le (view W) h' :=
  law22_ExploreForms.br (exploreForms_spec r hs hp hn hw hwn (fun h' l => ⟨rfl, l⟩) (fitJ r hs) (fun a b c d q => scriptJ a b c d q) foata alikeJ (fun a b c d q => law22_sameLists.br (sameLists2_spec a b c d law22_same.br q)) standsJ law22_row.br depends spanJ earliestJ
    (fun a b c q => law22_holds.br (holds_spec a b c q)))

theorem contract (H : Type) (enc : TypeId × Value → H) (W : World) (base : Nat) (args : Array Value) (ds gs : List (DataW H)) (before : List MemPlace)
    (hval : ∀ (j : Nat) t v, Try.f9.params[j]? = some t → args[j]? = some v → Value.okWide Try.prog W .any base t v)
    (hW : DataW.Whole enc Try.prog Try.f9.params.toList Rows.exploreFormsSpec.vars false W args.toList ds gs before) (hk : Rows.uptoSmall H (ds ++ gs) = true) :
    Calls Try.prog 9 args W fun e W' => ∃ v, e = .returned v ∧ Rows.exploreFormsSpec.post enc Try.prog Try.f9 false true false false W args v W' := by
  have hW' := hW
  obtain ⟨p, q, hA, hV, rfl, hfz, hnd⟩ := hW
  obtain ⟨rfl, rfl⟩ := trodVars_none hV
  rw [List.append_nil] at hk
  have hB : Rows.uptoBulkAll ds ≤ 1048576 := of_decide_eq_true hk
  obtain ⟨es, e1, e2, e3⟩ := args_of (P := Try.prog) (base := base) (m := 6) (B := 1048576) (ts := Try.f9.params.toList) (ks := [kapiScene, .sl, .sl]) (by kernel_rfl) (fun j t v a b => hval j t v (by simpa using a) (by simpa using b)) hA hB
  rcases es with _ | ⟨⟨k1, x1⟩, _ | ⟨⟨k2, x2⟩, _ | ⟨⟨k3, x3⟩, _ | ⟨_, _⟩⟩⟩⟩
  · cases e1
  · cases e1
  · cases e1
  · simp only [List.map_cons, List.map_nil, List.cons.injEq, and_true] at e1
    obtain ⟨rfl, rfl, rfl⟩ := e1
    rw [Try.params9] at e3 hA
    obtain ⟨f1, f2, f3, _⟩ := e3
    obtain ⟨bs, xss, g1, g2⟩ := DataOf.scene (m := 3) f1 (by kernel_rfl) (by kernel_rfl) (by kernel_rfl) (by kernel_rfl)
    obtain ⟨ps, g3, g4, _⟩ := f2.arr (ke := ki) (by kernel_rfl)
    obtain ⟨qs, g5, g6, _⟩ := f3.arr (ke := ki) (by kernel_rfl)
    obtain ⟨v0, vs0, d0, ds0, p0, q0, _, rfl, _, _, r0⟩ := trodAll_cons hA
    obtain ⟨v1, vs1, d1, ds1, p1, q1, _, rfl, _, _, r1⟩ := trodAll_cons r0
    obtain ⟨v2, vs2, d2, ds2, p2, q2, _, rfl, _, _, r2⟩ := trodAll_cons r1
    obtain ⟨_, rfl, _⟩ := trodAll_nil r2
    refine law_post (bT := Try.f9.resultTypes.getD 0 0) (by kernel_rfl) (by kernel_rfl) (by kernel_rfl) rfl (by kernel_rfl) hW' (fun _ => ⟨rfl, rfl, rfl⟩) ?_
    rw [e2]
    exact call x1 x2 x3 W bs ps qs xss g1 g2 g3 (by rw [g3.1]; exact g4) g5 (by rw [g5.1]; exact g6)
  · cases e1

theorem lifted (os : Os) (started : os.Started) (H : Type) (enc : TypeId × Value → H) (F : Stop.Interp) :
    ReturnsInHanded {} Try.checked os 9 .any ((Rows.OpenSpec.upto Rows.exploreFormsSpec).pre6 enc Try.prog Try.f9 Rows.exploreFormsUptoRow.domain false) (((Rows.OpenSpec.upto Rows.exploreFormsSpec).at F).post enc Try.prog Try.f9 false true false false) := by
  refine returnsInHanded_of_cond (C := Try.checked) (s := Rows.OpenSpec.upto Rows.exploreFormsSpec) (k := Rows.uptoSmall) rfl own started (by kernel_rfl) Try.func9
    (OpenSpec.witness (enc := enc) (C := Try.checked) (s := Rows.OpenSpec.upto Rows.exploreFormsSpec) (k := Rows.uptoSmall) rfl false ⟨#[], #[.agg #[.int .i64 0, .slice none 0 0, .slice none 0 0], .slice none 0 0, .slice none 0 0], []⟩ 8 (by kernel_rfl) (by kernel_rfl) (by kernel_rfl)
      (x := ([.agg [.lit (.int .i64 0), .nil, .nil], .nil, .nil], [], [])) (by kernel_rfl) rfl (by kernel_rfl)) ?_
  intro W base args ds gs before hval hW _ hk _
  exact contract H enc W base args ds gs before hval hW hk

theorem over : Rows.exploreFormsUptoRow.holds Try.pinned (Rows.OpenSpec.upto Rows.exploreFormsSpec) :=
  OpenClaim.holds_of_cond 9 Try.f9 rfl rfl rfl rfl rfl rfl rfl ⟨rfl, rfl, rfl, rfl, rfl⟩ rfl rfl rfl rfl rfl (by kernel_rfl) Try.func9 (by kernel_rfl)
    (of_decide_eq_true (by kernel_rfl)) (by unfold Func.isWrapper; first | (rw [if_pos (by decide +kernel)]; kernel_rfl) | (rw [if_neg (by decide +kernel)]; exact ⟨rfl, rfl⟩))
    (fun os started H enc _ F => lifted os started H enc F)

theorem proved : Rows.ExploreFormsUptoSaid :=
  over
end Go.Proofs.Ytipihecaaakagaa.exploreForms
