/-
  One operation, whatever it is: the rest, and the law for all.
  Calls that may come to a round of a range over a function.
  Regions in the order of the text; code; functions.
-/
import Derived.Test.YtndhbkhhehleaaaMxI
import Derived.RangeFuncIn
import Derived.RangeFuncLeaves
set_option linter.unusedVariables false
set_option linter.unusedSimpArgs false
set_option linter.unusedSectionVars false
namespace Go.Mx

theorem zero_cells (k : Kd) : (k.val k.zero).cells = (k.cells k.zero).toArray := by
  by_cases ha : k.isAgg = true
  · rw [Kd.val_agg ha]; rfl
  · cases k <;> first | rfl | (exact absurd rfl ha)

theorem elems_spec {κ : Nat → Nat} {k : Kd} : ∀ (ts : List (Nat × TV)) (i : Nat) (xs : List (Den k)) (vs : List (Nat × Value)), elems k i ts = some xs →
    Pairs (fun (p : Nat × TV) (q : Nat × Value) => p.1 = q.1 ∧ Rl κ p.2 q.2) ts vs → vs = (xs.zipIdx i).map (fun p => (p.2, k.val p.1))
  | [], i, xs, vs, h, hp => by cases hp; simp [elems] at h; subst h; rfl
  | (j, t) :: ts, i, xs, vs, h, hp => by
    cases hp with
    | cons h1 h2 =>
      rename_i q qs
      obtain ⟨j', u⟩ := q
      obtain ⟨e1, hu⟩ := h1
      dsimp only at e1 hu
      subst e1
      simp only [elems] at h
      cases hb : Nat.beq j i
      · rw [hb] at h; cases h
      · rw [hb] at h
        simp only [cond_true] at h
        have : j = i := Nat.eq_of_beq_eq_true hb
        subst this
        split at h
        · rename_i x l hx hl
          cases h
          rw [elems_spec ts (j + 1) l qs hl h2, tvVal_spec hx hu]
          rfl
        · cases h

theorem fill_all {k : Kd} (hp : k.plain = true) : ∀ (xs : List (Den k)) (i : Nat) (cs : List Value), i * k.size + xs.length * k.size ≤ cs.length →
    Instr.fill (fun i => some (i * k.size, k.size)) cs.toArray ((xs.zipIdx i).map (fun p => (p.2, k.val p.1))) = some (splice cs (i * k.size) (xs.flatMap k.cells)).toArray
  | [], i, cs, h => by simp [Instr.fill, splice]
  | x :: xs, i, cs, h => by
    simp only [List.zipIdx_cons, List.map_cons, Instr.fill]
    have hc := Kd.val_cells hp x
    have hl : (k.cells x).length = k.size := Kd.cells_len k x
    simp only [List.length_cons, Nat.succ_mul] at h
    rw [if_neg (by simp only [Bool.or_eq_true, decide_eq_true_eq, hc, List.size_toArray, hl]; omega)]
    have e3 : (k.val x).cells.zipIdx.foldl (fun (cs : Array Value) (q : Value × Nat) => cs.setIfInBounds (i * k.size + q.2) q.1) cs.toArray = (splice cs (i * k.size) (k.cells x)).toArray := by
      rw [hc, ← Array.foldl_toList, Array.toList_zipIdx]
      have := foldl_set (k.cells x) cs (i * k.size) 0 (by omega)
      simpa using this
    have e4 := fill_all hp xs (i + 1) (splice cs (i * k.size) (k.cells x)) (by rw [splice_len _ _ _ (by omega), Nat.succ_mul]; omega)
    have e5 : splice (splice cs (i * k.size) (k.cells x)) ((i + 1) * k.size) (xs.flatMap k.cells) = splice cs (i * k.size) ((x :: xs).flatMap k.cells) := by
      unfold splice
      have el : (cs.take (i * k.size) ++ k.cells x).length = (i + 1) * k.size := by simp [hl, Nat.succ_mul]; omega
      rw [List.take_left' el, ← List.drop_drop, List.drop_left' el, List.drop_drop, List.flatMap_cons]
      simp only [List.append_assoc, List.length_append]
      rw [show i * k.size + (k.cells x).length + (List.flatMap k.cells xs).length = i * k.size + ((k.cells x).length + (List.flatMap k.cells xs).length) from by omega]
    rw [e5] at e4
    rw [← e4]
    congr 1

theorem lit_run {P : Program} {κ : Nat → Nat} {T e : TypeId} {k : Kd} (hu : P.underlying T = some (.slice e)) (hk : kdOf P D e = some k) (hp : k.plain = true) (hz : k.size ≠ 0) {xs : List (Den k)} (hsz : xs.length * k.size ≤ 16777216)
    {ts : List (Nat × TV)} {vs : List (Nat × Value)} (he : elems k 0 ts = some xs) (hpr : Pairs (fun (p : Nat × TV) (q : Nat × Value) => p.1 = q.1 ∧ Rl κ p.2 q.2) ts vs) (w : World) :
    (Instr.buildSlice T xs.length vs.toArray).run P w = .ok (.slice (some ⟨w.heap.size, 0, none⟩) xs.length xs.length) (w.alloc (.cells (xs.flatMap k.cells).toArray e)) := by
  have hv := elems_spec ts 0 xs vs he hpr
  have hlen : (xs.flatMap k.cells).length = xs.length * k.size := flatMap_len _ _ (Kd.cells_len k) xs
  have hfill : ∀ cs : List Value, cs.length = xs.length * k.size → Instr.fill (fun i => some (i * k.size, k.size)) cs.toArray vs = some (xs.flatMap k.cells).toArray := by
    intro cs hcs
    rw [hv]
    have := fill_all hp xs 0 cs (by omega)
    rw [this]
    simp only [splice, Nat.zero_mul, List.take_zero, List.nil_append, Nat.zero_add]
    rw [List.drop_of_length_le (by rw [hcs, hlen]; exact Nat.le_refl _)]
    simp
  simp only [Instr.buildSlice, Sem.run_bind, run_underlying' hu, Result.andThen_ok, run_sizeOf hk]
  rw [if_neg (by omega)]
  by_cases hc0 : xs.length * k.size = 0
  · have h0 : xs.length = 0 := by rcases Nat.mul_eq_zero.1 hc0 with h | h; exact h; exact absurd h hz
    have hx0 : xs = [] := List.length_eq_zero_iff.1 h0
    subst hx0
    have h1 := hfill [] (by simp)
    have e0 : Array.map (fun _ => (default : Value)) (Array.range 0) = #[] := by simp [Array.range]
    simp at h1
    simp [e0, h1, newRow]
  · rw [if_neg hc0]
    have hrep := flatten_rep (k.cells k.zero) xs.length (by rw [Kd.cells_len]; exact hz)
    rw [Kd.cells_len] at hrep
    have h1 := hfill ((List.replicate xs.length (k.cells k.zero)).flatten) (by simp [Kd.cells_len])
    simp only [Sem.run_bind, run_zeroValue hk, Result.andThen_ok, Sem.run_pure, zero_cells, hrep, h1, newRow, run_newObj]
    rfl

theorem callFunc_run {P : Program} {f : FuncId} (h : callOk P f = true) (args : Array Value) (w : World) : (callFunc f args).run P w = .ok (.enter f args) w := by
  unfold callOk at h
  split at h
  · rename_i fn hf
    simp only [Bool.and_eq_true, Bool.not_eq_true'] at h
    have h2 : fn.body.isNone = false := by rw [← Option.not_isSome, h.2]; rfl
    have h1 : ¬ fn.name = "runtime.NumGoroutine" := by have := h.1; simpa using this
    have h3 : ¬ fn.body = none := by intro e; rw [e] at h2; cases h2
    simp [callFunc, hf, h1, h3]
  · cases h

section
variable {P : Program} {D0 : List Deferred} {h0 : Heap} {w0 : World} {n : Nat} {F : List Nat} {Z : Nat → Prop} {κ : Nat → Nat} {ρ : Slots} {β : Boxes} {h : Heap} {a : Act} {w : World} {o : Oper}
  {K : Slots → Boxes → Heap → Prop} (s : St D0 h0 w0 n F Z κ ρ β h a w) (hd : dstOk n o.dst = true)
include s hd

theorem call_wp {c : Call} {f : FuncId} (ho : o.op = .call c) (hc : c.callee = .value (.func f)) (hm : callI P f o.type (c.args.toList.map (ev ρ)) h fun v h' => K (putS ρ o.dst v) β h') :
    o.wp P a w (OpPost D0 h0 w0 n F Z o.dst κ a w K) NoExit := by
  unfold callI at hm
  cases hok : callOk P f
  · rw [hok] at hm
    simp only [cond_false] at hm
    split at hm
    · rename_i tp k hrk
      split at hm
      · rename_i vs hvs
        have hargs := tvArgs_spec s.evOk c.args.toList vs hvs
        obtain ⟨x, h', w', hrun, q, hK⟩ := hm w s.inv.sub
        have he : (execOp a.eval o).run P w = .ok (.value (resV tp k x)) w' := by
          have e1 : execOp a.eval o = callFunc f (c.args.map a.eval ++ #[]) := by
            simp only [execOp, ho, resolve, hc, Act.eval, Deferred.ofValue, pure_bind, invoke]
            simp
          have e2 : c.args.map a.eval ++ #[] = vs.toArray := by
            rw [← hargs]
            apply Array.ext'
            simp
          rw [e1, e2]; exact hrun
        exact step_wp s hd (u := resV tp k x) (tv := tvRes tp k x) he (Rl_res κ tp k x) q hK
      · exact hm.elim
    · exact hm.elim
  · rw [hok] at hm
    simp only [cond_true] at hm
    split at hm
    · rename_i tp k hrk
      split at hm
      · rename_i vs hvs
        have hargs := tvArgs_spec s.evOk c.args.toList vs hvs
        have he : (execOp a.eval o).run P w = .ok (.enter f vs.toArray) w := by
          have e1 : execOp a.eval o = callFunc f (c.args.map a.eval ++ #[]) := by
            simp only [execOp, ho, resolve, hc, Act.eval, Deferred.ofValue, pure_bind, invoke]
            simp
          rw [e1, callFunc_run hok]
          congr 2
          rw [← hargs]
          apply Array.ext'
          simp
        unfold Oper.wp
        rw [he]
        simp only [Oper.upon]
        refine (hm w s.inv.sub).mono ?_
        rintro e w' ⟨v, h', rfl, q, x, rfl, hK⟩
        obtain ⟨q1, q2⟩ := s.step q hd (Rl_res κ tp k x)
        exact ⟨κ, _, β, h', q1, q2, hK⟩
      · exact hm.elim
    · exact hm.elim

theorem inv_wp {c : Call} {r : Operand} {name : String} (ho : o.op = .call c) (hc : c.callee = .invoke r name) (hm : invI P name (ev ρ r) o.type (c.args.toList.map (ev ρ)) h fun v h' => K (putS ρ o.dst v) β h') :
    o.wp P a w (OpPost D0 h0 w0 n F Z o.dst κ a w K) NoExit := by
  unfold invI at hm
  split at hm
  · rename_i tp k hrk
    split at hm
    · rename_i u hu
      split at hm
      · rename_i vs hvs
        obtain ⟨f, as, hrun, hm⟩ := hm
        have hargs := tvArgs_spec s.evOk c.args.toList vs hvs
        have hrv := s.evOk.ev r
        rw [hu] at hrv
        have hrv : a.eval r = u := hrv
        have he : (execOp a.eval o).run P w = .ok (.enter f as.toArray) w := by
          have e1 : execOp a.eval o = callMethod u name vs.toArray := by
            simp only [execOp, ho, resolve, hc, pure_bind, invoke]
            rw [hrv]
            have e2 : c.args.map a.eval = vs.toArray := by rw [← Array.toList_inj]; simp [hargs]
            rw [e2]
            simp
          rw [e1]
          exact hrun w
        unfold Oper.wp
        rw [he]
        simp only [Oper.upon]
        refine (hm w s.inv.sub).mono ?_
        rintro e w' ⟨v, h', rfl, q, x, rfl, hK⟩
        obtain ⟨q1, q2⟩ := s.step q hd (Rl_res κ tp k x)
        exact ⟨κ, _, β, h', q1, q2, hK⟩
      · exact hm.elim
    · exact hm.elim
  · exact hm.elim

theorem fn_wp {c : Call} {t : Nat} (ho : o.op = .call c) (hc : c.callee = .value (.tmp t)) (hm : fnI P (ρ t) o.type (c.args.toList.map (ev ρ)) h fun v h' => K (putS ρ o.dst v) β h') :
    o.wp P a w (OpPost D0 h0 w0 n F Z o.dst κ a w K) NoExit := by
  unfold fnI at hm
  split at hm
  · rename_i tp k hrk
    split at hm
    · rename_i u hu
      split at hm
      · rename_i vs hvs
        obtain ⟨f, as, hrun, hm⟩ := hm
        have hargs := tvArgs_spec s.evOk c.args.toList vs hvs
        have hrv := s.evOk.ev (.tmp t)
        rw [show ev ρ (.tmp t) = ρ t from rfl, hu] at hrv
        have hrv : a.eval (.tmp t) = u := hrv
        have he : (execOp a.eval o).run P w = .ok (.enter f as.toArray) w := by
          have e2 : c.args.map a.eval = vs.toArray := by rw [← Array.toList_inj]; simp [hargs]
          have e1 : execOp a.eval o = (do let d ← Deferred.ofValue u vs.toArray; invoke d.target d.args) := by
            simp only [execOp, ho, resolve, hc]
            rw [hrv, e2]
          rw [e1]
          exact hrun w
        unfold Oper.wp
        rw [he]
        simp only [Oper.upon]
        refine (hm w s.inv.sub).mono ?_
        rintro e w' ⟨v, h', rfl, q, x, rfl, hK⟩
        obtain ⟨q1, q2⟩ := s.step q hd (Rl_res κ tp k x)
        exact ⟨κ, _, β, h', q1, q2, hK⟩
      · exact hm.elim
    · exact hm.elim
  · exact hm.elim

theorem append_wp {c : Call} (ho : o.op = .call c) (hc : c.callee = .builtin .append) (hm : appendI P c.argTypes (c.args.toList.map (ev ρ)) h fun x h' => K (putS ρ o.dst (.v .sl x)) β h') :
    o.wp P a w (OpPost D0 h0 w0 n F Z o.dst κ a w K) NoExit := by
  unfold appendI at hm
  split at hm
  · rename_i T T' sl x hT hT' hargs
    split at hm
    · rename_i e e' hu hu'
      split at hm
      · rename_i k i hk hi
        cases hb : Nat.beq i.bytes 0
        · rw [hb] at hm
          simp only [cond_false] at hm
          have hb' : i.bytes ≠ 0 := fun e => by rw [e] at hb; cases hb
          obtain ⟨s', h', w', r1, r2, r3⟩ := append_sound hT hu hT' hu' hk hi hb' hm s.inv.sub o.type
          have ea : c.args.map a.eval = #[sl.val, x.val] := by
            have : ∃ A B, c.args.toList = [A, B] := by
              cases hc : c.args.toList with
              | nil => rw [hc] at hargs; simp at hargs
              | cons A r =>
                cases r with
                | nil => rw [hc] at hargs; simp at hargs
                | cons B r =>
                  cases r with
                  | nil => exact ⟨A, B, rfl⟩
                  | cons _ _ => rw [hc] at hargs; simp at hargs
            obtain ⟨A, B, hAB⟩ := this
            rw [hAB] at hargs
            simp at hargs
            have h1 := s.evOk.ev A
            have h2 := s.evOk.ev B
            rw [hargs.1] at h1
            rw [hargs.2] at h2
            apply Array.ext'
            simp [hAB, show a.eval A = sl.val from h1, show a.eval B = x.val from h2]
          refine step_wp s hd (u := s'.val) (tv := .v .sl s') ?_ rfl r2 r3
          simp only [execOp, ho, resolve, hc, pure_bind, invoke, builtin, Sem.run_bind, ea, r1, Result.andThen_ok, Sem.run_pure]
        · rw [hb] at hm; exact hm.elim
      · exact hm.elim
    · exact hm.elim
  · rename_i T T' sl ik x hT hT' hargs
    split at hm
    · rename_i e ik' hu hu'
      split at hm
      · rename_i k i hk hi
        cases hb : (Nat.beq i.bytes 0 || Nat.beq k.size 0)
        · rw [hb] at hm
          simp only [cond_false] at hm
          rw [Bool.or_eq_false_iff] at hb
          have hb' : i.bytes ≠ 0 := fun e => by rw [e] at hb; cases hb.1
          have hz' : k.size ≠ 0 := fun e => by rw [e] at hb; cases hb.2
          obtain ⟨s', h', w', r1, r2, r3⟩ := appendz_sound (kn := ik) hT hu hT' hu' hk hi hb' hz' hm s.inv.sub o.type
          have ea : c.args.map a.eval = #[sl.val, .int ik x] := by
            have : ∃ A B, c.args.toList = [A, B] := by
              cases hc : c.args.toList with
              | nil => rw [hc] at hargs; simp at hargs
              | cons A r =>
                cases r with
                | nil => rw [hc] at hargs; simp at hargs
                | cons B r =>
                  cases r with
                  | nil => exact ⟨A, B, rfl⟩
                  | cons _ _ => rw [hc] at hargs; simp at hargs
            obtain ⟨A, B, hAB⟩ := this
            rw [hAB] at hargs
            simp at hargs
            have h1 := s.evOk.ev A
            have h2 := s.evOk.ev B
            rw [hargs.1] at h1
            rw [hargs.2] at h2
            apply Array.ext'
            simp [hAB, show a.eval A = sl.val from h1, show a.eval B = .int ik x from h2]
          refine step_wp s hd (u := s'.val) (tv := .v .sl s') ?_ rfl r2 r3
          simp only [execOp, ho, resolve, hc, pure_bind, invoke, builtin, Sem.run_bind, ea, r1, Result.andThen_ok, Sem.run_pure]
        · rw [hb] at hm; exact hm.elim
      · exact hm.elim
    · exact hm.elim
  · exact hm.elim

theorem copy_wp {c : Call} (ho : o.op = .call c) (hc : c.callee = .builtin .copy) (hm : copyI P c.argTypes (c.args.toList.map (ev ρ)) h fun x h' => K (putS ρ o.dst (.v (.int .i64) x)) β h') :
    o.wp P a w (OpPost D0 h0 w0 n F Z o.dst κ a w K) NoExit := by
  unfold copyI at hm
  split at hm
  · rename_i T d x hT hargs
    split at hm
    · rename_i e hu
      split at hm
      · rename_i k hk
        obtain ⟨m, h', w', r1, r2, r3⟩ := copy_sound hT hu hk hm s.inv.sub o.type
        have ea : c.args.map a.eval = #[d.val, x.val] := by
          have : ∃ A B, c.args.toList = [A, B] := by
            cases hc : c.args.toList with
            | nil => rw [hc] at hargs; simp at hargs
            | cons A r =>
              cases r with
              | nil => rw [hc] at hargs; simp at hargs
              | cons B r =>
                cases r with
                | nil => exact ⟨A, B, rfl⟩
                | cons _ _ => rw [hc] at hargs; simp at hargs
          obtain ⟨A, B, hAB⟩ := this
          rw [hAB] at hargs
          simp at hargs
          have h1 := s.evOk.ev A
          have h2 := s.evOk.ev B
          rw [hargs.1] at h1
          rw [hargs.2] at h2
          apply Array.ext'
          simp [hAB, show a.eval A = d.val from h1, show a.eval B = x.val from h2]
        refine step_wp s hd (u := .int .i64 m) (tv := .v (.int .i64) m) ?_ rfl r2 r3
        simp only [execOp, ho, resolve, hc, pure_bind, invoke, builtin, Sem.run_bind, ea, r1, Result.andThen_ok, Sem.run_pure]
      · exact hm.elim
    · exact hm.elim
  · exact hm.elim

theorem put_wp {T : TypeId} {X I V : Operand} (ho : o.op = .mapUpdate T X I V ∨ o.op = .insert T X I V) (hm : putI P T (ev ρ X) (ev ρ I) (ev ρ V) h fun h' => K (putS ρ o.dst .junk) β h') : o.wp P a w (OpPost D0 h0 w0 n F Z o.dst κ a w K) NoExit := by
  have he : execOp a.eval o = (do Instr.mapUpdate T (a.eval X) (a.eval I) (a.eval V); pure .skip) := by
    rcases ho with ho | ho <;> simp only [execOp, ho]
  obtain ⟨h', w', h1, h2, h3⟩ := putI_sound hm (s.evOk.ev X) (s.evOk.ev I) (s.evOk.ev V) s.inv.sub
  obtain ⟨q1, q2⟩ := s.step (v := .junk) (u := undef) h2 hd trivial
  refine wp_of_skip (w' := w') ?_ ⟨κ, _, β, _, q1, q2, h3⟩
  rw [he]
  simp only [Sem.run_bind, h1, Result.andThen_ok, Sem.run_pure]

theorem ta_wp {x : Operand} {xT T : TypeId} (ho : o.op = .typeAssert x xT T false) (hm : taI P T (ev ρ x) fun m => K (putS ρ o.dst (.v .map m)) β h) : o.wp P a w (OpPost D0 h0 w0 n F Z o.dst κ a w K) NoExit := by
  unfold taI at hm
  split at hm
  · rename_i u kt et hx hT
    obtain ⟨m, rfl, hK⟩ := hm
    have hX := s.evOk.ev x
    rw [hx] at hX
    have hX : a.eval x = .iface T (.map m) := hX
    refine step_wp s hd (u := .map m) (tv := .v .map m) (w' := w) ?_ rfl (Inv.refl s.inv.sub) hK
    simp only [execOp, ho, hX, Instr.typeAssert, Sem.run_bind, run_underlying' hT, Result.andThen_ok, if_true, Sem.run_pure]
    rfl
  · exact hm.elim
theorem range_wp {T : TypeId} {X : Operand} (ho : o.op = .range T X) (hm : rangeI P T (ev ρ X) h fun b h' => K (putS ρ o.dst (.it T b)) β h') : o.wp P a w (OpPost D0 h0 w0 n F Z o.dst κ a w K) NoExit := by
  unfold rangeI at hm
  split at hm
  · rename_i kt et hT
    split at hm
    · rename_i m hX
      have hx := s.evOk.ev X
      rw [hX] at hx
      have hx : a.eval X = .map m := hx
      obtain ⟨h', w', r1, r2, r3⟩ := itNew_sound hT hm s.inv.sub
      refine step_wp s hd (u := .pointer (some ⟨w.heap.size, 0, none⟩)) (tv := .it T w.heap.size) ?_ rfl r2 r3
      simp only [execOp, ho, hx, Sem.run_bind, r1, Result.andThen_ok, Sem.run_pure]
    · exact hm.elim
  · exact hm.elim
theorem next_wp {X : Operand} (ho : o.op = .next X false) (hm : nextI (ev ρ X) h fun ok h' => K (putS ρ o.dst (.nx ok)) β h') : o.wp P a w (OpPost D0 h0 w0 n F Z o.dst κ a w K) NoExit := by
  unfold nextI at hm
  split at hm
  · rename_i T b hX
    have hx := s.evOk.ev X
    rw [hX] at hx
    have hx : a.eval X = .pointer (some ⟨b, 0, none⟩) := hx
    obtain ⟨ok, r, h', w', r1, r2, r3⟩ := itNext_sound (P := P) (ty := o.type) hm s.inv.sub
    refine step_wp s hd (u := .tuple (#[.bool ok] ++ r)) (tv := .nx ok) ?_ ⟨r, rfl⟩ r2 r3
    simp only [execOp, ho, hx, Sem.run_bind, r1, Result.andThen_ok, Sem.run_pure]
  · exact hm.elim
theorem entry_wp {X : Operand} (ho : o.op = .entry X) (hm : entI P (ev ρ X) h fun v => K (putS ρ o.dst v) β h) : o.wp P a w (OpPost D0 h0 w0 n F Z o.dst κ a w K) NoExit := by
  unfold entI at hm
  split at hm
  · rename_i T b hX
    have hx := s.evOk.ev X
    rw [hX] at hx
    have hx : a.eval X = .pointer (some ⟨b, 0, none⟩) := hx
    split at hm
    · split at hm
      · rename_i kk kv _ _
        obtain ⟨k, v, r1, r2⟩ := itEnt_sound (P := P) hm s.inv.sub
        refine step_wp s hd (u := .tuple #[kk.val k, kv.val v]) (tv := .tup (.pair kk (.pair kv .nil)) (k, (v, ()))) ?_ rfl (Inv.refl s.inv.sub) r2
        simp only [execOp, ho, hx, Sem.run_bind, r1, Result.andThen_ok, Sem.run_pure]
      · exact hm.elim
    · exact hm.elim
  · exact hm.elim
theorem del_wp {c : Call} (ho : o.op = .call c) (hc : c.callee = .builtin .delete) (hm : delI P c.argTypes (c.args.toList.map (ev ρ)) h fun h' => K (putS ρ o.dst .junk) β h') :
    o.wp P a w (OpPost D0 h0 w0 n F Z o.dst κ a w K) NoExit := by
  unfold delI at hm
  split at hm
  · rename_i T m i hT0 hargs
    split at hm
    · rename_i kt et hT
      split at hm
      · rename_i kk kv hk hv
        cases hkey : keyOk P kt kk
        · rw [hkey] at hm; exact hm.elim
        rw [hkey] at hm
        simp only [cond_true] at hm
        split at hm
        · rename_i key hi
          obtain ⟨h', w', r1, r2, r3⟩ := mapDel_sound hT hkey hm o.type hT0 s.inv.sub
          have ea : c.args.map a.eval = #[.map m, kk.val key] := by
            have : ∃ A B, c.args.toList = [A, B] := by
              cases hc : c.args.toList with
              | nil => rw [hc] at hargs; simp at hargs
              | cons A r =>
                cases r with
                | nil => rw [hc] at hargs; simp at hargs
                | cons B r =>
                  cases r with
                  | nil => exact ⟨A, B, rfl⟩
                  | cons _ _ => rw [hc] at hargs; simp at hargs
            obtain ⟨A, B, hAB⟩ := this
            rw [hAB] at hargs
            simp at hargs
            have h1 := s.evOk.ev A
            have h2 := s.evOk.ev B
            rw [hargs.1] at h1
            rw [hargs.2] at h2
            have h2 := tvVal_spec hi h2
            apply Array.ext'
            simp [hAB, show a.eval A = .map m from h1, h2]
          refine step_wp s hd (u := .tuple #[]) (tv := .junk) ?_ trivial r2 r3
          simp only [execOp, ho, resolve, hc, pure_bind, invoke, builtin, Sem.run_bind, ea, r1, Result.andThen_ok, Sem.run_pure]
        · exact hm.elim
      · exact hm.elim
    · exact hm.elim
  · exact hm.elim

theorem opI_sound {hid : Bool} (hm : opI P n F hid o ρ β h K) : o.wp P a w (OpPost D0 h0 w0 n F Z o.dst κ a w K) NoExit := by
  unfold opI at hm
  rw [hd] at hm
  simp only [cond_true] at hm
  cases hsil : isSil o.op
  · rw [hsil] at hm
    simp only [cond_false] at hm
    unfold effI at hm
    split at hm
    · rename_i T ho
      split at hm
      · rename_i k hk
        have hrun : (execOp a.eval o).run P w = .ok (.value (.pointer (some ⟨w.heap.size, 0, none⟩))) (w.alloc (.cells (k.cells k.zero).toArray T)) := by
          simp only [execOp, ho, Instr.alloc, Sem.run_bind, run_zeroValue hk, Result.andThen_ok, newVar, newRow, run_newObj, zero_cells, Sem.run_pure]
          rfl
        cases hid
        · simp only [cond_false] at hm; exact new_wp s hd hm (f := fun x => .pointer (some x)) (g := fun x => .v .ptr (some x)) (fun x => rfl) (fun x h' q => q) hrun
        · simp only [cond_true] at hm; exact hide_wp s hd hm (by rw [Kd.dis_cells]; exact hrun)
      · exact hm.elim
    · rename_i T x ho
      split at hm
      · rename_i k hk
        split at hm
        · rename_i y hy
          · obtain ⟨hp, hm⟩ := plainOr_spec hm
            have ex := tvVal_spec hy (s.evOk.ev x)
            have hrun : (execOp a.eval o).run P w = .ok (.value (.pointer (some ⟨w.heap.size, 0, none⟩))) (w.alloc (.cells (k.cells y).toArray T)) := by
              simp only [execOp, ho, Instr.box, Sem.run_bind, newVar, newRow, run_newObj, ex, hp, Sem.run_pure, Result.andThen_ok]
              rfl
            cases hid
            · simp only [cond_false] at hm; exact new_wp s hd hm (f := fun x => .pointer (some x)) (g := fun x => .v .ptr (some x)) (fun x => rfl) (fun x h' q => q) hrun
            · simp only [cond_true] at hm; exact hide_wp s hd hm (by rw [Kd.dis_cells]; exact hrun)
        · exact hm.elim
      · exact hm.elim
    · rename_i T A X ho
      exact store_wp s hd ho hm
    · rename_i T len parts ho
      unfold litI at hm
      split at hm
      · rename_i e hu
        split at hm
        · rename_i k hk
          split at hm
          · rename_i xs hxs
            cases hcond : (Nat.beq xs.length len && Nat.ble (len * k.size) 16777216 && k.plain && !(Nat.beq k.size 0))
            · rw [hcond] at hm; exact hm.elim
            · rw [hcond] at hm
              simp only [cond_true] at hm
              simp only [Bool.and_eq_true, Bool.not_eq_true'] at hcond
              obtain ⟨⟨⟨c1, c2⟩, c3⟩, c4⟩ := hcond
              have c1 := Nat.eq_of_beq_eq_true c1
              subst c1
              have c4' : k.size ≠ 0 := fun e => by rw [e] at c4; cases c4
              have hl := lit_run (P := P) hu hk c3 c4' (Nat.le_of_ble_eq_true c2) hxs (pairs_map s.evOk parts.toList) w
              refine new_wp s hd hm (f := fun x => .slice (some x) xs.length xs.length) (g := fun x => .v .sl ⟨some x, xs.length, xs.length⟩) (fun x => rfl) (fun x h' q => q) ?_ (T := e)
              have e1 : (parts.toList.map fun p => (p.1, a.eval p.2)).toArray = parts.map fun (i, x) => (i, a.eval x) := by
                rw [← Array.toList_inj]; simp
              rw [e1] at hl
              simp only [execOp, ho, Sem.run_bind, hl, Result.andThen_ok, Sem.run_pure]
          · exact hm.elim
        · exact hm.elim
      · exact hm.elim
    · rename_i T A B ho
      unfold makeI at hm
      split at hm
      · rename_i e hu
        split at hm
        · rename_i k i hk hi
          cases hz : Nat.beq k.size 0
          · rw [hz] at hm
            simp only [cond_false] at hm
            have hz' : k.size ≠ 0 := fun e => by rw [e] at hz; cases hz
            split at hm
            · rename_i kn nn kc cc hn hcc
              obtain ⟨s', h', w', r1, r2, r3⟩ := make_sound hu hk hi hz' (kn := kn) (kc := kc) hm s.inv.sub
              refine step_wp s hd (u := s'.val) (tv := .v .sl s') ?_ rfl r2 r3
              simp only [execOp, ho, Sem.run_bind, asInt_spec hn (s.evOk.ev A), asInt_spec hcc (s.evOk.ev B), r1, Result.andThen_ok, Sem.run_pure]
            · exact hm.elim
          · rw [hz] at hm; exact hm.elim
        · exact hm.elim
      · exact hm.elim
    · rename_i T ho
      unfold mkMapI at hm
      split at hm
      · rename_i kt et hT
        refine step_wp s hd (u := .map (some w.heap.size)) (tv := .v .map (some w.heap.size)) (w' := w.alloc (.map #[] 0)) ?_ rfl (Inv.new (Inv.refl s.inv.sub) (o := .map #[] 0) (x := .map #[] 0) rfl) (hm w.heap.size (none_of_size s.inv.sub))
        simp only [execOp, ho, Instr.makeMap, Option.map_none, Sem.run_bind, Sem.run_pure, run_newObj, Result.andThen_ok]
        rfl
      · exact hm.elim
    · rename_i T x i v ho
      exact put_wp s hd (Or.inl ho) hm
    · rename_i T x i v ho
      exact put_wp s hd (Or.inr ho) hm
    · rename_i x xT T ho
      exact ta_wp s hd ho hm
    · rename_i T x ho
      exact range_wp s hd ho hm
    · rename_i x ho
      exact next_wp s hd ho hm
    · rename_i x ho
      exact entry_wp s hd ho hm
    · rename_i c ho
      split at hm
      · rename_i hc; exact del_wp s hd ho hc hm
      · rename_i hc; exact append_wp s hd ho hc hm
      · rename_i hc; exact copy_wp s hd ho hc hm
      · rename_i f hc; exact call_wp s hd ho hc hm
      · rename_i t hc; exact fn_wp s hd ho hc hm
      · rename_i r nm hc; exact inv_wp s hd ho hc hm
      · exact hm.elim
    · exact hm.elim
  · rw [hsil] at hm
    exact sil_wp s hd hm
end

def methodOk (P : Program) (t : TypeId) (name : String) (f : FuncId) : Bool :=
  match P.info? t with
  | some i => match i.methods.find? (·.name == name) with
    | some m => m.path.isEmpty && (match m.func with | some (g, true) => Nat.beq g f | _ => false) && (match P.underlying t with | some (.pointer _) => true | _ => false) && callOk P f
    | none => false
  | none => false
theorem InvT.of {P : Program} {t : TypeId} {name : String} {f : FuncId} (hm : methodOk P t name f = true) {v : Value} {vs : List Value} {tp : Bool} {k : Kd} {h : Heap} {K : Den k → Heap → Prop} (c : CallT P f (v :: vs) tp k h K) : InvT P name (.iface t v) vs tp k h K := by
  unfold methodOk at hm
  split at hm
  · rename_i i hi
    split at hm
    · rename_i m hf
      simp only [Bool.and_eq_true] at hm
      obtain ⟨⟨⟨h1, h2⟩, h3⟩, h4⟩ := hm
      split at h2
      · rename_i g hg
        have h2 := Nat.eq_of_beq_eq_true h2
        subst h2
        split at h3
        · rename_i el hu
          refine ⟨g, v :: vs, fun w => ?_, c⟩
          have hti : ∀ w, (typeInfo t).run P w = .ok i w := fun w => by simp [typeInfo, hi]
          have hp : m.path.toList = [] := by simpa using h1
          have hme : ∀ d, (method (d + 1) t v name).run P w = .ok (g, v) w := by
            intro d
            unfold method
            simp only [Sem.run_bind, hti, Result.andThen_ok, hf, hp, follow, Sem.run_pure, hg, receiverAt, run_underlying' hu, Place.get]
          obtain ⟨d, hd⟩ : ∃ d, P.types.size + Made.depth = d + 1 := ⟨P.types.size + Made.depth - 1, by simp [Made.depth]⟩
          unfold callMethod
          simp only [Sem.run_bind, run_program, Result.andThen_ok, hd, hme]
          have := callFunc_run h4 (#[v] ++ vs.toArray) w
          rw [this]
          congr 2
          apply Array.ext'
          simp
        · cases h3
      · cases h2
    · cases hm
  · cases hm
theorem NilT.of {P : Program} {t : TypeId} {name : String} {f : FuncId} (hm : methodOk P t name f = true) (v : Value) : NilT P (.func (.method name) #[.iface t v] #[]) := by
  intro o e x ho hx w
  unfold methodOk at hm
  split at hm
  · rename_i i hi
    split at hm
    · rename_i m hf
      simp only [Bool.and_eq_true] at hm
      obtain ⟨⟨⟨h1, h2⟩, h3⟩, h4⟩ := hm
      split at h2
      · rename_i g hg
        have hti : ∀ w, (typeInfo t).run P w = .ok i w := fun w => by simp [typeInfo, hi]
        have hp : m.path.toList = [] := by simpa using h1
        have hme : ∀ d, (nilAhead (d + 1) t v name).run P w = .ok (some false) w := by
          intro d
          unfold nilAhead
          simp only [Sem.run_bind, hti, Result.andThen_ok, hf, hp, followBlind, Sem.run_pure, hg]
        obtain ⟨d, hd⟩ : ∃ d, P.types.size + Made.depth = d + 1 := ⟨P.types.size + Made.depth - 1, by simp [Made.depth]⟩
        simp only [execOp, ho, hx]
        simp [hd, hme]
      · cases h2
    · cases hm
  · cases hm
theorem FnT.of {P : Program} {f : FuncId} (hf : callOk P f = true) {first captured : Array Value} {vs : List Value} {tp : Bool} {k : Kd} {h : Heap} {K : Den k → Heap → Prop} (c : CallT P f (first.toList ++ vs ++ captured.toList) tp k h K) :
    FnT P (.func (.func f) first captured) vs tp k h K := by
  refine ⟨f, _, fun w => ?_, c⟩
  simp only [Deferred.ofValue, pure_bind, invoke]
  rw [callFunc_run hf]
  congr 2
  apply Array.ext'
  simp

end Go.Mx

namespace Go.Mx

def FR (r : Option Nat) : Fence := { Fence.wide with round := r }
theorem callsIn_FR {r : Option Nat} {n : Nat} {P : Program} {f : FuncId} {args : Array Value} {w : World} {R : Ending → World → Prop} (h : Calls P f args w R) : CallsIn (FR r) n P f args w R := by
  have h1 : CallsIn Fence.wide n P f args w R := callsIn_wide.2 h
  exact h1
theorem roundIn_FR {r r' : Option Nat} {n n' : Nat} {P : Program} {l : Nat} {f : FuncId} {tmps : Array Value} {assign body : Code} {w : World} {R : Ending → World → Prop} (h : RoundIn (FR r) n P l f tmps assign body w R) : RoundIn (FR r') n' P l f tmps assign body w R :=
  ⟨trivial, fun c cs _ => h.2 c cs (fun d hd => by cases hd)⟩
theorem rowsIn_FR {r : Option Nat} {n : Nat} {P : Program} {row : String} {args : Array Value} {w : World} {R : Value → World → Prop} (h : Rows P row args w R) : RowsIn (FR r) n P row args w R := fun c cs _ => by
  obtain ⟨v, w', h1, h2⟩ := h c cs
  exact ⟨v, w', h1, stepsIn_wide.2 h2⟩

theorem wp_toIn {r : Option Nat} {P : Program} {o : Oper} {a : Act} {w : World} {next : Act → World → Prop} {Q : Exit → Act → World → Prop} (hd : ∀ c, o.op ≠ .defer c) (h : o.wp P a w next Q) : o.wpIn (FR r) 0 P a w next Q := by
  refine ⟨fun _ _ => trivial, ?_⟩
  rw [Oper.semAt_eq _ _ _ hd]
  unfold Oper.wp at h
  generalize (execOp a.eval o).run P w = res at *
  cases res with
  | ok nx w' =>
    cases nx with
    | value v => exact h
    | skip => exact h
    | defer d => exact h
    | enter f args => exact ⟨fun hc => (by cases hc), callsIn_FR (h.mono fun e w'' he => by cases e <;> exact he)⟩
    | row nm args => exact ⟨fun hc => (by cases hc), rowsIn_FR h⟩
    | _ => exact h.elim
  | halt x w' => cases x <;> first | exact h | exact h.elim

def FnY (P : Program) (v : Value) (vs : List Value) (tp : Bool) (k : Kd) (h : Heap) (K : Den k → Heap → Prop) : Prop :=
  FnT P v vs tp k h K ∨ ∀ w, Sub h w → ∃ l f tmps asg body, (do let d ← Deferred.ofValue v vs.toArray; invoke d.target d.args : Sem Next).run P w = .ok (.round l f tmps asg body) w ∧
    RoundIn (FR none) 0 P l f tmps asg body w fun e w' => ∃ u h', e = .returned u ∧ Inv h w h' w' ∧ ∃ x : Den k, u = resV tp k x ∧ K x h'
def isFnCall (o : Op) : Bool :=
  match o with
  | .call c => match c.callee with
    | .value (.tmp _) => true
    | _ => false
  | _ => false
def fnYI (P : Program) (g : TV) (T : TypeId) (args : List TV) (h : Heap) (K : TV → Heap → Prop) : Prop :=
  match rkOf P T with
  | some (tp, k) => match g with
    | .v .fn u => match tvArgs args with
      | some vs => FnY P u vs tp k h fun x h' => K (tvRes tp k x) h'
      | none => False
    | _ => False
  | none => False
def callY (P : Program) (o : Oper) (ρ : Slots) (β : Boxes) (h : Heap) (K : Slots → Boxes → Heap → Prop) : Prop :=
  match o.op with
  | .call c => match c.callee with
    | .value (.tmp t) => fnYI P (ρ t) o.type (c.args.toList.map (ev ρ)) h fun v h' => K (putS ρ o.dst v) β h'
    | _ => False
  | _ => False
def opY (P : Program) (n : Nat) (y : Bool) (F : List Nat) (hid : Bool) (o : Oper) (ρ : Slots) (β : Boxes) (h : Heap) (K : Slots → Boxes → Heap → Prop) : Prop :=
  bif y && isFnCall o.op then (bif dstOk n o.dst then callY P o ρ β h K else False) else opI P n F hid o ρ β h K

section
variable {P : Program} {D0 : List Deferred} {h0 : Heap} {w0 : World} {n : Nat} {F : List Nat} {Z : Nat → Prop} {κ : Nat → Nat} {ρ : Slots} {β : Boxes} {h : Heap} {a : Act} {w : World} {o : Oper}
  {K : Slots → Boxes → Heap → Prop} (s : St D0 h0 w0 n F Z κ ρ β h a w) (hd : dstOk n o.dst = true)
include s hd
theorem callY_sound {r : Option Nat} (hm : callY P o ρ β h K) : o.wpIn (FR r) 0 P a w (OpPost D0 h0 w0 n F Z o.dst κ a w K) NoExit := by
  unfold callY at hm
  split at hm
  · rename_i c ho
    split at hm
    · rename_i t hc
      unfold fnYI at hm
      split at hm
      · rename_i tp k hrk
        split at hm
        · rename_i u hu
          split at hm
          · rename_i vs hvs
            rcases hm with hm | hm
            · refine wp_toIn (fun c' e => by rw [ho] at e; cases e) (fn_wp s hd ho hc ?_)
              unfold fnI
              rw [hrk, hu, hvs]
              exact hm
            · refine ⟨fun _ _ => trivial, ?_⟩
              rw [Oper.semAt_eq _ _ _ (fun c' e => by rw [ho] at e; cases e)]
              obtain ⟨l, f, tmps, asg, body, hrun, hR⟩ := hm w s.inv.sub
              have hargs := tvArgs_spec s.evOk c.args.toList vs hvs
              have hrv := s.evOk.ev (.tmp t)
              rw [show ev ρ (.tmp t) = ρ t from rfl, hu] at hrv
              have hrv : a.eval (.tmp t) = u := hrv
              have he : (execOp a.eval o).run P w = .ok (.round l f tmps asg body) w := by
                have e2 : c.args.map a.eval = vs.toArray := by rw [← Array.toList_inj]; simp [hargs]
                have e1 : execOp a.eval o = (do let d ← Deferred.ofValue u vs.toArray; invoke d.target d.args) := by
                  simp only [execOp, ho, resolve, hc]
                  rw [hrv, e2]
                rw [e1]
                exact hrun
              rw [he]
              refine ⟨fun hc => (by cases hc), (roundIn_FR hR).mono ?_⟩
              rintro e w' ⟨v, h', rfl, q, x, rfl, hK⟩
              obtain ⟨q1, q2⟩ := s.step q hd (Rl_res κ tp k x)
              exact ⟨κ, _, β, h', q1, q2, hK⟩
          · exact hm.elim
        · exact hm.elim
      · exact hm.elim
    · exact hm.elim
  · exact hm.elim
omit hd
theorem opI_nodefer {hid : Bool} (hm : opI P n F hid o ρ β h K) : ∀ c, o.op ≠ .defer c := by
  intro c ho
  unfold opI at hm
  cases hd : dstOk n o.dst
  · rw [hd] at hm; exact hm.elim
  · rw [hd] at hm
    simp only [cond_true] at hm
    rw [show isSil o.op = false from by rw [ho]; rfl] at hm
    simp only [cond_false] at hm
    unfold effI at hm
    rw [ho] at hm
    exact hm
theorem opY_sound {r : Option Nat} {y hid : Bool} (hm : opY P n y F hid o ρ β h K) : dstOk n o.dst = true ∧ o.wpIn (FR r) 0 P a w (OpPost D0 h0 w0 n F Z o.dst κ a w K) NoExit := by
  unfold opY at hm
  cases hy : (y && isFnCall o.op)
  · rw [hy] at hm
    simp only [cond_false] at hm
    have hd : dstOk n o.dst = true := by
      cases hd : dstOk n o.dst
      · unfold opI at hm; rw [hd] at hm; exact hm.elim
      · rfl
    exact ⟨hd, wp_toIn (opI_nodefer s hm) (opI_sound s hd hm)⟩
  · rw [hy] at hm
    simp only [cond_true] at hm
    cases hd : dstOk n o.dst
    · rw [hd] at hm; exact hm.elim
    · rw [hd] at hm
      exact ⟨rfl, callY_sound s hd hm⟩
end
theorem Oper.wpIn_weak {r : Option Nat} {P : Program} {o : Oper} {a : Act} {w : World} {K K' : Act → World → Prop} {Q : Exit → Act → World → Prop} (hk : ∀ a w, K a w → K' a w) (h : o.wpIn (FR r) 0 P a w K NoExit) : o.wpIn (FR r) 0 P a w K' Q := by
  refine ⟨h.1, ?_⟩
  have h := h.2
  generalize (o.semAt (FR r).round a.eval).run P w = res at *
  cases res with
  | ok nx w' =>
    cases nx with
    | value v => exact hk _ _ h
    | skip => exact hk _ _ h
    | defer d => exact hk _ _ h
    | enter f args => exact ⟨h.1, h.2.mono fun e w'' he => by
        cases e
        · exact hk _ _ he
        · exact he.elim
        · obtain ⟨_, _, q⟩ := he; exact q.elim⟩
    | row nm args => exact ⟨h.1, h.2.mono fun v w'' he => hk _ _ he⟩
    | round l f tmps asg body => exact ⟨h.1, h.2.mono fun e w'' he => by
        cases e
        · exact hk _ _ he
        · exact he.elim
        · obtain ⟨_, _, q⟩ := he; exact q.elim⟩
    | _ => exact h.elim
  | halt x w' => cases x <;> exact h.elim
end Go.Mx

namespace Go.Mx

def guardI (ops : Array Oper) (o : Oper) (ρ : Slots) (k : Slots → Bool → Prop) : Prop :=
  match o.guard with
  | none => k ρ true
  | some (j, want) => match (ops[j]?).bind (·.dst) with
    | some t => match ρ t with
      | .kb b => k ρ (b == want)
      | .und => k ρ false
      | .v .bool b => (b = true → k (putS ρ (some t) (.kb true)) (true == want)) ∧ (b = false → k (putS ρ (some t) (.kb false)) (false == want))
      | _ => False
    | none => False

def regI (P : Program) (n : Nat) (y : Bool) (F : List Nat) (ops : Array Oper) (hid : List Nat) : List Nat → Slots → Boxes → Heap → (Slots → Boxes → Heap → Prop) → Prop
  | [], ρ, β, h, K => K ρ β h
  | i :: r, ρ, β, h, K => match ops[i]? with
    | none => False
    | some o => guardI ops o ρ fun ρ want =>
      bif want then opY P n y F (hid.contains i) o ρ β h fun ρ β h => regI P n y F ops hid r ρ β h K
      else bif dstOk n o.dst then regI P n y F ops hid r (putS ρ o.dst .und) β h K else False

def wrR (ops : Array Oper) : List Nat := ops.toList.filterMap (·.dst)

theorem Fr.refl {W F Z κ a w} : Fr W F Z κ a w κ a w := ⟨fun _ _ => rfl, fun _ _ => rfl, fun _ _ => rfl⟩
theorem Fr.trans {W F Z κ a w κ1 a1 w1 κ2 a2 w2} (x : Fr W F Z κ a w κ1 a1 w1) (y : Fr W F Z κ1 a1 w1 κ2 a2 w2) : Fr W F Z κ a w κ2 a2 w2 :=
  ⟨fun t ht => (y.slot t ht).trans (x.slot t ht), fun i hi => (y.id i hi).trans (x.id i hi), fun b hb => (y.blk b hb).trans (x.blk b hb)⟩
theorem Fr.mono {W W' F F' : List Nat} {Z Z' : Nat → Prop} {κ a w κ1 a1 w1} (x : Fr W F Z κ a w κ1 a1 w1) (hw : ∀ t, W'.contains t = false → W.contains t = false)
    (hf : ∀ i, F'.contains i = true → F.contains i = true) (hz : ∀ b, Z' b → Z b) : Fr W' F' Z' κ a w κ1 a1 w1 :=
  ⟨fun t ht => x.slot t (hw t ht), fun i hi => x.id i (hi.imp (hw i) (hf i)), fun b hb => x.blk b (hz b hb)⟩

theorem St.setSlot {D0 h0 w0 n F Z κ ρ β h a w} (s : St D0 h0 w0 n F Z κ ρ β h a w) (t : Nat) (v : TV) (hv : Rl κ v (a.tmps.getD t undef)) : St D0 h0 w0 n F Z κ (putS ρ (some t) v) β h a w :=
  ⟨s.inv, s.box, s.inj, s.z, s.zf, s.size, fun t' => by
    simp only [putS]
    by_cases c : t' = t
    · subst c; simpa using hv
    · rw [beq_no c]; exact s.slot t', s.defers⟩

theorem yielded_of {ops : Array Oper} {a : Act} {j t : Nat} {b : Bool} (hj : (ops[j]?).bind (·.dst) = some t) (hb : a.tmps.getD t undef = .bool b) : yielded ops a.tmps j = some b := by
  unfold yielded
  rw [hj]
  simp only [Option.bind_some]
  have : a.tmps[t]? = some (.bool b) := by
    rw [Array.getD_eq_getD_getElem?] at hb
    cases e : a.tmps[t]? with
    | none => rw [e] at hb; cases hb
    | some v => rw [e] at hb; simp at hb; rw [hb]
  rw [this]

theorem guardI_spec {D0 h0 w0 n F Z κ ρ β h a w} (s : St D0 h0 w0 n F Z κ ρ β h a w) {ops : Array Oper} {o : Oper} {k : Slots → Bool → Prop} (hg : guardI ops o ρ k) :
    ∃ ρ', St D0 h0 w0 n F Z κ ρ' β h a w ∧ k ρ' (Region.wanted o (yielded ops a.tmps)) := by
  unfold guardI at hg
  unfold Region.wanted
  split at hg
  · rename_i e
    rw [e]; exact ⟨ρ, s, hg⟩
  · rename_i j want e
    rw [e]
    split at hg
    · rename_i t ht
      have hs := s.slot t
      split at hg
      · rename_i b hb
        rw [hb] at hs
        simp only [yielded_of ht hs]
        exact ⟨ρ, s, by simpa using hg⟩
      · rename_i hb
        rw [hb] at hs
        have hy : yielded ops a.tmps j = none := by
          unfold yielded
          rw [ht]
          simp only [Option.bind_some]
          have hs : a.tmps.getD t undef = undef := hs
          rw [Array.getD_eq_getD_getElem?] at hs
          cases e : a.tmps[t]? with
          | none => rfl
          | some v => rw [e] at hs; simp at hs; rw [hs]; rfl
        simp only [hy]
        exact ⟨ρ, s, by simpa using hg⟩
      · rename_i b hb
        rw [hb] at hs
        simp only [yielded_of ht hs]
        cases b
        · refine ⟨_, s.setSlot t (.kb false) hs, ?_⟩
          have := hg.2 rfl
          simpa using this
        · refine ⟨_, s.setSlot t (.kb true) hs, ?_⟩
          have := hg.1 rfl
          simpa using this
      · exact hg.elim
    · exact hg.elim

theorem mem_wrR {ops : Array Oper} {i : Nat} {o : Oper} (h : ops[i]? = some o) {t : Nat} (ht : (wrR ops).contains t = false) : o.dst.toList.contains t = false := by
  cases e : o.dst with
  | none => rfl
  | some d =>
    simp only [Option.toList_some, List.contains_cons, List.contains_nil, Bool.or_false, beq_eq_false_iff_ne]
    intro c
    subst c
    have hm : t ∈ wrR ops := by
      unfold wrR
      rw [List.mem_filterMap]
      exact ⟨o, by simpa using Array.mem_of_getElem? h, e⟩
    have : (wrR ops).contains t = true := by simpa using hm
    rw [this] at ht; cases ht

theorem Oper.wp_weak {P : Program} {o : Oper} {a : Act} {w : World} {K : Act → World → Prop} {Q : Exit → Act → World → Prop} (h : o.wp P a w K NoExit) : o.wp P a w K Q := by
  unfold Oper.wp at *
  generalize (execOp a.eval o).run P w = r at *
  cases r with
  | ok n w' =>
    cases n <;> simp only [Oper.upon] at h ⊢ <;>
      first
        | exact h
        | exact Calls.mono h (fun e w'' he => by
            cases e
            · exact he
            · exact he.elim
            · obtain ⟨_, _, q⟩ := he; exact q.elim)
  | halt x w' => cases x <;> simp only [Oper.upon] at h ⊢ <;> exact h.elim

abbrev CodePost (D0 : List Deferred) (h0 : Heap) (w0 : World) (n : Nat) (W F : List Nat) (Z : Nat → Prop) (κ : Nat → Nat) (a : Act) (w : World) (K : Slots → Boxes → Heap → Prop) (a' : Act) (w' : World) : Prop :=
  ∃ κ' ρ' β' h', St D0 h0 w0 n F Z κ' ρ' β' h' a' w' ∧ Fr W F Z κ a w κ' a' w' ∧ K ρ' β' h'

theorem regI_sound {r : Option Nat} {P : Program} {D0 h0 w0 n F Z} {y : Bool} {ops : Array Oper} {hid : List Nat} {K : Slots → Boxes → Heap → Prop} {Q : Exit → Act → World → Prop} :
    ∀ (l : List Nat) {κ ρ β h a w}, St D0 h0 w0 n F Z κ ρ β h a w → regI P n y F ops hid l ρ β h K →
      (∀ a' w', CodePost D0 h0 w0 n (wrR ops) F Z κ a w K a' w' → Q .normal a' w') → wpOpsIn (FR r) 0 P ops Q l a w
  | [], κ, ρ, β, h, a, w, s, hm, hQ => hQ a w ⟨κ, ρ, β, h, s, Fr.refl, hm⟩
  | i :: r', κ, ρ, β, h, a, w, s, hm, hQ => by
    simp only [regI] at hm
    simp only [wpOpsIn]
    split at hm
    · exact hm.elim
    · rename_i o ho
      rw [ho]
      simp only
      obtain ⟨ρ1, s1, hm⟩ := guardI_spec s hm
      have hin : ∀ {d : Option Nat} {t : Nat}, d = o.dst → (wrR ops).contains t = false → d.toList.contains t = false := fun e ht => e ▸ mem_wrR ho ht
      cases hw : Region.wanted o (yielded ops a.tmps)
      · rw [hw] at hm
        simp only [cond_false] at hm
        cases hd : dstOk n o.dst
        · rw [hd] at hm; exact hm.elim
        · rw [hd] at hm
          simp only [cond_true] at hm
          obtain ⟨q1, q2⟩ := s1.step (v := .und) (u := undef) (Inv.refl s1.inv.sub) hd rfl
          simp only [Bool.false_eq_true, if_false]
          exact ⟨fun _ _ => trivial, regI_sound r' q1 hm fun a' w' ⟨κ', ρ', β', h', p1, p2, p3⟩ => hQ a' w' ⟨κ', ρ', β', h', p1, (q2.mono (fun t ht => hin rfl ht) (fun _ e => e) (fun _ e => e)).trans p2, p3⟩⟩
      · rw [hw] at hm
        simp only [cond_true] at hm
        simp only [if_true]
        obtain ⟨hd, hwp⟩ := opY_sound (r := r) s1 hm
        refine Oper.wpIn_weak (fun a1 w1 hp => ?_) hwp
        obtain ⟨κ1, ρ2, β1, h1, p1, p2, p3⟩ := hp
        exact regI_sound r' p1 p3 fun a' w' ⟨κ', ρ', β', h', p4, p5, p6⟩ => hQ a' w' ⟨κ', ρ', β', h', p4, (p2.mono (fun t ht => hin rfl ht) (fun _ e => e) (fun _ e => e)).trans p5, p6⟩

end Go.Mx
