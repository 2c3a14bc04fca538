/-
  From a law's call over the abstract heap to its row.
-/
import Derived.Test.YtanfmmcpjifgiabMxR
import Derived.OpenShut
set_option linter.unusedVariables false
set_option linter.unusedSimpArgs false
namespace Go.Mx
open Go.RowKit Go.ChangeShapes Go.WideShapes Go.Proofs.Ytanfmmcpjifgiab

theorem trodAll_stays {H : Type} {enc : TypeId × Value → H} {P : Program} (hl : laidOutB P = true) {W W' : World} {sp : Nat → Bool} : ∀ {ts : List TypeId} {vs : List Value} {ds : List (DataW H)} {ps : List MemPlace},
    (ts.all fun t => P.readableRec t && decide (t < P.types.size)) = true → DataW.TrodAll enc P W 0 (fun _ => true) true ts vs ds ps → (∀ p ∈ ps, W.sameAt W' p) → (∀ p ∈ ps, sp p.block = true) →
    DataW.TrodAll enc P W' 0 sp true ts vs ds ps
  | [], vs, ds, ps, hr, h, hs, hp => by
    obtain ⟨rfl, rfl, rfl⟩ := trodAll_nil h
    exact trodAll_mk0
  | t :: ts, vs, ds, ps, hr, h, hs, hp => by
    simp only [List.all_cons, Bool.and_eq_true, decide_eq_true_eq] at hr
    obtain ⟨v, vs', d, ds', p, q, rfl, rfl, rfl, h1, h2⟩ := trodAll_cons h
    exact trodAll_cons_mk (WideElems.Trod_stays hl hr.1.1 hr.1.2 h1 (fun x hx => hs x (by simp [hx])) (fun x hx => hp x (by simp [hx])))
      (trodAll_stays hl hr.2 h2 (fun x hx => hs x (by simp [hx])) (fun x hx => hp x (by simp [hx])))

/-- What a law's row asks of the call, out of the law's call over the abstract heap. -/
theorem law_post {H : Type} {enc : TypeId × Value → H} {P : Program} {f : FuncId} {fn : Func} {s : ChangeSpec} {bT : TypeId} (hl : laidOutB P = true) (hres : fn.resultTypes = #[bT]) (hb : P.underlying bT = some .bool) (hv : s.vars = [])
    (hrd : (fn.params.toList.all fun t => P.readableRec t && decide (t < P.types.size)) = true) {W : World} {args : Array Value} {ds gs : List (DataW H)} {before : List MemPlace}
    (hW : DataW.Whole enc P fn.params.toList s.vars false W args.toList ds gs before) (hfn : gs = [] → (s.fn H (ds ++ gs)).results = [.lit (.bool true)] ∧ (s.fn H (ds ++ gs)).args = ds ∧ (s.fn H (ds ++ gs)).vars = [])
    (call : CallT P f args.toList false .bool (view W) fun b h' => b = true ∧ le (view W) h') :
    Calls P f args W fun e W' => ∃ v, e = .returned v ∧ s.post enc P fn false true false false W args v W' := by
  refine (call W (view_sub W)).mono ?_
  rintro e W' ⟨v, h', rfl, q, b, rfl, rfl, hle⟩
  have hbel := below_of q hle
  refine ⟨_, rfl, ?_⟩
  have hlt := hW.lt
  have hW' := hW
  obtain ⟨p, qq, hA, hV, rfl, hfz, hnd⟩ := hW
  rw [hv] at hV
  obtain ⟨rfl, rfl⟩ := trodVars_none hV
  obtain ⟨e1, e2, e3⟩ := hfn rfl
  refine ⟨ds, [], p ++ [], [], p, [], hW', ?_, ?_, ?_, hbel.frame _, fun h => by cases h⟩
  · rw [hres, e1]
    exact trodAll_cons_mk (shut_bool hb true) trodAll_mk0
  · rw [e2]
    exact trodAll_stays hl hrd hA (fun x hx => hbel.same (hlt x (by simp [hx]))) (fun x hx => by have := hlt x (by simp [hx]); simpa using this)
  · rw [hv, e3]
    rfl

end Go.Mx
