/-
  Lists of lists of numbers: do they share memory; are they the same.
-/
import Derived.Test.YtipihecaaakagaaMxFg
import Derived.Test.YtipihecaaakagaaMxFa
import Derived.Test.YtipihecaaakagaaMxPt
set_option linter.unusedVariables false
set_option linter.unusedSimpArgs false
set_option linter.unusedSectionVars false
namespace Go.Mx

theorem rd_int {h : Heap} {s : Sl} {xs : List Int} (c : Arr h ki s xs) {i : Int} (h0 : 0 ≤ i) (h1 : i < (s.len : Int)) {K : Int → Prop} (hK : ∀ x : Int, xs[i.toNat]? = some x → K x) : deref s.a fun a => ld ki h (a.add (i.toNat * 1)) K := c.at h0 h1 rfl hK
def apartE (i j : Nat) : Int := w64 (w64 (100 * (i : Int)) + (j : Int))
def apartG (i : Nat) : Int := w64 ((-7) - (i : Int))
def spoiltE (i j : Nat) : Int := w64 (w64 ((-1) - (i : Int)) - (j : Int))
def spoiltG (i : Nat) : Int := w64 ((-100) - (i : Int))

theorem sameLists_spec {h h1 h2 : Heap} {a b : Sl} {ea eb : List Sl} {xss : List (List Int)} (na : Nest h1 h ki a ea xss) (nb : Nest h2 h ki b eb xss) (hl : xss.length ≤ 1048576) (hr : ∀ xs ∈ xss, xs.length ≤ 1048576)
    {c1 : Sl → Sl → Heap → (Bool → Heap → Prop) → Prop} (i1 : ∀ {a b h Q}, law22_same.M a b h Q → c1 a b h Q) {Q : Bool → Heap → Prop} (hQ : Q true h) : law22_sameLists.M c1 a b h Q := by
  have la := na.out.len
  have lb := nb.out.len
  have la2 := na.len
  have lb2 := nb.len
  refine ⟨fun e => absurd (show (a.len : Int) = (b.len : Int) by omega) (of_decide_eq_true e), fun _ => ?_⟩
  refine Loop.up xss.length (fun s => s.1) (fun i st k => k = h) rfl rfl ?_
  rintro i ⟨i', u⟩ k go hi hc rfl hgo
  dsimp only at hc; subst hc
  refine ⟨fun e => ?_, fun _ => hQ⟩
  have e : (i : Int) < (a.len : Int) := of_decide_eq_true e
  have hil : i < xss.length := by omega
  obtain ⟨aa, haa⟩ := na.out.arr.addr (by omega)
  obtain ⟨ab, hab⟩ := nb.out.arr.addr (by omega)
  have xa : ea[i]? = some (ea[i]'(by omega)) := by simp
  have xb : eb[i]? = some (eb[i]'(by omega)) := by simp
  have xx : xss[i]? = some xss[i] := by simp
  refine ⟨⟨Int.natCast_nonneg i, e⟩, ?_⟩
  rw [haa]
  simp only [deref]
  refine ⟨⟨Int.natCast_nonneg i, show (i : Int) < (b.len : Int) by omega⟩, ?_⟩
  rw [hab]
  simp only [deref]
  rw [Int.toNat_natCast]
  refine na.out.arr.ldAt (k := .sl) haa xa rfl (nb.out.arr.ldAt (k := .sl) hab xb rfl (i1 (same_spec (na.row i _ _ xa xx).arr (nb.row i _ _ xb xx).arr (hr _ (List.getElem_mem hil)) ⟨fun z => (by cases z), fun _ => ?_⟩)))
  exact hgo hil _ _ (w64_up' (n := xss.length) hil (by omega)) rfl
end Go.Mx
