/-
  ExploreRun: lists that share no memory.
-/
import Derived.Test.YtipihecaaakagaaMxFg
import Derived.Test.YtipihecaaakagaaMxFe
set_option linter.unusedVariables false
set_option linter.unusedSimpArgs false
namespace Go.Mx

theorem rd_effect {h : Heap} {s : Sl} {xs : List Ef} (c : Arr h kapiEffect s xs) {i : Int} (h0 : 0 ≤ i) (h1 : i < (s.len : Int)) {K : Int → Prop} (hK : ∀ x : Ef, xs[i.toNat]? = some x → K x.1) : deref s.a fun a => ld ki h ((a.add (i.toNat * 3)).add 0) K :=
  c.part (kp := ki) (f := fun y => y.1) h0 h1 rfl (fun y => ⟨[], _, by simp only [Kd.cells, List.nil_append]; rfl, rfl⟩) hK
theorem rd_cell {h : Heap} {s : Sl} {xs : List Int} (c : Arr h ki s xs) {i : Int} (h0 : 0 ≤ i) (h1 : i < (s.len : Int)) {K : Int → Prop} (hK : ∀ x : Int, xs[i.toNat]? = some x → K x) : deref s.a fun a => ld ki h (a.add (i.toNat * 1)) K :=
  c.at h0 h1 rfl hK
def effectsApartE (i j : Nat) : Ef := (w64 (w64 (100 * (i : Int)) + (j : Int)), (false, (0, ())))
def effectsApartG (i : Nat) : Ef := (w64 ((-7) - (i : Int)), (false, (0, ())))
def cellsApartE (i j : Nat) : Int := w64 (w64 (100 * (i : Int)) + (j : Int))
def cellsApartG (i : Nat) : Int := w64 ((-7) - (i : Int))

end Go.Mx
