/-
  ExploreRun: the reference's row and play.
-/
import Derived.Test.YtanfmmcpjifgiabMxFd
set_option linter.unusedVariables false
set_option linter.unusedSimpArgs false
set_option linter.unusedSectionVars false
namespace Go.Mx

def rowE (xss : List (List Ac)) (ps : List Int) (j : Nat) : Den kref22Act := ((ps[j]?).getD 0, (xAt xss ((ps[j]?).getD 0).toNat (cnt (ps.take j) ((ps[j]?).getD 0).toNat), ()))
def rowP (xss : List (List Ac)) (ps : List Int) (n : Nat) : List (Den kref22Act) := (List.range n).map (rowE xss ps)
theorem rowP_succ (xss : List (List Ac)) (ps : List Int) (n : Nat) : rowP xss ps (n + 1) = rowP xss ps n ++ [rowE xss ps n] := by
  unfold rowP
  rw [List.range_succ, List.map_append]; rfl
theorem rowP_len (xss : List (List Ac)) (ps : List Int) (n : Nat) : (rowP xss ps n).length = n := by simp [rowP]
theorem rowP_at {xss : List (List Ac)} {ps : List Int} {n j : Nat} (h : j < n) : (rowP xss ps n)[j]? = some (rowE xss ps j) := by
  unfold rowP
  rw [List.getElem?_map, List.getElem?_range h]; rfl
theorem cnt_le (ps : List Int) (j i : Nat) : cnt (ps.take j) i ≤ ps.length := by
  have h1 := List.length_filter_le (fun p => decide (p = (i : Int))) (ps.take j)
  have h2 := List.length_take_le' j ps
  unfold cnt; omega

section
variable {h : Heap} {s : Sc} {t : Sl} {bs ps : List Int} {xss : List (List Ac)} (r : ScR h s bs xss) (hp : Arr h ki t ps) (hn : ps.length ≤ 1048576) (hc : chkE s.1 bs.length xss = 0) (hS : ScriptP (xss.map List.length) ps)
include r hp hn hc hS
theorem row_spec {Q : Sl → Heap → Prop} (hQ : ∀ l h', New h h' kref22Act l (rowP xss ps ps.length) → Q l h') : ref22_Row.M s t h Q := by
  obtain ⟨size, bg, lsl, u0⟩ := s
  obtain ⟨r1, sls, r2, r3, r4⟩ := r
  dsimp only at r1 r2
  obtain ⟨_, _, _, hx4, _, _⟩ := chkE_ok hc
  have hsl : lsl.len = xss.length := by rw [← r3, r2.1]
  have hpl := hp.1
  have hin := hS.1
  rw [List.length_map] at hin
  refine Loop.up ps.length (fun s => s.2.1) (fun j st k => New h k kref22Act st.1 (rowP xss ps j) ∧ ∀ i < 4, aget (n := 4) (a := ki) st.2.2.1.1 i = (cnt (ps.take j) i : Int)) rfl ⟨New.nil h _, fun i hi => by unfold aget; rw [dif_pos hi]; simp [cnt]⟩ ?_
  rintro j ⟨l, j', ⟨a, ua⟩, u⟩ k go hj hcc ⟨n, hI⟩ hgo
  dsimp only at hcc hI n; subst hcc
  have hnl := n.len
  rw [rowP_len] at hnl
  refine ⟨fun e => ?_, fun e => ?_⟩
  · have e : (j : Int) < (t.len : Int) := of_decide_eq_true e
    have hjt : j < ps.length := by omega
    obtain ⟨i, hi⟩ : ∃ i : Nat, ps[j] = (i : Int) := ⟨ps[j].toNat, by have := (hin ps[j] (by simp)).1; omega⟩
    have hil : i < xss.length := by have := (hin ps[j] (by simp)).2; omega
    have hrm := hS.room hjt hi (m := xss[i].length) (by simp [hil])
    have hcm := cnt_le ps j i
    have hsi : sls[i]? = some (sls[i]'(by omega)) := by simp
    have hxi : xss[i]? = some xss[i] := by simp
    have hxr := r4 i _ _ hsi hxi
    have hxl := hxr.1
    have hb0 : (0 : Int) ≤ (j : Int) := by omega
    refine ⟨⟨hb0, e⟩, (hp.le n.le).at hb0 e rfl fun p hp' => ?_⟩
    obtain rfl : ps[j] = p := by simpa [hjt] using hp'
    rw [hi]
    have hb4 : (0 : Int) ≤ (i : Int) ∧ (i : Int) < (4 : Int) := by omega
    have hbL : (0 : Int) ≤ (i : Int) ∧ (i : Int) < (lsl.len : Int) := by omega
    refine ⟨hb4, hbL, (r2.le n.le).at hbL.1 hbL.2 rfl fun sl hsl' => ?_⟩
    rw [Int.toNat_natCast, hsi] at hsl'
    obtain rfl := Option.some.inj hsl'
    have hcell : aget (n := 4) (a := ki) a ((i : Int)).toNat = (cnt (ps.take j) i : Int) := by rw [Int.toNat_natCast, hI i (by omega)]
    dsimp only
    rw [hcell]
    have hbX : (0 : Int) ≤ ((cnt (ps.take j) i : Nat) : Int) ∧ ((cnt (ps.take j) i : Nat) : Int) < ((sls[i]'(by omega)).len : Int) := by omega
    refine ⟨hbX, (hxr.le n.le).at hbX.1 hbX.2 rfl fun x hx => ?_⟩
    rw [Int.toNat_natCast] at hx
    refine n.app rfl rfl (by omega) fun t2 h2 n2 => ⟨hb4, hb4, ?_⟩
    refine hgo hjt _ _ (w64_up' (n := ps.length) hjt (by omega)) ⟨?_, fun i' hi' => ?_⟩
    · rw [rowP_succ]
      have : rowE xss ps j = ((i : Int), (x, ())) := by
        unfold rowE
        rw [List.getElem?_eq_getElem hjt]
        dsimp only [Option.getD]
        rw [hi, Int.toNat_natCast]
        unfold xAt
        rw [hxi]
        dsimp only [Option.getD]
        rw [hx]
      rw [this]
      exact n2
    · dsimp only
      rw [Int.toNat_natCast, aget_set hi', take_succ' ps hjt, cnt_app, cnt_one]
      by_cases c : i' = i
      · subst c
        rw [if_pos rfl, if_pos hi]
        show w64 ((cnt (ps.take j) i' : Int) + 1) = ((cnt (ps.take j) i' + 1 : Nat) : Int)
        rw [w64_of] <;> omega
      · rw [if_neg c, if_neg (by omega), hI i' hi']
        rfl
  · have e : ¬ (j : Int) < (t.len : Int) := of_decide_eq_false e
    obtain rfl : j = ps.length := by omega
    exact hQ l k n

end

end Go.Mx
