/-
  Lists of lists of numbers: do they share memory; are they the same.
-/
import Derived.Test.YtanfmmcpjifgiabMxFg
import Derived.Test.YtanfmmcpjifgiabMxFa
import Derived.Test.YtanfmmcpjifgiabMxPt
set_option linter.unusedVariables false
set_option linter.unusedSimpArgs false
set_option linter.unusedSectionVars false
namespace Go.Mx

theorem rd_int {h : Heap} {s : Sl} {xs : List Int} (c : Arr h ki s xs) {i : Int} (h0 : 0 ≤ i) (h1 : i < (s.len : Int)) {K : Int → Prop} (hK : ∀ x : Int, xs[i.toNat]? = some x → K x) : deref s.a fun a => ld ki h (a.add (i.toNat * 1)) K := c.at h0 h1 rfl hK
def apartE (i j : Nat) : Int := w64 (w64 (100 * (i : Int)) + (j : Int))
def apartG (i : Nat) : Int := w64 ((-7) - (i : Int))
def spoiltE (i j : Nat) : Int := w64 (w64 ((-1) - (i : Int)) - (j : Int))
def spoiltG (i : Nat) : Int := w64 ((-100) - (i : Int))

theorem apart_spec {h0 h : Heap} {o : Sl} {els : List Sl} {xss : List (List (Den ki))} (n : Nest h0 h ki o els xss) (h1 : xss.length ≤ 1048576) (h2 : ∀ xs ∈ xss, xs.length ≤ 1048576) {c1 : Sl → Int → Heap → (Sl → Heap → Prop) → Prop} (i1 : ∀ {a m h Q}, law22_longer.M a m h Q → c1 a m h Q) {Q : Bool → Heap → Prop} (hQ : ∀ h', Ext (fpN o els) h h' → Q true h') : law22_apart.M c1 o h Q := by
  have hel : els.length = xss.length := n.len
  have hol : els.length = o.len := n.out.len
  have hsmall : ∀ {yss : List (List (Den ki))} {i : Nat} {row}, Like xss yss → yss[i]? = some row → row.length ≤ 1048576 := fun {yss i row} hk e => by
    have hi : i < xss.length := by rw [hk.len]; exact (List.getElem?_eq_some_iff.1 e).1
    rw [← hk.at (xs := xss[i]) (by simp) e]
    exact h2 _ (by simp)
  refine Loop.up els.length (fun s => s.1) (fun i st k => ∃ yss, Nest h0 k ki o els yss ∧ Like xss yss ∧ Ext (fpN o els) h k ∧ Fil apartE i yss) rfl ⟨xss, n, .refl _, .refl _ _, fun i row j x h => absurd h (Nat.not_lt_zero _)⟩ ?_
  rintro i ⟨i', u⟩ k go hi hc ⟨yss, m, hk, x, f⟩ hgo
  dsimp only at hc; subst hc
  refine ⟨fun e => ?_, fun e => ?_⟩
  · have e : (i : Int) < (o.len : Int) := of_decide_eq_true e
    have hie : i < els.length := by omega
    have hbE : (0 : Int) ≤ (i : Int) ∧ (i : Int) < (o.len : Int) := ⟨by omega, e⟩
    have hei : els[i]? = some els[i] := by simp
    have rdo : ∀ {h' : Heap} {yss' : List (List (Den ki))} {K : Sl → Prop}, Nest h0 h' ki o els yss' → K els[i] → ((0 : Int) ≤ (i : Int) ∧ (i : Int) < (o.len : Int)) ∧ deref o.a fun a => ld (.sl : Kd) h' (a.add ((i : Int).toNat * 1)) K := fun {h' yss' K} n' hK =>
      ⟨hbE, n'.out.arr.at hbE.1 hbE.2 rfl fun s hs => by rw [Int.toNat_natCast, hei] at hs; cases hs; exact hK⟩
    have hyl : els.length = yss.length := m.len
    have hyi : yss[i]? = some (yss[i]'(by omega)) := by simp
    refine Loop.up (yss[i]'(by omega)).length (fun s => s.1) (fun j st k' => ∃ zss row, Nest h0 k' ki o els zss ∧ Like xss zss ∧ Ext (fpN o els) h k' ∧ Fil apartE i zss ∧ zss[i]? = some row ∧ row.length = (yss[i]'(by omega)).length ∧ ∀ (j' : Nat) x, j' < j → row[j']? = some x → x = apartE i j')
      rfl ⟨yss, _, m, hk, x, f, hyi, rfl, fun j' x h => absurd h (Nat.not_lt_zero _)⟩ ?_
    rintro j ⟨j', u'⟩ k2 go2 hj hc ⟨zss, row, m2, hk2, x2, f2, hr, hrl, g⟩ hgo2
    dsimp only at hc; subst hc
    have r2 := (m2.row i _ _ hei hr).len
    have hrs := hsmall hk2 hr
    refine rdo m2 ⟨fun e2 => ?_, fun e2 => ?_⟩
    · have e2 : (j : Int) < (els[i].len : Int) := of_decide_eq_true e2
      have hbj : (0 : Int) ≤ (j : Int) := by omega
      have hjl : j < row.length := by omega
      refine rdo m2 ⟨⟨hbj, e2⟩, m2.setEl hei hr hbj e2 rfl rfl fun h3 m3 x3 => ?_⟩
      rw [Int.toNat_natCast] at m3
      have hil : i < zss.length := (List.getElem?_eq_some_iff.1 hr).1
      refine hgo2 (by omega) _ _ (w64_up' (n := row.length) hjl (by omega)) ⟨_, _, m3, hk2.set hr (List.length_set ..), x2.trans x3, fun i' row' j' x' a b c => ?_, List.getElem?_set_self hil, by rw [List.length_set]; exact hrl, fun j' x' a b => ?_⟩
      · rw [List.getElem?_set_ne (by omega)] at b
        exact f2 i' row' j' x' a b c
      · by_cases c : j = j'
        · subst c
          rw [List.getElem?_set_self hjl] at b; cases b
          rfl
        · rw [List.getElem?_set_ne c] at b
          exact g j' x' (by omega) b
    · have e2 : ¬ (j : Int) < (els[i].len : Int) := of_decide_eq_false e2
      refine hgo (by omega) _ _ (w64_up' (n := els.length) hie (by omega)) ⟨zss, m2, hk2, x2, fun i' row' j' x' a b c => ?_⟩
      by_cases d : i' = i
      · subst d
        rw [hr] at b; cases b
        exact g j' x' (by have := (List.getElem?_eq_some_iff.1 c).1; omega) c
      · exact f2 i' row' j' x' (by omega) b c
  have e : ¬ (i : Int) < (o.len : Int) := of_decide_eq_false e
  obtain rfl : i = els.length := by omega
  clear hgo
  have hyl : els.length = yss.length := m.len
  refine Loop.up els.length (fun s => s.2.1) (fun i st k' => ∃ ts exts, Ph h0 h k' ki o els ts yss exts st.1 (ts.take i) ∧ (∀ i' : Nat, i ≤ i' → ts[i']? = els[i']?) ∧ ∀ (i' : Nat) e, exts[i']? = some e → e = if i' < i then List.replicate 64 (apartG i') else [])
    rfl ⟨els, _, Ph.of m x, fun _ _ => rfl, fun i' e h => by rw [if_neg (Nat.not_lt_zero _)]; exact List.eq_of_mem_replicate (List.mem_of_getElem? h)⟩ ?_
  rintro i ⟨mo, i', u2⟩ k go hi hc ⟨ts, exts, p, ht, hx⟩ hgo
  dsimp only at hc p; subst hc
  have pl := p.lg.l1
  refine ⟨fun e => ?_, fun e => ?_⟩
  · have e : (i : Int) < (o.len : Int) := of_decide_eq_true e
    have hie : i < els.length := by omega
    have hbE : (0 : Int) ≤ (i : Int) ∧ (i : Int) < (o.len : Int) := ⟨by omega, e⟩
    have hei : els[i]? = some els[i] := by simp
    have hti : ts[i]? = some els[i] := by rw [ht i (Nat.le_refl _)]; exact hei
    have hel3 := p.lg.l3
    have hxi : exts[i]? = some [] := by
      have h0 : exts[i]? = some (exts[i]'(by omega)) := by simp
      have := hx i _ h0
      rw [if_neg (Nat.lt_irrefl _)] at this
      rw [h0, this]
    refine ⟨hbE, p.out.arr.at hbE.1 hbE.2 rfl fun s hs => ?_⟩
    rw [Int.toNat_natCast, hei] at hs
    obtain rfl := Option.some.inj hs
    have hml := p.mo.len
    rw [List.length_take] at hml
    refine i1 (Loop.up 64 (fun s => s.2.1) (fun j st k' => Ph h0 h k' ki o els (ts.set i st.1) yss (exts.set i (List.replicate j (apartG i))) mo (ts.take i)) rfl ?_ ?_)
    · show Ph h0 h k ki o els (ts.set i els[i]) yss (exts.set i []) mo (ts.take i)
      have a1 : ts.set i els[i] = ts := by
        apply List.ext_getElem?
        intro n
        by_cases c : i = n
        · subst c; rw [List.getElem?_set_self (by omega), hti]
        · rw [List.getElem?_set_ne c]
      have a2 : exts.set i [] = exts := by
        apply List.ext_getElem?
        intro n
        by_cases c : i = n
        · subst c; rw [List.getElem?_set_self (by omega), hxi]
        · rw [List.getElem?_set_ne c]
      rw [a1, a2]
      exact p
    rintro j ⟨t, j', u'⟩ k2 go2 hj hc p2 hgo2
    dsimp only at hc p2; subst hc
    have ht2 : (ts.set i t)[i]? = some t := List.getElem?_set_self (by omega)
    have hx2 : (exts.set i (List.replicate j (apartG i)))[i]? = some (List.replicate j (apartG i)) := List.getElem?_set_self (by omega)
    refine ⟨fun e2 => ?_, fun e2 => ?_⟩
    · have e2 : (j : Int) < 64 := of_decide_eq_true e2
      obtain ⟨row, e', hr, he', q⟩ := p2.lg.row' hei ht2
      rw [hx2] at he'; cases he'
      have htl := q.own.len
      have hrs := hsmall hk hr
      rw [List.length_append, List.length_replicate] at htl
      refine p2.grow hei ht2 hx2 rfl rfl (by omega) fun t3 k3 p3 => ?_
      rw [List.set_set, List.set_set] at p3
      have p3 : Ph h0 h k3 ki o els (ts.set i t3) yss (exts.set i (List.replicate j (apartG i) ++ [apartG i])) mo (ts.take i) := p3
      rw [← List.replicate_succ'] at p3
      exact hgo2 (by omega) _ _ (w64_up' (n := 64) (by omega) (by omega)) p3
    · have e2 : ¬ (j : Int) < 64 := of_decide_eq_false e2
      obtain rfl : j = 64 := by omega
      refine p2.note rfl (by omega) fun m3 k3 p3 => ?_
      refine hgo hie _ _ (w64_up' (n := els.length) hie (by omega)) ⟨ts.set i t, exts.set i (List.replicate 64 (apartG i)), ?_, fun i' h => ?_, fun i' e' h => ?_⟩
      · rw [take_set_succ ts (by omega)]
        exact p3
      · rw [List.getElem?_set_ne (by omega)]
        exact ht i' (by omega)
      · by_cases c : i = i'
        · subst c
          rw [hx2] at h; cases h
          rw [if_pos (by omega)]
        · rw [List.getElem?_set_ne c] at h
          rw [hx i' e' h]
          by_cases d : i' < i
          · rw [if_pos d, if_pos (by omega)]
          · rw [if_neg d, if_neg (by omega)]
  have e : ¬ (i : Int) < (o.len : Int) := of_decide_eq_false e
  obtain rfl : i = els.length := by omega
  clear hgo
  rw [List.take_of_length_le (by omega)] at p
  have hml : ts.length = mo.len := p.mo.len
  refine Loop.up els.length (fun s => s.1) (fun i st k' => k' = k) rfl rfl ?_
  rintro i ⟨i', u3⟩ k go hi hc rfl hgo
  dsimp only at hc; subst hc
  refine ⟨fun e => ?_, fun e => hQ _ p.st.1⟩
  have e : (i : Int) < (o.len : Int) := of_decide_eq_true e
  have hie : i < els.length := by omega
  have hbE : (0 : Int) ≤ (i : Int) ∧ (i : Int) < (o.len : Int) := ⟨by omega, e⟩
  have hbM : (0 : Int) ≤ (i : Int) ∧ (i : Int) < (mo.len : Int) := by omega
  have hei : els[i]? = some els[i] := by simp
  have hti : ts[i]? = some (ts[i]'(by omega)) := by simp
  have rdo : ∀ {K : Sl → Prop}, K els[i] → ((0 : Int) ≤ (i : Int) ∧ (i : Int) < (o.len : Int)) ∧ deref o.a fun a => ld (.sl : Kd) k (a.add ((i : Int).toNat * 1)) K := fun {K} hK =>
    ⟨hbE, p.out.arr.at hbE.1 hbE.2 rfl fun s hs => by rw [Int.toNat_natCast, hei] at hs; cases hs; exact hK⟩
  have rdm : ∀ {K : Sl → Prop}, K (ts[i]'(by omega)) → ((0 : Int) ≤ (i : Int) ∧ (i : Int) < (mo.len : Int)) ∧ deref mo.a fun a => ld (.sl : Kd) k (a.add ((i : Int).toNat * 1)) K := fun {K} hK =>
    ⟨hbM, p.mo.arr.at hbM.1 hbM.2 rfl fun s hs => by rw [Int.toNat_natCast, hti] at hs; cases hs; exact hK⟩
  obtain ⟨row, e', hr, he', q⟩ := p.lg.row' hei hti
  have hrl := q.rd.1
  have hrs := hsmall hk hr
  have he2 := hx i e' he'
  rw [if_pos hie] at he2
  subst he2
  have htl := q.own.len
  rw [List.length_append, List.length_replicate] at htl
  refine Loop.up els[i].len (fun s => s.1) (fun j st k' => k' = k) rfl rfl ?_
  rintro j ⟨j', u4⟩ k4 go2 hj hc rfl hgo2
  dsimp only at hc; subst hc
  refine rdo ⟨fun e2 => ?_, fun e2 => ?_⟩
  · have e2 : (j : Int) < (els[i].len : Int) := of_decide_eq_true e2
    have hbj : (0 : Int) ≤ (j : Int) := by omega
    refine rdo ⟨⟨hbj, e2⟩, rd_int q.rd hbj e2 fun x hx => ?_⟩
    rw [Int.toNat_natCast] at hx
    have := f i row j x (by omega) hr hx
    subst this
    exact ⟨fun d => absurd rfl (of_decide_eq_true d), fun d => hgo2 (by omega) _ _ (w64_up' (n := els[i].len) (by omega) (by omega)) rfl⟩
  · have e2 : ¬ (j : Int) < (els[i].len : Int) := of_decide_eq_false e2
    refine rdo ?_
    refine Loop.up 64 (fun s => s.1 - (els[i].len : Int)) (fun j st k' => k' = k4) (Int.sub_self _) rfl ?_
    rintro n ⟨n', u5⟩ k5 go3 hn hc rfl hgo3
    dsimp only at hc
    obtain rfl : n' = ((els[i].len + n : Nat) : Int) := by omega
    refine rdm ⟨fun e3 => ?_, fun e3 => ?_⟩
    · have e3 : ((els[i].len + n : Nat) : Int) < ((ts[i]'(by omega)).len : Int) := of_decide_eq_true e3
      have hbj : (0 : Int) ≤ ((els[i].len + n : Nat) : Int) := by omega
      refine rdm ⟨⟨hbj, e3⟩, rd_int q.own.arr hbj e3 fun x hx => ?_⟩
      rw [Int.toNat_natCast, List.getElem?_append_right (by omega)] at hx
      have := List.eq_of_mem_replicate (List.mem_of_getElem? hx)
      subst this
      refine ⟨fun d => absurd rfl (of_decide_eq_true d), fun d => hgo3 (by omega) _ _ ?_ rfl⟩
      have w := w64_up' (i := els[i].len + n) (n := 2000000000) (by omega) (by omega)
      show w64 (((els[i].len + n : Nat) : Int) + 1) - (els[i].len : Int) = ((n + 1 : Nat) : Int)
      rw [w]; omega
    · exact hgo hie _ _ (w64_up' (n := els.length) hie (by omega)) rfl

theorem spoilt_spec {h0 h : Heap} {o : Sl} {els : List Sl} {xss : List (List (Den ki))} (n : Nest h0 h ki o els xss) (h1 : xss.length ≤ 1048576) (h2 : ∀ xs ∈ xss, xs.length ≤ 1048576) {c1 : Sl → Int → Heap → (Sl → Heap → Prop) → Prop} (i1 : ∀ {a m h Q}, law22_longer.M a m h Q → c1 a m h Q) {Q : Int → Heap → Prop} (hQ : ∀ (n : Int) h', (xss.length : Int) ≤ n → Ext (fpN o els) h h' → Q n h') : law22_spoilt.M c1 o h Q := by
  have hel : els.length = xss.length := n.len
  have hol : els.length = o.len := n.out.len
  have hsmall : ∀ {yss : List (List (Den ki))} {i : Nat} {row}, Like xss yss → yss[i]? = some row → row.length ≤ 1048576 := fun {yss i row} hk e => by
    have hi : i < xss.length := by rw [hk.len]; exact (List.getElem?_eq_some_iff.1 e).1
    rw [← hk.at (xs := xss[i]) (by simp) e]
    exact h2 _ (by simp)
  refine Loop.up els.length (fun s => s.1) (fun i st k => ∃ yss, Nest h0 k ki o els yss ∧ Like xss yss ∧ Ext (fpN o els) h k ∧ Fil spoiltE i yss) rfl ⟨xss, n, .refl _, .refl _ _, fun i row j x h => absurd h (Nat.not_lt_zero _)⟩ ?_
  rintro i ⟨i', u⟩ k go hi hc ⟨yss, m, hk, x, f⟩ hgo
  dsimp only at hc; subst hc
  refine ⟨fun e => ?_, fun e => ?_⟩
  · have e : (i : Int) < (o.len : Int) := of_decide_eq_true e
    have hie : i < els.length := by omega
    have hbE : (0 : Int) ≤ (i : Int) ∧ (i : Int) < (o.len : Int) := ⟨by omega, e⟩
    have hei : els[i]? = some els[i] := by simp
    have rdo : ∀ {h' : Heap} {yss' : List (List (Den ki))} {K : Sl → Prop}, Nest h0 h' ki o els yss' → K els[i] → ((0 : Int) ≤ (i : Int) ∧ (i : Int) < (o.len : Int)) ∧ deref o.a fun a => ld (.sl : Kd) h' (a.add ((i : Int).toNat * 1)) K := fun {h' yss' K} n' hK =>
      ⟨hbE, n'.out.arr.at hbE.1 hbE.2 rfl fun s hs => by rw [Int.toNat_natCast, hei] at hs; cases hs; exact hK⟩
    have hyl : els.length = yss.length := m.len
    have hyi : yss[i]? = some (yss[i]'(by omega)) := by simp
    refine Loop.up (yss[i]'(by omega)).length (fun s => s.1) (fun j st k' => ∃ zss row, Nest h0 k' ki o els zss ∧ Like xss zss ∧ Ext (fpN o els) h k' ∧ Fil spoiltE i zss ∧ zss[i]? = some row ∧ row.length = (yss[i]'(by omega)).length ∧ ∀ (j' : Nat) x, j' < j → row[j']? = some x → x = spoiltE i j')
      rfl ⟨yss, _, m, hk, x, f, hyi, rfl, fun j' x h => absurd h (Nat.not_lt_zero _)⟩ ?_
    rintro j ⟨j', u'⟩ k2 go2 hj hc ⟨zss, row, m2, hk2, x2, f2, hr, hrl, g⟩ hgo2
    dsimp only at hc; subst hc
    have r2 := (m2.row i _ _ hei hr).len
    have hrs := hsmall hk2 hr
    refine rdo m2 ⟨fun e2 => ?_, fun e2 => ?_⟩
    · have e2 : (j : Int) < (els[i].len : Int) := of_decide_eq_true e2
      have hbj : (0 : Int) ≤ (j : Int) := by omega
      have hjl : j < row.length := by omega
      refine rdo m2 ⟨⟨hbj, e2⟩, m2.setEl hei hr hbj e2 rfl rfl fun h3 m3 x3 => ?_⟩
      rw [Int.toNat_natCast] at m3
      have hil : i < zss.length := (List.getElem?_eq_some_iff.1 hr).1
      refine hgo2 (by omega) _ _ (w64_up' (n := row.length) hjl (by omega)) ⟨_, _, m3, hk2.set hr (List.length_set ..), x2.trans x3, fun i' row' j' x' a b c => ?_, List.getElem?_set_self hil, by rw [List.length_set]; exact hrl, fun j' x' a b => ?_⟩
      · rw [List.getElem?_set_ne (by omega)] at b
        exact f2 i' row' j' x' a b c
      · by_cases c : j = j'
        · subst c
          rw [List.getElem?_set_self hjl] at b; cases b
          rfl
        · rw [List.getElem?_set_ne c] at b
          exact g j' x' (by omega) b
    · have e2 : ¬ (j : Int) < (els[i].len : Int) := of_decide_eq_false e2
      refine hgo (by omega) _ _ (w64_up' (n := els.length) hie (by omega)) ⟨zss, m2, hk2, x2, fun i' row' j' x' a b c => ?_⟩
      by_cases d : i' = i
      · subst d
        rw [hr] at b; cases b
        exact g j' x' (by have := (List.getElem?_eq_some_iff.1 c).1; omega) c
      · exact f2 i' row' j' x' (by omega) b c
  have e : ¬ (i : Int) < (o.len : Int) := of_decide_eq_false e
  obtain rfl : i = els.length := by omega
  clear hgo
  have hyl : els.length = yss.length := m.len
  refine Loop.up els.length (fun s => s.2.1) (fun i st k' => ∃ ts exts, Ph h0 h k' ki o els ts yss exts ⟨none, 0, 0⟩ [] ∧ ((i : Int) ≤ st.1 ∧ st.1 ≤ (i : Int) * 2000000) ∧ (∀ i' : Nat, i ≤ i' → ts[i']? = els[i']?) ∧ ∀ (i' : Nat) e, exts[i']? = some e → e = if i' < i then List.replicate 64 (spoiltG i') else [])
    rfl ⟨els, _, Ph.of m x, ⟨Int.le_refl _, by show (0 : Int) ≤ _; omega⟩, fun _ _ => rfl, fun i' e h => by rw [if_neg (Nat.not_lt_zero _)]; exact List.eq_of_mem_replicate (List.mem_of_getElem? h)⟩ ?_
  rintro i ⟨tot, i', u2⟩ k go hi hc ⟨ts, exts, p, hin, ht, hx⟩ hgo
  dsimp only at hc hin; subst hc
  have pl := p.lg.l1
  refine ⟨fun e => ?_, fun e => ?_⟩
  · have e : (i : Int) < (o.len : Int) := of_decide_eq_true e
    have hie : i < els.length := by omega
    have hbE : (0 : Int) ≤ (i : Int) ∧ (i : Int) < (o.len : Int) := ⟨by omega, e⟩
    have hei : els[i]? = some els[i] := by simp
    have hti : ts[i]? = some els[i] := by rw [ht i (Nat.le_refl _)]; exact hei
    have hel3 := p.lg.l3
    have hxi : exts[i]? = some [] := by
      have h0 : exts[i]? = some (exts[i]'(by omega)) := by simp
      have := hx i _ h0
      rw [if_neg (Nat.lt_irrefl _)] at this
      rw [h0, this]
    refine ⟨hbE, p.out.arr.at hbE.1 hbE.2 rfl fun s hs => ?_⟩
    rw [Int.toNat_natCast, hei] at hs
    obtain rfl := Option.some.inj hs
    refine i1 (Loop.up 64 (fun s => s.2.1) (fun j st k' => Ph h0 h k' ki o els (ts.set i st.1) yss (exts.set i (List.replicate j (spoiltG i))) ⟨none, 0, 0⟩ []) rfl ?_ ?_)
    · show Ph h0 h k ki o els (ts.set i els[i]) yss (exts.set i []) ⟨none, 0, 0⟩ []
      have a1 : ts.set i els[i] = ts := by
        apply List.ext_getElem?
        intro n
        by_cases c : i = n
        · subst c; rw [List.getElem?_set_self (by omega), hti]
        · rw [List.getElem?_set_ne c]
      have a2 : exts.set i [] = exts := by
        apply List.ext_getElem?
        intro n
        by_cases c : i = n
        · subst c; rw [List.getElem?_set_self (by omega), hxi]
        · rw [List.getElem?_set_ne c]
      rw [a1, a2]
      exact p
    rintro j ⟨t, j', u'⟩ k2 go2 hj hc p2 hgo2
    dsimp only at hc p2; subst hc
    have ht2 : (ts.set i t)[i]? = some t := List.getElem?_set_self (by omega)
    have hx2 : (exts.set i (List.replicate j (spoiltG i)))[i]? = some (List.replicate j (spoiltG i)) := List.getElem?_set_self (by omega)
    refine ⟨fun e2 => ?_, fun e2 => ?_⟩
    · have e2 : (j : Int) < 64 := of_decide_eq_true e2
      obtain ⟨row, e', hr, he', q⟩ := p2.lg.row' hei ht2
      rw [hx2] at he'; cases he'
      have htl := q.own.len
      have hrs := hsmall hk hr
      rw [List.length_append, List.length_replicate] at htl
      refine p2.grow hei ht2 hx2 rfl rfl (by omega) fun t3 k3 p3 => ?_
      rw [List.set_set, List.set_set] at p3
      have p3 : Ph h0 h k3 ki o els (ts.set i t3) yss (exts.set i (List.replicate j (spoiltG i) ++ [spoiltG i])) ⟨none, 0, 0⟩ [] := p3
      rw [← List.replicate_succ'] at p3
      exact hgo2 (by omega) _ _ (w64_up' (n := 64) (by omega) (by omega)) p3
    · have e2 : ¬ (j : Int) < 64 := of_decide_eq_false e2
      obtain rfl : j = 64 := by omega
      obtain ⟨row, e', hr, he', q⟩ := p2.lg.row' hei ht2
      rw [hx2] at he'; cases he'
      have htl := q.own.len
      have hrs := hsmall hk hr
      rw [List.length_append, List.length_replicate] at htl
      have wt : w64 (tot + (t.len : Int)) = tot + (t.len : Int) := by rw [w64_of] <;> omega
      refine hgo hie _ _ (w64_up' (n := els.length) hie (by omega)) ⟨ts.set i t, exts.set i (List.replicate 64 (spoiltG i)), p2, ?_, fun i' h => ?_, fun i' e' h => ?_⟩
      · show ((i + 1 : Nat) : Int) ≤ w64 (tot + (t.len : Int)) ∧ w64 (tot + (t.len : Int)) ≤ ((i + 1 : Nat) : Int) * 2000000
        rw [wt]; omega
      · rw [List.getElem?_set_ne (by omega)]
        exact ht i' (by omega)
      · by_cases c : i = i'
        · subst c
          rw [hx2] at h; cases h
          rw [if_pos (by omega)]
        · rw [List.getElem?_set_ne c] at h
          rw [hx i' e' h]
          by_cases d : i' < i
          · rw [if_pos d, if_pos (by omega)]
          · rw [if_neg d, if_neg (by omega)]
  have e : ¬ (i : Int) < (o.len : Int) := of_decide_eq_false e
  obtain rfl : i = els.length := by omega
  exact hQ _ _ (by show (xss.length : Int) ≤ tot; omega) p.st.1

theorem sameLists_spec {h h1 h2 : Heap} {a b : Sl} {ea eb : List Sl} {xss : List (List Int)} (na : Nest h1 h ki a ea xss) (nb : Nest h2 h ki b eb xss) (hl : xss.length ≤ 1048576) (hr : ∀ xs ∈ xss, xs.length ≤ 1048576)
    {c1 : Sl → Sl → Heap → (Bool → Heap → Prop) → Prop} (i1 : ∀ {a b h Q}, law22_same.M a b h Q → c1 a b h Q) {Q : Bool → Heap → Prop} (hQ : Q true h) : law22_sameLists.M c1 a b h Q := by
  have la := na.out.len
  have lb := nb.out.len
  have la2 := na.len
  have lb2 := nb.len
  refine ⟨fun e => absurd (show (a.len : Int) = (b.len : Int) by omega) (of_decide_eq_true e), fun _ => ?_⟩
  refine Loop.up xss.length (fun s => s.1) (fun i st k => k = h) rfl rfl ?_
  rintro i ⟨i', u⟩ k go hi hc rfl hgo
  dsimp only at hc; subst hc
  refine ⟨fun e => ?_, fun _ => hQ⟩
  have e : (i : Int) < (a.len : Int) := of_decide_eq_true e
  have hil : i < xss.length := by omega
  obtain ⟨aa, haa⟩ := na.out.arr.addr (by omega)
  obtain ⟨ab, hab⟩ := nb.out.arr.addr (by omega)
  have xa : ea[i]? = some (ea[i]'(by omega)) := by simp
  have xb : eb[i]? = some (eb[i]'(by omega)) := by simp
  have xx : xss[i]? = some xss[i] := by simp
  refine ⟨⟨Int.natCast_nonneg i, e⟩, ?_⟩
  rw [haa]
  simp only [deref]
  refine ⟨⟨Int.natCast_nonneg i, show (i : Int) < (b.len : Int) by omega⟩, ?_⟩
  rw [hab]
  simp only [deref]
  rw [Int.toNat_natCast]
  refine na.out.arr.ldAt (k := .sl) haa xa rfl (nb.out.arr.ldAt (k := .sl) hab xb rfl (i1 (same_spec (na.row i _ _ xa xx).arr (nb.row i _ _ xb xx).arr (hr _ (List.getElem_mem hil)) ⟨fun z => (by cases z), fun _ => ?_⟩)))
  exact hgo hil _ _ (w64_up' (n := xss.length) hil (by omega)) rfl
end Go.Mx
