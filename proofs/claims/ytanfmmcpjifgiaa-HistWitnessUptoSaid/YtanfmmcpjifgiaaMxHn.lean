/-
  HistWitness: plain runs, drawn apart, cut: they have orders.
-/
import Derived.Test.YtanfmmcpjifgiaaMxHg
set_option linter.unusedVariables false
set_option linter.unusedSimpArgs false
namespace Go.Mx

/-- What the deque sees of a call. -/
def sameW (c d : Cl) : Prop := cKind c = cKind d ∧ cArg c = cArg d ∧ cCode c = cCode d ∧ cV c = cV d
theorem doL_same {c d : Cl} (h : sameW c d) (xs : List Int) (most : Int) : doL xs c most = doL xs d most := by
  obtain ⟨h1, h2, h3, h4⟩ := h
  unfold cKind at h1
  unfold cArg at h2
  unfold cCode at h3
  unfold cV at h4
  unfold doL
  rw [h1, h2, h3, h4]

/-! ### the plain run -/
theorem askL_do (xs : List Int) (t : Td) (most i : Int) (hm : (xs.length : Int) ≤ most) (hk : t.1 = 0 ∨ t.1 = 1 ∨ t.1 = 2) : (doL xs (askL xs t most i) most).2 = true := by
  unfold doL askL
  dsimp only
  by_cases h0 : t.1 = 0
  · simp only [h0, if_true]
    by_cases h1 : (xs.length : Int) < most
    · have : ¬ most ≤ (xs.length : Int) := by omega
      simp [h1, this]
    · simp [h1]; omega
  · simp only [h0, if_false]
    by_cases h1 : xs.length = 0
    · simp [h1]
    · simp only [h1, if_false]
      have h0' : 0 < xs.length := by omega
      by_cases h2 : t.1 = 1
      · simp [h2]
        rw [List.getElem?_eq_getElem (by omega)]
        rfl
      · simp [h2]
        rw [List.getElem?_eq_getElem h0']
        rfl
theorem runL_pre (most : Int) (ts : List Td) : ∀ {i j : Nat}, i ≤ j → j ≤ ts.length → ∃ r, (runL most (ts.take j)).1 = (runL most (ts.take i)).1 ++ r := by
  intro i j
  induction j with
  | zero => intro h _; exact ⟨[], by rw [show i = 0 from by omega, List.append_nil]⟩
  | succ j ih =>
    intro h hj
    by_cases e : i = j + 1
    · subst e; exact ⟨[], by rw [List.append_nil]⟩
    · obtain ⟨r, hr⟩ := ih (by omega) (by omega)
      rw [runL_succ most ts (by omega)]
      exact ⟨_, by unfold stepL; rw [hr, List.append_assoc]⟩
theorem runL_at (most : Int) (hm : 1 ≤ most) (ts : List Td) {i : Nat} (hi : i < ts.length) : (runL most ts).1[i]? = some (askL (runL most (ts.take i)).2 ts[i] most (i : Int)) := by
  obtain ⟨r, hr⟩ := runL_pre most ts (i := i + 1) (j := ts.length) hi (Nat.le_refl _)
  rw [List.take_length] at hr
  have hl := (runL_len most hm ts i (by omega)).1
  rw [hr, runL_succ most ts hi]
  unfold stepL
  rw [hl, List.append_assoc, List.getElem?_append_right (by omega), hl, Nat.sub_self]
  rfl
/-- A plain run: the calls come one behind the other. -/
structure Plain (cs : List Cl) (most : Int) : Prop where
  steps : ∀ n, n ≤ cs.length → ∃ xs, StepsTo cs most (iL (List.range cs.length)) n xs
  shape : ∀ (i : Nat) c, cs[i]? = some c → (cWho c = 0 ∨ cWho c = 1) ∧ (cWho c = 0 → cKind c = 0 ∨ cKind c = 1) ∧ (cWho c = 1 → cKind c = 2) ∧ cBg c = (i : Int) ∧ cEn c = (i : Int) ∧
    ((cKind c = 0 ∧ (cCode c = 2 ∨ cCode c = 3)) ∨ (cKind c ≠ 0 ∧ (cCode c = 4 ∨ cCode c = 5)))
theorem iL_range {n i : Nat} (h : i < n) : (iL (List.range n))[i]? = some (i : Int) := iL_at.2 ⟨i, List.getElem?_range h, rfl⟩
theorem runL_plain (most : Int) (hm : 1 ≤ most) (ts : List Td) (hk : ∀ t ∈ ts, t.1 = 0 ∨ t.1 = 1 ∨ t.1 = 2) : Plain (runL most ts).1 most := by
  have hlen : (runL most ts).1.length = ts.length := by
    have := (runL_len most hm ts ts.length (Nat.le_refl _)).1
    rwa [List.take_length] at this
  have steps : ∀ n, n ≤ ts.length → StepsTo (runL most ts).1 most (iL (List.range (runL most ts).1.length)) n (runL most (ts.take n)).2 := by
    intro n
    induction n with
    | zero => intro _; rfl
    | succ n ih =>
      intro hn
      have hl := runL_len most hm ts n (by omega)
      have hn' : n < ts.length := by omega
      refine ⟨_, (n : Int), _, ih (by omega), iL_range (by omega), Int.natCast_nonneg n, by rw [Int.toNat_natCast]; exact runL_at most hm ts hn', fun j hj e => ?_, ?_⟩
      · rw [iL_range (by omega)] at e
        simp at e
        omega
      · rw [runL_succ most ts hn']
        unfold stepL
        rw [hl.1]
        dsimp only
        have := askL_do (runL most (ts.take n)).2 ts[n] most (n : Int) hl.2.2 (hk _ (by simp))
        rw [← this]
  refine ⟨fun n hn => ⟨_, steps n (by omega)⟩, fun i c hc => ?_⟩
  have hi : i < ts.length := by rw [← hlen]; exact (List.getElem?_eq_some_iff.1 hc).1
  rw [runL_at most hm ts hi] at hc
  cases hc
  have hkk := hk ts[i] (by simp)
  unfold cWho cKind cBg cEn cCode askL
  dsimp only
  rcases hkk with h | h | h
  · simp [h]; omega
  · simp [h]; by_cases q : (runL most (List.take i ts)).2 = [] <;> simp [q]
  · simp [h]; by_cases q : (runL most (List.take i ts)).2 = [] <;> simp [q]

/-! ### drawn apart -/
structure Wd (cs l : List Cl) (n : Nat) : Prop where
  len : l.length = n
  at' : ∀ (k : Nat) c d, cs[k]? = some c → l[k]? = some d → sameW c d ∧ (cWho c = 0 → cWho d = 0) ∧ (cWho c ≠ 0 → 1 ≤ cWho d ∧ cWho d ≤ 3) ∧ 0 ≤ cBg d ∧ cBg d ≤ 100 * (k : Int) + 50 ∧ 100 * (k : Int) + 50 ≤ cEn d ∧ cEn d ≤ 100 * (k : Int) + 1050 ∧
    ∀ (j : Nat) e, k < j → cs[j]? = some e → cWho e = cWho c → cEn d ≤ 100 * (j : Int) + 49
  seq : ∀ (k k' : Nat) d d', k' < k → l[k]? = some d → l[k']? = some d' → cWho d' = cWho d → cEn d' < cBg d
theorem Wd.sound {cs l : List Cl} {most : Int} (p : Plain cs most) (w : Wd cs l cs.length) {k : Nat} {d : Cl} (hd : l[k]? = some d) : ∃ c, cs[k]? = some c ∧ Sound d ∧ cCode d ≠ 0 := by
  have hk : k < cs.length := by rw [← w.len]; exact (List.getElem?_eq_some_iff.1 hd).1
  have hc : cs[k]? = some cs[k] := by simp
  obtain ⟨⟨a1, a2, a3, a4⟩, a5, a6, a7, a8, a9, _⟩ := w.at' k _ d hc hd
  obtain ⟨b1, b2, b3, b4, b5, b6⟩ := p.shape k _ hc
  refine ⟨_, hc, ?_, by omega⟩
  show SoundI (cWho d) (cKind d) (cBg d) (cEn d) (cCode d)
  unfold SoundI May
  omega
theorem Wd.hist {cs l : List Cl} {most : Int} (p : Plain cs most) (w : Wd cs l cs.length) : HistN l l.length := by
  intro i b hi hb
  obtain ⟨c, hc, hs, _⟩ := w.sound p hb
  refine ⟨hs, fun j a hj ha hbad => ?_⟩
  have h1 := w.seq i j b a hj hb ha hbad.1
  obtain ⟨c', hc', hs', hcode⟩ := w.sound p ha
  obtain ⟨s1, s2, _⟩ := sound_facts hs'
  rcases hbad.2 with e | e
  · exact hcode (s1.1 e)
  · omega
theorem StepsTo.same {cs l : List Cl} {most : Int} {os : List Int} (h : ∀ (k : Nat) c, cs[k]? = some c → ∃ d, l[k]? = some d ∧ sameW c d) : ∀ {n : Nat} {xs : List Int}, StepsTo cs most os n xs → StepsTo l most os n xs
  | 0, xs, e => e
  | n + 1, xs, ⟨ys, k, c, a1, a2, a3, a4, a5, a6⟩ => by
    obtain ⟨d, d1, d2⟩ := h k.toNat c a4
    exact ⟨ys, k, d, a1.same h, a2, a3, d1, a5, by rw [← doL_same d2]; exact a6⟩
theorem Wd.legal {cs l : List Cl} {most : Int} (p : Plain cs most) (w : Wd cs l cs.length) : LegalL l most (iL (List.range l.length)) := by
  have hlen : (iL (List.range l.length)).length = l.length := by simp [iL]
  refine ⟨?_, ?_, fun i c hi hc _ => ⟨i, iL_range hi⟩⟩
  · obtain ⟨xs, hx⟩ := p.steps cs.length (Nat.le_refl _)
    rw [hlen, w.len]
    refine ⟨xs, hx.same fun k c hc => ?_⟩
    have hk : k < l.length := by rw [w.len]; exact (List.getElem?_eq_some_iff.1 hc).1
    exact ⟨l[k], by simp, (w.at' k c _ hc (by simp)).1⟩
  · intro i q kp kq a b hpq hq hkp hkq ha hb hah
    rw [hlen] at hq
    rw [iL_range (by omega)] at hkp
    rw [iL_range hq] at hkq
    cases hkp; cases hkq
    rw [Int.toNat_natCast] at ha hb
    have hci : cs[i]? = some (cs[i]'(by rw [← w.len]; omega)) := by simp
    have hcq : cs[q]? = some (cs[q]'(by rw [← w.len]; omega)) := by simp
    have h1 := (w.at' i _ a hci ha).2.2.2.2.1
    have h2 := (w.at' q _ b hcq hb).2.2.2.2.2.1
    have := hah.2
    omega

/-- Where all calls have ended, an order holds them all. -/
theorem legal_len {l : List Cl} {most : Int} {os : List Int} (hH : HistN l l.length) (hL : LegalL l most os) (he : ∀ (k : Nat) d, l[k]? = some d → cCode d ≠ 0) : os.length = l.length := by
  obtain ⟨is, t, xs, e, hW, hD⟩ := legal_way hH hL
  have lw := hW.laid hH
  have hf := hW.fits
  have h1 := hf.sum
  have h2 := hf.len
  have e2 : os.length = is.length := by rw [← e]; simp [iL]
  have h3 := nodup_sub (l1 := List.range l.length) (l2 := is) List.nodup_range fun i hi => by
    have hil := List.mem_range.1 hi
    have hc : l[i]? = some l[i] := by simp
    obtain ⟨w, n, hw, _, hn⟩ := byL_has hH hc
    have hlt : n < t w := Nat.lt_of_not_le fun hle => he i _ hc (hD w n i _ hw hle hn hc)
    exact (lw.mem i).2 ⟨w, n, hw, hlt, hn⟩
  rw [List.length_range] at h3
  omega
/-- A plain run has no order but its own. -/
theorem plain_order {cs : List Cl} {most : Int} (p : Plain cs most) (hH : HistN cs cs.length) {os : List Int} (hL : LegalL cs most os) : os.length = cs.length ∧ ∀ i, i < os.length → os[i]? = some (i : Int) := by
  have he : ∀ (k : Nat) d, cs[k]? = some d → cCode d ≠ 0 := fun k d hd => by have := p.shape k d hd; omega
  have hlen := legal_len hH hL he
  refine ⟨hlen, ?_⟩
  obtain ⟨⟨ys, hS⟩, hP, hE⟩ := hL
  -- the numbers rise
  have rise : ∀ a b : Nat, a < b → b < os.length → ∃ x y : Nat, os[a]? = some (x : Int) ∧ os[b]? = some (y : Int) ∧ x < y ∧ y < cs.length := fun a b hab hb => by
    obtain ⟨ka, ca, a1, a2, a3⟩ := hS.at a (by omega)
    obtain ⟨kb, cb, b1, b2, b3⟩ := hS.at b hb
    obtain ⟨x, rfl⟩ : ∃ x : Nat, ka = (x : Int) := ⟨ka.toNat, by omega⟩
    obtain ⟨y, rfl⟩ : ∃ y : Nat, kb = (y : Int) := ⟨kb.toNat, by omega⟩
    rw [Int.toNat_natCast] at a3 b3
    refine ⟨x, y, a1, b1, ?_, (List.getElem?_eq_some_iff.1 b3).1⟩
    have h1 := hP a b _ _ ca cb hab hb a1 b1 (by rw [Int.toNat_natCast]; exact a3) (by rw [Int.toNat_natCast]; exact b3)
    have sa := p.shape x ca a3
    have sb := p.shape y cb b3
    have hne : x ≠ y := fun e => by
      subst e
      obtain ⟨zs, hz⟩ := hS.down (n := b + 1) (by omega)
      obtain ⟨_, k, _, _, c2, _, _, c5, _⟩ := hz
      rw [b1] at c2; cases c2
      exact c5 a (by omega) a1
    apply Classical.byContradiction
    intro hle
    exact h1 ⟨by omega, by omega⟩
  have low : ∀ i, i < os.length → ∃ x : Nat, os[i]? = some (x : Int) ∧ i ≤ x := by
    intro i
    induction i with
    | zero => intro hi; obtain ⟨k, c, a1, a2, a3⟩ := hS.at 0 hi; exact ⟨k.toNat, by rw [a1]; congr 1; omega, Nat.zero_le _⟩
    | succ i ih =>
      intro hi
      obtain ⟨x, y, h1, h2, h3, _⟩ := rise i (i + 1) (by omega) hi
      obtain ⟨x', h4, h5⟩ := ih (by omega)
      rw [h1] at h4
      have : x = x' := by simp at h4; omega
      exact ⟨y, h2, by omega⟩
  have high : ∀ d i, i + d + 1 = os.length → ∃ x : Nat, os[i]? = some (x : Int) ∧ x + d + 1 ≤ cs.length := by
    intro d
    induction d with
    | zero =>
      intro i hi
      obtain ⟨k, c, a1, a2, a3⟩ := hS.at i (by omega)
      exact ⟨k.toNat, by rw [a1]; congr 1; omega, by have := (List.getElem?_eq_some_iff.1 a3).1; omega⟩
    | succ d ih =>
      intro i hi
      obtain ⟨x, y, h1, h2, h3, _⟩ := rise i (i + 1) (by omega) (by omega)
      obtain ⟨y', h4, h5⟩ := ih (i + 1) (by omega)
      rw [h2] at h4
      have : y = y' := by simp at h4; omega
      exact ⟨x, h1, by omega⟩
  intro i hi
  obtain ⟨x, h1, h2⟩ := low i hi
  obtain ⟨y, h3, h4⟩ := high (os.length - i - 1) i (by omega)
  rw [h1] at h3
  have : x = y := by simp at h3; omega
  have : x = i := by omega
  rw [h1, this]

/-! ### cut -/
def cutd (pick : Int) (d : Cl) : Cl := if pick ≤ cEn d then (d.1, (d.2.1, (d.2.2.1, (d.2.2.2.1, ((-1), (0, (0, ()))))))) else d
theorem cut1_eq (pick : Int) (d : Cl) : cut1 pick d = if pick ≤ cBg d then [] else [cutd pick d] := by
  show (if pick ≤ cBg d then [] else if pick ≤ cEn d then [_] else [d]) = _
  unfold cutd
  split
  · rfl
  · split <;> rfl
theorem cutd_facts (pick : Int) (d : Cl) : cWho (cutd pick d) = cWho d ∧ cKind (cutd pick d) = cKind d ∧ cBg (cutd pick d) = cBg d ∧ (pick ≤ cEn d → cEn (cutd pick d) = -1 ∧ cCode (cutd pick d) = 0) ∧ (¬ pick ≤ cEn d → cutd pick d = d) := by
  unfold cutd
  split
  · rename_i h; exact ⟨rfl, rfl, rfl, fun _ => ⟨rfl, rfl⟩, fun q => absurd h q⟩
  · rename_i h; exact ⟨rfl, rfl, rfl, fun q => absurd q h, fun _ => rfl⟩
theorem cutd_sound {pick : Int} {d : Cl} (h : Sound d) : Sound (cutd pick d) := by
  obtain ⟨f1, f2, f3, f4, f5⟩ := cutd_facts pick d
  by_cases q : pick ≤ cEn d
  · obtain ⟨g1, g2⟩ := f4 q
    show SoundI (cWho (cutd pick d)) (cKind (cutd pick d)) (cBg (cutd pick d)) (cEn (cutd pick d)) (cCode (cutd pick d))
    rw [f1, f2, f3, g1, g2]
    have h : SoundI (cWho d) (cKind d) (cBg d) (cEn d) (cCode d) := h
    unfold SoundI at h ⊢
    omega
  · rw [f5 q]; exact h
theorem mem_cut1 {pick : Int} {d x : Cl} (h : x ∈ cut1 pick d) : x = cutd pick d ∧ cBg d < pick := by
  rw [cut1_eq] at h
  split at h
  · cases h
  · rename_i q
    exact ⟨by simpa using h, by omega⟩

theorem cut_hist {l : List Cl} (hH : HistN l l.length) (pick : Int) : HistN (cutL pick l) (cutL pick l).length := by
  have hp : List.Pairwise (fun a b => ¬ Bad2 a b) (cutL pick l) := by
    unfold cutL
    rw [List.pairwise_flatMap]
    refine ⟨fun d _ => ?_, ?_⟩
    · rw [cut1_eq]; split <;> simp
    · rw [List.pairwise_iff_getElem]
      intro j i hj hi hji x hx y hy hbad
      obtain ⟨rfl, hxb⟩ := mem_cut1 hx
      obtain ⟨rfl, hyb⟩ := mem_cut1 hy
      obtain ⟨a1, _, a3, a4, a5⟩ := cutd_facts pick l[j]
      obtain ⟨b1, _, b3, _, _⟩ := cutd_facts pick l[i]
      have h0 := (hH i l[i] hi (by simp)).2 j l[j] hji (by simp)
      unfold Bad2 at hbad h0
      rw [a1, b1, b3] at hbad
      have h1 : ¬ cBg l[i] ≤ cEn l[j] := fun e => h0 ⟨hbad.1, .inr e⟩
      have h2 : cEn l[j] ≠ -1 := fun e => h0 ⟨hbad.1, .inl e⟩
      rw [a5 (by omega)] at hbad
      rcases hbad.2 with e | e
      · exact h2 e
      · exact h1 e
  intro i b hi hb
  refine ⟨?_, fun j a hj ha => ?_⟩
  · obtain ⟨d, hd, hx⟩ := List.mem_flatMap.1 (List.mem_of_getElem? hb)
    obtain ⟨k, hk⟩ := List.mem_iff_getElem?.1 hd
    obtain ⟨rfl, _⟩ := mem_cut1 hx
    exact cutd_sound (hH k d (List.getElem?_eq_some_iff.1 hk).1 hk).1
  · obtain ⟨h1, rfl⟩ := List.getElem?_eq_some_iff.1 ha
    obtain ⟨h2, rfl⟩ := List.getElem?_eq_some_iff.1 hb
    exact List.pairwise_iff_getElem.1 hp j i h1 h2 hj

/-- A call that a cut made running takes part just if it did something. -/
theorem doL_cut {pick : Int} {d : Cl} {ys xs : List Int} {most : Int} (hs : (cKind d = 0 ∧ (cCode d = 2 ∨ cCode d = 3)) ∨ (cKind d ≠ 0 ∧ (cCode d = 4 ∨ cCode d = 5))) (h : doL ys d most = (xs, true)) :
    (¬ (pick ≤ cEn d ∧ (cCode d = 3 ∨ cCode d = 5)) → doL ys (cutd pick d) most = (xs, true)) ∧ ((cCode d = 3 ∨ cCode d = 5) → xs = ys) := by
  obtain ⟨who, kind, arg, bg, en, code, v, u⟩ := d
  change Int at who kind arg bg en code v
  have hs : (kind = 0 ∧ (code = 2 ∨ code = 3)) ∨ (kind ≠ 0 ∧ (code = 4 ∨ code = 5)) := hs
  show (¬ (pick ≤ en ∧ (code = 3 ∨ code = 5)) → _) ∧ ((code = 3 ∨ code = 5) → _)
  unfold doL at h
  dsimp only [Den] at h
  constructor
  · intro hk
    unfold cutd
    show doL ys (if pick ≤ en then _ else _) most = _
    by_cases q : pick ≤ en
    · rw [if_pos q]
      have hc : (kind = 0 ∧ code = 2) ∨ (kind ≠ 0 ∧ code = 4) := by omega
      unfold doL
      dsimp only [Den]
      rcases hc with ⟨rfl, rfl⟩ | ⟨hk0, rfl⟩
      · rw [if_neg (by decide), if_neg (by decide), if_neg (by decide), if_pos rfl] at h ⊢
        exact h
      · rw [if_neg (by decide), if_neg (by decide), if_neg (by decide), if_neg hk0] at h ⊢
        by_cases z : ys.length = 0
        · rw [if_pos z] at h; cases h
        · rw [if_neg z] at h ⊢
          by_cases y : kind = 1
          · rw [if_pos y] at h ⊢
            have := congrArg Prod.fst h
            dsimp only at this
            rw [this]; simp
          · rw [if_neg y] at h ⊢
            have := congrArg Prod.fst h
            dsimp only at this
            rw [this]; simp
    · rw [if_neg q]
      unfold doL
      exact h
  · rintro (rfl | rfl)
    · rw [if_pos rfl] at h
      exact (congrArg Prod.fst h).symm
    · rw [if_neg (by decide), if_pos rfl] at h
      exact (congrArg Prod.fst h).symm

theorem cut_prefix {cs l : List Cl} {pick : Int} : ∀ {m : Nat}, m ≤ l.length → (∀ (k : Nat) d, k < m → l[k]? = some d → cBg d < pick) → ∃ r, cutL pick l = (l.take m).map (cutd pick) ++ r ∧ r = cutL pick (l.drop m) := by
  intro m hm hb
  refine ⟨_, ?_, rfl⟩
  conv => lhs; rw [← List.take_append_drop m l]
  unfold cutL
  rw [List.flatMap_append]
  congr 1
  have : ∀ d ∈ l.take m, cut1 pick d = [cutd pick d] := fun d hd => by
    obtain ⟨k, hk⟩ := List.mem_iff_getElem?.1 hd
    have hkm : k < m := by
      have := (List.getElem?_eq_some_iff.1 hk).1
      rw [List.length_take] at this; omega
    rw [List.getElem?_take_of_lt hkm] at hk
    have := hb k d hkm hk
    rw [cut1_eq, if_neg (by omega)]
  generalize l.take m = L at this ⊢
  induction L with
  | nil => rfl
  | cons a L ih => rw [List.flatMap_cons, List.map_cons, this a (by simp), ih fun d hd => this d (by simp [hd])]; rfl

theorem cut_has {cs l : List Cl} {most : Int} (p : Plain cs most) (w : Wd cs l cs.length) (pick : Int) : HasO (cutL pick l) most := by
  obtain ⟨m, hm1, hm2, hm3⟩ : ∃ m, m ≤ l.length ∧ (∀ k : Nat, k < m → 100 * (k : Int) + 50 < pick) ∧ (∀ k : Nat, m ≤ k → k < l.length → pick ≤ 100 * (k : Int) + 50) := by
    refine ⟨min l.length ((pick - 50 + 99) / 100).toNat, by omega, fun k hk => ?_, fun k hk hk2 => ?_⟩ <;> omega
  have facts : ∀ (k : Nat) d, l[k]? = some d → ∃ c, cs[k]? = some c ∧ sameW c d ∧ cBg d ≤ 100 * (k : Int) + 50 ∧ 100 * (k : Int) + 50 ≤ cEn d ∧ ((cKind d = 0 ∧ (cCode d = 2 ∨ cCode d = 3)) ∨ (cKind d ≠ 0 ∧ (cCode d = 4 ∨ cCode d = 5))) := fun k d hd => by
    have hk : k < cs.length := by rw [← w.len]; exact (List.getElem?_eq_some_iff.1 hd).1
    have hc : cs[k]? = some cs[k] := by simp
    obtain ⟨a1, _, _, _, a5, a6, _⟩ := w.at' k _ d hc hd
    have sh := (p.shape k _ hc).2.2.2.2.2
    obtain ⟨e1, e2, e3, e4⟩ := a1
    exact ⟨_, hc, ⟨e1, e2, e3, e4⟩, a5, a6, by rw [← e1, ← e3]; exact sh⟩
  obtain ⟨r, hr, hr2⟩ := cut_prefix (cs := cs) (pick := pick) hm1 (fun k d hk hd => by
    obtain ⟨c, _, _, h1, _⟩ := facts k d hd
    have := hm2 k hk
    omega)
  have low : ∀ k : Nat, k < m → ∃ d, l[k]? = some d ∧ (cutL pick l)[k]? = some (cutd pick d) := fun k hk => by
    have hkl : k < l.length := by omega
    refine ⟨l[k], by simp, ?_⟩
    rw [hr, List.getElem?_append_left (by simp; omega), List.getElem?_map, List.getElem?_take_of_lt hk, List.getElem?_eq_getElem hkl]
    rfl
  have high : ∀ (k : Nat) x, m ≤ k → (cutL pick l)[k]? = some x → cEn x = -1 := fun k x hk hx => by
    rw [hr, List.getElem?_append_right (by simp; omega)] at hx
    have hx := List.mem_of_getElem? hx
    rw [hr2] at hx
    obtain ⟨d, hd, hx⟩ := List.mem_flatMap.1 hx
    obtain ⟨j, hj⟩ := List.mem_iff_getElem?.1 hd
    rw [List.getElem?_drop] at hj
    obtain ⟨rfl, _⟩ := mem_cut1 hx
    obtain ⟨c, _, _, _, h2, _⟩ := facts _ d hj
    have := hm3 (m + j) (by omega) (List.getElem?_eq_some_iff.1 hj).1
    exact ((cutd_facts pick d).2.2.2.1 (by omega)).1
  -- which take part
  let keep : Nat → Bool := fun k => match l[k]? with | some d => !(decide (pick ≤ cEn d) && (decide (cCode d = 3) || decide (cCode d = 5))) | none => false
  let is : Nat → List Nat := fun n => (List.range n).filter keep
  have isS : ∀ n, is (n + 1) = is n ++ if keep n = true then [n] else [] := fun n => by
    show (List.range (n + 1)).filter keep = _
    rw [List.range_succ, List.filter_append]
    congr 1
    cases e : keep n <;> simp [List.filter, e]
  have isLt : ∀ n i, i ∈ is n → i < n := fun n i hi => List.mem_range.1 (List.mem_filter.1 hi).1
  have steps : ∀ n, n ≤ m → ∀ xs, StepsTo cs most (iL (List.range cs.length)) n xs → StepsTo (cutL pick l) most (iL (is n)) (is n).length xs := by
    intro n
    induction n with
    | zero => intro _ xs h; exact h
    | succ n ih =>
      intro hn xs ⟨ys, k, c, a1, a2, a3, a4, a5, a6⟩
      have ih := ih (by omega) ys a1
      have hnl : n < cs.length := by rw [← w.len]; omega
      rw [iL_range hnl] at a2; cases a2
      rw [Int.toNat_natCast] at a4
      obtain ⟨d, hd, hpd⟩ := low n (by omega)
      obtain ⟨c', hc', hsame, _, _, hsh⟩ := facts n d hd
      rw [a4] at hc'; cases hc'
      rw [doL_same hsame] at a6
      obtain ⟨g1, g2⟩ := doL_cut (pick := pick) hsh a6
      have hkeep : keep n = !(decide (pick ≤ cEn d) && (decide (cCode d = 3) || decide (cCode d = 5))) := by show (match l[n]? with | some d => _ | none => false) = _; rw [hd]
      rw [isS n]
      by_cases q : pick ≤ cEn d ∧ (cCode d = 3 ∨ cCode d = 5)
      · have : keep n = false := by rw [hkeep]; simp [q.1]; exact fun h => q.2.resolve_left h
        rw [this]
        simp only [Bool.false_eq_true, if_false, List.append_nil]
        rw [g2 q.2]
        exact ih
      · have hk : keep n = true := by
          rw [hkeep]
          simp only [Bool.not_eq_true', Bool.and_eq_false_iff, Bool.or_eq_false_iff, decide_eq_false_iff_not]
          by_cases z : pick ≤ cEn d
          · exact .inr ⟨fun e => q ⟨z, .inl e⟩, fun e => q ⟨z, .inr e⟩⟩
          · exact .inl z
        rw [hk]
        simp only [if_true, List.length_append, List.length_singleton]
        have hpre : ∀ j, j < (is n).length → (iL (is n ++ [n]))[j]? = (iL (is n))[j]? := fun j hj => by
          unfold iL
          rw [List.map_append, List.getElem?_append_left (by simpa using hj)]
        refine ⟨ys, (n : Int), cutd pick d, ih.ext hpre, ?_, Int.natCast_nonneg n, by rw [Int.toNat_natCast]; exact hpd, fun j hj e => ?_, g1 q⟩
        · unfold iL
          rw [List.map_append, List.getElem?_append_right (by simp)]
          simp
        · rw [hpre j hj] at e
          obtain ⟨i, i1, i2⟩ := iL_at.1 e
          have := isLt n i (List.mem_of_getElem? i1)
          omega
  obtain ⟨xs, hx⟩ := p.steps m (by rw [← w.len]; exact hm1)
  have hlen : (iL (is m)).length = (is m).length := by simp [iL]
  refine ⟨iL (is m), ⟨xs, by rw [hlen]; exact steps m (Nat.le_refl _) xs hx⟩, ?_, fun i c hi hc hen => ?_⟩
  · have sorted : List.Pairwise (· < ·) (is m) := List.Pairwise.filter _ List.pairwise_lt_range
    intro i q kp kq a b hpq hq hkp hkq ha hb hah
    rw [hlen] at hq
    obtain ⟨x, x1, rfl⟩ := iL_at.1 hkp
    obtain ⟨y, y1, rfl⟩ := iL_at.1 hkq
    rw [Int.toNat_natCast] at ha hb
    obtain ⟨h1, h1'⟩ := List.getElem?_eq_some_iff.1 x1
    obtain ⟨h2, h2'⟩ := List.getElem?_eq_some_iff.1 y1
    have hxy := List.pairwise_iff_getElem.1 sorted i q h1 h2 hpq
    rw [h1', h2'] at hxy
    have hxm := isLt m x (List.mem_of_getElem? x1)
    have hym := isLt m y (List.mem_of_getElem? y1)
    obtain ⟨dx, e1, e2⟩ := low x hxm
    obtain ⟨dy, f1, f2⟩ := low y hym
    rw [e2] at ha; cases ha
    rw [f2] at hb; cases hb
    obtain ⟨_, _, _, g1, _⟩ := facts x dx e1
    obtain ⟨_, _, _, _, g2, _⟩ := facts y dy f1
    obtain ⟨_, _, b3, _, _⟩ := cutd_facts pick dx
    obtain ⟨_, _, _, a4, a5⟩ := cutd_facts pick dy
    have hah1 := hah.1
    have hah2 := hah.2
    rw [b3] at hah2
    by_cases z : pick ≤ cEn dy
    · have := (a4 z).1; omega
    · rw [a5 z] at hah2
      omega
  · have him : i < m := Nat.lt_of_not_le fun hle => by have := high i c hle hc; omega
    obtain ⟨d, hd, hpd⟩ := low i him
    rw [hpd] at hc; cases hc
    have hnc : ¬ pick ≤ cEn d := fun z => by have := ((cutd_facts pick d).2.2.2.1 z).1; omega
    have hk : keep i = true := by
      show (match l[i]? with | some d => !(decide (pick ≤ cEn d) && (decide (cCode d = 3) || decide (cCode d = 5))) | none => false) = true
      rw [hd]; simp [hnc]
    obtain ⟨q, hq⟩ := List.mem_iff_getElem?.1 (List.mem_filter.2 ⟨List.mem_range.2 him, hk⟩ : i ∈ is m)
    exact ⟨q, iL_at.2 ⟨i, hq, rfl⟩⟩

end Go.Mx
