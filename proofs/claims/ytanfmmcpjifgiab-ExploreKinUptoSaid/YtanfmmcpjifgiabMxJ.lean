/-
  One operation, whatever it is.
-/
import Derived.Test.YtanfmmcpjifgiabMxI
set_option linter.unusedVariables false
set_option linter.unusedSimpArgs false
namespace Go.Mx

def hideI (F : List Nat) (d : Option Nat) (l : List Ent) (ρ : Slots) (β : Boxes) (h : Heap) (K : Slots → Boxes → Heap → Prop) : Prop :=
  match d with
  | some d => bif F.contains d then False else K (putS (fun t => wipe1 d (ρ t)) (some d) (.box d 0)) ((d, l) :: β) h
  | none => False

/-- A slice literal's elements, each given, in their order. -/
def elems (k : Kd) : Nat → List (Nat × TV) → Option (List (Den k))
  | _, [] => some []
  | i, (j, t) :: r => bif Nat.beq j i then (match tvVal k t, elems k (i + 1) r with
    | some x, some l => some (x :: l)
    | _, _ => none) else none

def callOk (P : Program) (f : FuncId) : Bool :=
  match P.funcs[f]? with
  | some fn => !(fn.name == "runtime.NumGoroutine") && fn.body.isSome
  | none => false

def storeI (P : Program) (F : List Nat) (T : TypeId) (a x : TV) (β : Boxes) (h : Heap) (K : Boxes → Heap → Prop) : Prop :=
  match kdOf P D T with
  | some k => match tvVal k x with
    | some y => match a with
      | .v .ptr p => deref p fun a => st k h a y fun h' => K β h'
      | .box i off => bif F.contains i then False else match look β i with
        | some l => match putBox l off (k.dis y) with
          | some m => flatOr k y (K ((i, m) :: β) h)
          | none => False
        | none => False
      | .boxi i off n sz ix => bif F.contains i then False else match look β i with
        | some l => match getBox (.arr n k) l off with
          | some f => match putBox l off [⟨.arr n k, aset (n := n) (a := k) f ix.toNat y⟩] with
            | some m => bif Nat.beq k.size sz then flatOr k y (K ((i, m) :: β) h) else False
            | none => False
          | none => False
        | none => False
      | _ => False
    | none => False
  | none => False

def appendI (P : Program) (argTypes : Array TypeId) (args : List TV) (h : Heap) (K : Sl → Heap → Prop) : Prop :=
  match argTypes[0]?, argTypes[1]?, args with
  | some T, some T', [.v .sl s, .v .sl x] => match P.underlying T, P.underlying T' with
    | some (.slice e), some (.slice _) => match kdOf P D e, P.info? e with
      | some k, some i => bif Nat.beq i.bytes 0 then False else appendM k.size i.bytes h s x K
      | _, _ => False
    | _, _ => False
  | some T, some T', [.v .sl s, .v (.int _) n] => match P.underlying T, P.underlying T' with
    | some (.slice e), some (.int _) => match kdOf P D e, P.info? e with
      | some k, some i => bif Nat.beq i.bytes 0 || Nat.beq k.size 0 then False else appendZM k i.bytes h s n K
      | _, _ => False
    | _, _ => False
  | _, _, _ => False
def copyI (P : Program) (argTypes : Array TypeId) (args : List TV) (h : Heap) (K : Int → Heap → Prop) : Prop :=
  match argTypes[0]?, args with
  | some T, [.v .sl d, .v .sl s] => match P.underlying T with
    | some (.slice e) => match kdOf P D e with
      | some k => copyM k.size h d s K
      | none => False
    | _ => False
  | _, _ => False

def makeI (P : Program) (T : TypeId) (n c : TV) (h : Heap) (K : Sl → Heap → Prop) : Prop :=
  match P.underlying T with
  | some (.slice e) => match kdOf P D e, P.info? e with
    | some k, some i => bif Nat.beq k.size 0 then False else match asInt n, asInt c with
      | some (_, n), some (_, c) => makeM k i.bytes h n c K
      | _, _ => False
    | _, _ => False
  | _ => False

def litI (P : Program) (T : TypeId) (len : Nat) (parts : List (Nat × TV)) (h : Heap) (K : Sl → Heap → Prop) : Prop :=
  match P.underlying T with
  | some (.slice e) => match kdOf P D e with
    | some k => match elems k 0 parts with
      | some xs => bif Nat.beq xs.length len && Nat.ble (len * k.size) 16777216 && k.plain && !(Nat.beq k.size 0) then new h (xs.flatMap k.cells) fun a h' => K ⟨some a, len, len⟩ h' else False
      | none => False
    | none => False
  | _ => False

def callI (P : Program) (f : FuncId) (T : TypeId) (args : List TV) (h : Heap) (K : TV → Heap → Prop) : Prop :=
  bif callOk P f then match rkOf P T with
    | some (tp, k) => match tvArgs args with
      | some vs => CallT P f vs tp k h fun x h' => K (tvRes tp k x) h'
      | none => False
    | none => False
  else False

def invI (P : Program) (name : String) (r : TV) (T : TypeId) (args : List TV) (h : Heap) (K : TV → Heap → Prop) : Prop :=
  match rkOf P T with
  | some (tp, k) => match r with
    | .v .iface u => match tvArgs args with
      | some vs => InvT P name u vs tp k h fun x h' => K (tvRes tp k x) h'
      | none => False
    | _ => False
  | none => False
def fnI (P : Program) (g : TV) (T : TypeId) (args : List TV) (h : Heap) (K : TV → Heap → Prop) : Prop :=
  match rkOf P T with
  | some (tp, k) => match g with
    | .v .fn u => match tvArgs args with
      | some vs => FnT P u vs tp k h fun x h' => K (tvRes tp k x) h'
      | none => False
    | _ => False
  | none => False

def effI (P : Program) (F : List Nat) (hid : Bool) (o : Oper) (ρ : Slots) (β : Boxes) (h : Heap) (K : Slots → Boxes → Heap → Prop) : Prop :=
  match o.op with
  | .alloc T => match kdOf P D T with
    | some k => bif hid then hideI F o.dst (k.dis k.zero) ρ β h K else new h (k.cells k.zero) fun a h' => K (putS ρ o.dst (.v .ptr (some a))) β h'
    | none => False
  | .box T x => match kdOf P D T with
    | some k => match tvVal k (ev ρ x) with
      | some y => bif k.plain then (bif hid then hideI F o.dst (k.dis y) ρ β h K else new h (k.cells y) fun a h' => K (putS ρ o.dst (.v .ptr (some a))) β h') else False
      | none => False
    | none => False
  | .store T a x => storeI P F T (ev ρ a) (ev ρ x) β h fun β' h' => K (putS ρ o.dst .junk) β' h'
  | .buildSlice T len parts => litI P T len (parts.toList.map fun p => (p.1, ev ρ p.2)) h fun s h' => K (putS ρ o.dst (.v .sl s)) β h'
  | .makeSlice T n c => makeI P T (ev ρ n) (ev ρ c) h fun s h' => K (putS ρ o.dst (.v .sl s)) β h'
  | .makeMap T none => mkMapI P T h fun b h' => K (putS ρ o.dst (.v .map (some b))) β h'
  | .mapUpdate T x i v => putI P T (ev ρ x) (ev ρ i) (ev ρ v) h fun h' => K (putS ρ o.dst .junk) β h'
  | .insert T x i v => putI P T (ev ρ x) (ev ρ i) (ev ρ v) h fun h' => K (putS ρ o.dst .junk) β h'
  | .call c => match c.callee with
    | .builtin .append => appendI P c.argTypes (c.args.toList.map (ev ρ)) h fun s h' => K (putS ρ o.dst (.v .sl s)) β h'
    | .builtin .copy => copyI P c.argTypes (c.args.toList.map (ev ρ)) h fun n h' => K (putS ρ o.dst (.v (.int .i64) n)) β h'
    | .value (.func f) => callI P f o.type (c.args.toList.map (ev ρ)) h fun v h' => K (putS ρ o.dst v) β h'
    | .value (.tmp t) => fnI P (ρ t) o.type (c.args.toList.map (ev ρ)) h fun v h' => K (putS ρ o.dst v) β h'
    | .invoke r name => invI P name (ev ρ r) o.type (c.args.toList.map (ev ρ)) h fun v h' => K (putS ρ o.dst v) β h'
    | _ => False
  | _ => False

def opI (P : Program) (n : Nat) (F : List Nat) (hid : Bool) (o : Oper) (ρ : Slots) (β : Boxes) (h : Heap) (K : Slots → Boxes → Heap → Prop) : Prop :=
  bif dstOk n o.dst then
    bif isSil o.op then silM P o.op ρ β h (fun v => K (putS ρ o.dst v) β h) else effI P F hid o ρ β h K
  else False

/-- What the machine's operation comes to. -/
abbrev OpPost (h0 : Heap) (w0 : World) (n : Nat) (F : List Nat) (Z : Nat → Prop) (d : Option Nat) (κ : Nat → Nat) (a : Act) (w : World) (K : Slots → Boxes → Heap → Prop) (a' : Act) (w' : World) : Prop :=
  ∃ κ' ρ' β' h', St h0 w0 n F Z κ' ρ' β' h' a' w' ∧ Fr d.toList F Z κ a w κ' a' w' ∧ K ρ' β' h'
abbrev NoExit : Exit → Act → World → Prop := fun _ _ _ => False

theorem wp_of_run {P : Program} {o : Oper} {a : Act} {w w' : World} {v : Value} {next : Act → World → Prop} (h : (execOp a.eval o).run P w = .ok (.value v) w') (k : next (a.put o.dst v) w') : o.wp P a w next NoExit := by
  unfold Oper.wp; rw [h]; exact k
theorem wp_of_skip {P : Program} {o : Oper} {a : Act} {w w' : World} {next : Act → World → Prop} (h : (execOp a.eval o).run P w = .ok .skip w') (k : next (a.put o.dst undef) w') : o.wp P a w next NoExit := by
  unfold Oper.wp; rw [h]; exact k

section
variable {P : Program} {h0 : Heap} {w0 : World} {n : Nat} {F : List Nat} {Z : Nat → Prop} {κ : Nat → Nat} {ρ : Slots} {β : Boxes} {h : Heap} {a : Act} {w : World} {o : Oper}
  {K : Slots → Boxes → Heap → Prop} (s : St h0 w0 n F Z κ ρ β h a w) (hd : dstOk n o.dst = true)
include s hd

theorem sil_wp (hm : silM P o.op ρ β h (fun v => K (putS ρ o.dst v) β h)) : o.wp P a w (OpPost h0 w0 n F Z o.dst κ a w K) NoExit := by
  obtain ⟨tv, u, h1, h2, h3⟩ := silM_sound hm s.evOk
  obtain ⟨q1, q2⟩ := s.step (Inv.refl s.inv.sub) hd h2
  exact wp_of_run (h3 w s.sb) ⟨κ, _, β, h, q1, q2, h1⟩

theorem hide_wp {l : List Ent} {T : TypeId} (hm : hideI F o.dst l ρ β h K)
    (hr : (execOp a.eval o).run P w = .ok (.value (.pointer (some ⟨w.heap.size, 0, none⟩))) (w.alloc (.cells (entCells l).toArray T))) : o.wp P a w (OpPost h0 w0 n F Z o.dst κ a w K) NoExit := by
  unfold hideI at hm
  split at hm
  · rename_i d e
    cases hf : F.contains d
    · rw [hf] at hm
      refine wp_of_run hr ?_
      rw [e]
      obtain ⟨κ', q1, q2⟩ := s.hide (d := d) (by rw [← e]; exact hd) hf l T
      exact ⟨κ', _, _, h, q1, q2, hm⟩
    · rw [hf] at hm; exact hm.elim
  · exact hm.elim

theorem new_wp {l : List Value} {T : TypeId} {K' : Addr → Heap → Prop} (hm : new h l K') {f : Addr → Value} {g : Addr → TV} (hg : ∀ x, Rl κ (g x) (f x)) (hK : ∀ x h', K' x h' → K (putS ρ o.dst (g x)) β h')
    (hr : (execOp a.eval o).run P w = .ok (.value (f ⟨w.heap.size, 0, none⟩)) (w.alloc (.cells l.toArray T))) : o.wp P a w (OpPost h0 w0 n F Z o.dst κ a w K) NoExit := by
  have h1 := hm w.heap.size (none_of_size s.inv.sub)
  have q := new_inv s.inv.sub l T w.drawn
  obtain ⟨q1, q2⟩ := s.step q hd (hg ⟨w.heap.size, 0, none⟩)
  exact wp_of_run hr ⟨κ, _, β, _, q1, q2, hK _ _ h1⟩

theorem step_wp {u : Value} {tv : TV} {w' : World} {h' : Heap} (hr : (execOp a.eval o).run P w = .ok (.value u) w') (hrl : Rl κ tv u) (q : Inv h w h' w') (hK : K (putS ρ o.dst tv) β h') :
    o.wp P a w (OpPost h0 w0 n F Z o.dst κ a w K) NoExit := by
  obtain ⟨q1, q2⟩ := s.step q hd hrl
  exact wp_of_run hr ⟨κ, _, β, _, q1, q2, hK⟩

theorem store_wp {T : TypeId} {A X : Operand} (ho : o.op = .store T A X) (hm : storeI P F T (ev ρ A) (ev ρ X) β h fun β' h' => K (putS ρ o.dst .junk) β' h') : o.wp P a w (OpPost h0 w0 n F Z o.dst κ a w K) NoExit := by
  have he : execOp a.eval o = (do Instr.storeAt T (a.eval A) (a.eval X); pure .skip) := by simp only [execOp, ho]
  have hA := s.evOk.ev A
  have hX := s.evOk.ev X
  unfold storeI at hm
  split at hm
  · rename_i k hk
    split at hm
    · rename_i y hy
      have ex := tvVal_spec hy hX
      split at hm
      · rename_i p h1
        rw [h1] at hA
        unfold deref at hm
        split at hm
        · rename_i ad
          obtain ⟨hc, hm⟩ := hm
          obtain ⟨hone, hm⟩ := flatOr_spec hm
          obtain ⟨c1, cs, t, c2, c3, c4⟩ := canWrite_world s.inv.sub hc
          obtain ⟨w', r1, r2⟩ := run_storeVar (P := P) hk hone c1 c3 c4
          have q : Inv h w (write h ad (k.cells y)) w' := by rw [write_eq c2]; exact r2.inv (Inv.refl s.inv.sub) c2
          obtain ⟨q1, q2⟩ := s.step (v := .junk) (u := undef) q hd trivial
          refine wp_of_skip (w' := w') ?_ ⟨κ, _, β, _, q1, q2, hm⟩
          rw [he, ex, show a.eval A = .pointer (some ad) from hA]
          simp [Instr.storeAt, Instr.sureAddr, r1]
        · exact hm.elim
      · rename_i i off h1
        rw [h1] at hA
        cases hf : F.contains i
        · rw [hf] at hm
          simp only [cond_false] at hm
          split at hm
          · rename_i l hl
            split at hm
            · rename_i m hp
              obtain ⟨hone, hm⟩ := flatOr_spec hm
              obtain ⟨p1, p2⟩ := putBox_spec hp
              obtain ⟨⟨t, b1⟩, b2, b3⟩ := s.box i l hl
              rw [Kd.dis_cells] at p1
              have hsz : entSize (k.dis y) = k.size := by rw [← entCells_len, Kd.dis_cells, Kd.cells_len]
              obtain ⟨w', r1, r2⟩ := run_storeVar (P := P) (a := ⟨κ i, off, none⟩) hk hone rfl b1 (by rw [entCells_len]; dsimp only; omega)
              rw [← p1] at r2
              obtain ⟨q1, q2⟩ := s.boxed (v := .junk) (u := undef) hd hl hf r2 trivial
              refine wp_of_skip (w' := w') ?_ ⟨κ, _, _, _, q1, q2, hm⟩
              rw [he, ex, show a.eval A = .pointer (some ⟨κ i, off, none⟩) from hA]
              simp [Instr.storeAt, Instr.sureAddr, r1]
            · exact hm.elim
          · exact hm.elim
        · rw [hf] at hm; exact hm.elim
      · rename_i i off n' sz ix h1
        rw [h1] at hA
        obtain ⟨hix, hA⟩ := hA
        cases hf : F.contains i
        · rw [hf] at hm
          simp only [cond_false] at hm
          split at hm
          · rename_i l hl
            split at hm
            · rename_i f hg
              split at hm
              · rename_i m hp
                cases hsz : Nat.beq k.size sz
                · rw [hsz] at hm; exact hm.elim
                rw [hsz] at hm
                have hsz := Nat.eq_of_beq_eq_true hsz
                obtain ⟨hone, hm⟩ := flatOr_spec hm
                obtain ⟨p1, p2⟩ := putBox_spec hp
                obtain ⟨pre, post, g1, g2⟩ := getBox_spec hg
                obtain ⟨⟨t, b1⟩, b2, b3⟩ := s.box i l hl
                have hlt : ix.toNat < n' := by omega
                have hm1 : ix.toNat * k.size + k.size ≤ n' * k.size := by
                  have : (ix.toNat + 1) * k.size ≤ n' * k.size := Nat.mul_le_mul_right _ hlt
                  rw [Nat.succ_mul] at this; exact this
                have hlen : (entCells l).length = off + n' * k.size + post.length := by rw [g1]; simp [g2, Kd.cells_len, Kd.size]; omega
                obtain ⟨w', r1, r2⟩ := run_storeVar (P := P) (a := ⟨κ i, off + ix.toNat * sz, none⟩) hk hone rfl b1 (by dsimp only; rw [hlen, ← hsz]; omega)
                have ecells : splice (entCells l) (off + ix.toNat * sz) (k.cells y) = entCells m := by
                  rw [p1]
                  simp only [entCells, Ent.cells, List.append_nil]
                  rw [g1, ← hsz]
                  have ha : Kd.cells (.arr n' k) (aset (n := n') (a := k) f ix.toNat y) = splice (Kd.cells (.arr n' k) f) (ix.toNat * k.size) (k.cells y) := by
                    have hset : List.ofFn (aset (n := n') (a := k) f ix.toNat y) = (List.ofFn f).set ix.toNat y := by
                      apply List.ext_getElem
                      · simp
                      · intro j j1 j2
                        simp only [List.getElem_ofFn, List.getElem_set, aset]
                        by_cases c : ix.toNat = j
                        · simp [c]
                        · simp [c, Ne.symm c]
                    simp only [Kd.cells]
                    rw [hset, List.set_eq_take_append_cons_drop, if_pos (by simpa using hlt)]
                    rw [List.flatMap_append, List.flatMap_cons]
                    unfold splice
                    have t1 : ∀ (m : Nat) (q : List (Den k)), (q.flatMap k.cells).take (m * k.size) = (q.take m).flatMap k.cells := by
                      intro m
                      induction m with
                      | zero => intro q; simp
                      | succ m ihm =>
                        intro q
                        cases q with
                        | nil => simp
                        | cons z q =>
                          rw [List.flatMap_cons, List.take_succ_cons, List.flatMap_cons, List.take_append, Kd.cells_len, List.take_of_length_le (by rw [Kd.cells_len, Nat.succ_mul]; omega)]
                          rw [show (m + 1) * k.size - k.size = m * k.size from by rw [Nat.succ_mul]; omega, ihm]
                    have t2 : ∀ (m : Nat) (q : List (Den k)), (q.flatMap k.cells).drop (m * k.size) = (q.drop m).flatMap k.cells := by
                      intro m
                      induction m with
                      | zero => intro q; simp
                      | succ m ihm =>
                        intro q
                        cases q with
                        | nil => simp
                        | cons z q =>
                          rw [List.flatMap_cons, List.drop_succ_cons, List.drop_append, Kd.cells_len, List.drop_of_length_le (by rw [Kd.cells_len, Nat.succ_mul]; omega)]
                          rw [show (m + 1) * k.size - k.size = m * k.size from by rw [Nat.succ_mul]; omega, ihm]
                          rfl
                    rw [t1, show ix.toNat * k.size + (k.cells y).length = (ix.toNat + 1) * k.size from by rw [Kd.cells_len, Nat.succ_mul], t2]
                    simp
                  rw [ha]
                  unfold splice
                  have l1 : (Kd.cells (.arr n' k) f).length = n' * k.size := Kd.cells_len _ _
                  have l2 : (k.cells y).length = k.size := Kd.cells_len _ _
                  simp only [List.length_append, List.length_take, List.length_drop, l1, l2]
                  rw [List.append_assoc pre, List.take_append, List.take_append, List.drop_append, List.drop_append, List.take_append, List.drop_append, List.drop_append, List.take_of_length_le (l := pre) (by omega), List.drop_of_length_le (l := pre) (by omega),
                    List.take_of_length_le (l := pre) (by omega), List.drop_of_length_le (l := pre) (by omega)]
                  simp only [g2, l1]
                  rw [show off + ix.toNat * k.size - off = ix.toNat * k.size from by omega, show off - off = 0 from by omega,
                    show off + ix.toNat * k.size + k.size - off = ix.toNat * k.size + k.size from by omega,
                    show ix.toNat * k.size - n' * k.size = 0 from by omega, show ix.toNat * k.size + k.size - n' * k.size = 0 from by omega]
                  have e3 : min (ix.toNat * k.size) (n' * k.size) + k.size + (n' * k.size - (ix.toNat * k.size + k.size)) = n' * k.size := by omega
                  rw [e3, show off + n' * k.size - off = n' * k.size from by omega]
                  rw [List.drop_of_length_le (l := Kd.cells (.arr n' k) f) (i := n' * k.size) (by omega)]
                  simp
                rw [ecells] at r2
                obtain ⟨q1, q2⟩ := s.boxed (v := .junk) (u := undef) hd hl hf r2 trivial
                refine wp_of_skip (w' := w') ?_ ⟨κ, _, _, _, q1, q2, hm⟩
                rw [he, ex, hA]
                simp [Instr.storeAt, Instr.sureAddr, r1]
              · exact hm.elim
            · exact hm.elim
          · exact hm.elim
        · rw [hf] at hm; exact hm.elim
      · exact hm.elim
    · exact hm.elim
  · exact hm.elim
end

end Go.Mx
