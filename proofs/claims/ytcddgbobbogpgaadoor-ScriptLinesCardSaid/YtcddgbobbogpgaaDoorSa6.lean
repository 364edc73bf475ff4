/- PARTS, JOINED: SCRIPTS: the readers, each. Conditions: words that fit. SCRIPTS: the readers of a block and of numbers. Conditions: words that fit. SCRIPTS: the readers of numbers. Conditions: words that fit. SCRIPTS: Read. Conditions: a text that fits; the shape of bytealg.MaxLen. SCRIPTS: the laws' own trial (alive). Conditions: internal/bytealg.MaxLen holds an int. SCRIPTS: what an event of a kind may have (the document's). Conditions: one of the six kinds. SCRIPTS: are two events the same? (the document's) Conditions: none. -/
import Derived.Test.YtcddgbobbogpgaaDoorSa1
import Derived.Test.YtcddgbobbogpgaaDoorSa2
import Derived.Test.YtcddgbobbogpgaaDoorSa3
import Derived.Test.YtcddgbobbogpgaaDoorSa4
import Derived.Test.YtcddgbobbogpgaaDoorSa5
namespace Go.Proofs.YtcddgbobbogpgaaDoor.Scr
open Go.RowKit Go.Mir Go.Mir.Hx Go.Mir.Parts HexW Rpl

theorem sl_turn {w w' : World} {S : Nat → Prop} {p : Option Addr} {n c size : Nat} {vs : List Value} (h : Sl w p n c size vs) (ht : Turns S w w') (hne : ∀ a, p = some a → ¬ S a.block) : Sl w' p n c size vs :=
  ⟨h.len, h.le, h.max, h.nil0, fun a ha j u hu => ht.cell (h.cell a ha j u hu) (by rw [addr_add_block]; exact hne a ha)⟩
theorem is_turn {w w' : World} {S : Nat → Prop} {p : Option Addr} {n c size : Nat} {l : List (List UInt8)} (h : Is w p n c size l) (ht : Turns S w w') (hne : ∀ a, p = some a → ¬ S a.block) : Is w' p n c size l := ⟨sl_turn h.sl ht hne, h.each, h.count⟩
/-- what a reader finds -/
structure CE (rb g : Nat) (w : World) : Prop where
  box : w.heap[rb]? = some (.cells #[.pointer (some ⟨g, 0, none⟩)] 81 (0, 0))
  row : w.heap[g]? = some (.cells (evA (Ev.zero 0) none 0 none 0) 31 (0, 0))
theorem CE.below {rb g : Nat} {w w' : World} (h : CE rb g w) (hb : Below w.heap.size w w') : CE rb g w' := ⟨Below.keepOld hb h.box, Below.keepOld hb h.row⟩
theorem CE.ptr {rb g : Nat} {w : World} (h : CE rb g w) : w.cell? ⟨rb, 0, none⟩ = some (.pointer (some ⟨g, 0, none⟩)) := by rw [cell_of_row _ _ _ _ _ _ h.box]; rfl
theorem CE.lt {rb g : Nat} {w : World} (h : CE rb g w) : g < w.heap.size := (Array.getElem?_eq_some_iff.1 h.row).1
theorem CE.ew {rb g : Nat} {w w' : World} (h : CE rb g w) (hb : Below w.heap.size w w') : EW w g 31 (Ev.zero 0) none 0 none 0 w' := ⟨Below.keepOld hb h.row, zero_wf zero_i64, Turns.of_below hb⟩
theorem no_ap (n : Nat) : ∀ a, (none : Option Addr) = some a → n ≤ a.block := fun _ h => nomatch h
def ClP (g k : Nat) (r : List (List UInt8)) (w : World) (x : Ending) (w' : World) : Prop := Turns (fun j => j = g) w w' ∧
  ((∃ ev pb cb q c, readK k r = some ev ∧ ((∀ a, pb = some a → w.heap.size ≤ a.block) ∧ ∀ a, q = some a → w.heap.size ≤ a.block) ∧ x = .returned (.bool true) ∧ w'.heap[g]? = some (.cells (evA { ev with k := 0 } pb cb q c) 31 (0, 0)) ∧ EvAt w' { ev with k := 0 } pb cb q c) ∨ (readK k r = none ∧ x = .returned (.bool false)))
theorem len_facts (r : List (List UInt8)) (m : Nat) : (r.length = m → ((r.length : Int) == (m : Int)) = true ∧ ((r.length : Int) != (m : Int)) = false ∧ (r.length == m) = true ∧ (r.length != m) = false) ∧ (¬ r.length = m → ((r.length : Int) == (m : Int)) = false ∧ ((r.length : Int) != (m : Int)) = true ∧ (r.length == m) = false ∧ (r.length != m) = true) := by
  refine ⟨fun h => ⟨beq_iff_eq.2 (by omega), by rw [bne_eq_false_iff_eq]; omega, beq_iff_eq.2 h, by rw [bne_eq_false_iff_eq]; exact h⟩, fun h => ⟨beq_eq_false_iff_ne.2 (by omega), bne_iff_ne.2 (by omega), beq_eq_false_iff_ne.2 h, bne_iff_ne.2 h⟩⟩
theorem rk1 (s : List UInt8) : readK 1 [s] = (bytesL s).map (fun b => ⟨1, b, zeros, zeros, [], zeros, 0, 0, 0, 0⟩) := by
  unfold readK
  rw [if_pos rfl, if_pos (show [s].length = 1 from rfl)]; rfl
theorem len1 {r : List (List UInt8)} (h : r.length = 1) : ∃ s, r = [s] := List.length_eq_one_iff.1 h
set_option maxRecDepth 100000 in
set_option maxHeartbeats 1600000 in
theorem clo_frame (rb g : Nat) (q : Option Addr) (n c : Nat) (r : List (List UInt8)) (w : World) (h : CE rb g w) (hW : Ws w q n c r) (hl : ∀ x ∈ r, x.length ≤ 1099511627776) :
    Calls Tryd.prog 54 #[.slice q n c, .pointer (some ⟨rb, 0, none⟩)] w (ClP g 1 r w) := by
  have H := Lib.hid h
  have HW := Lib.hid hW
  have HLL := Lib.hid hl
  obtain rfl : r.length = n := hW.length
  have hle := hW.le
  have hmax := hW.max
  clear h hW hl
  by_cases h1 : r.length = 1
  rotate_left
  · obtain ⟨q1, q2, q3, q4⟩ := (len_facts r 1).2 h1
    have HNO : Hid (readK 1 r = none) := by show _ = _; unfold readK; rw [if_pos rfl, if_neg h1]
    clear h1
    go_enter Tryd.func54, Tryd.ntmps54
    go_wp2_with fail
    go_ret
    exact ⟨Turns.refl _ _, .inr ⟨HNO.out, rfl⟩⟩
  obtain ⟨s, rfl⟩ := len1 h1
  have hle : 1 ≤ c := hle
  obtain ⟨b, o, rfl⟩ := HW.out.addr (by show 0 < 1; omega) (by omega)
  have hcx : w.cell? ⟨b, o, none⟩ = some (.string (S s)) := HW.out.str (j := 0) (by show 0 < 1; omega)
  have HBY := Lib.hid (bytes_any s w (HLL.out s (by simp)))
  clear h1
  go_enter Tryd.func54, Tryd.ntmps54
  go_wp2_with fail
  refine HBY.out.mono ?_
  rintro x w2 ⟨hb, hcase⟩
  have HB := Lib.hid hb
  have HEW := Lib.hid (H.out.ew hb)
  have hp := (H.out.below hb).ptr
  have hfz : ∀ j, w2.frozen? ⟨g, j, none⟩ = false := fun j => HEW.out.frozen j
  have hE1 : w2.cell? ⟨g, 1, none⟩ = some (.slice none 0 0) := HEW.out.cells.b
  have HLT := Lib.hid H.out.lt
  clear hb hcx HBY
  rcases hcase with ⟨y, p, cc, hy, rfl, hbs, hap⟩ | ⟨hy, rfl⟩
  · have HEX := Lib.hid (HEW.out.bytes y p cc)
    have HY := Lib.hid hy
    have HBS := Lib.hid hbs
    have HAP := Lib.hid hap
    clear hy hbs hap
    go_wp2_with fail
    go_ret
    refine ⟨HEX.out.turn, .inl ⟨⟨1, y, zeros, zeros, [], zeros, 0, 0, 0, 0⟩, p, cc, none, 0, ?_, ⟨HAP.out, no_ap _⟩, rfl, HEX.out.row, HEX.out.wf, ?_, Is.nil _ _⟩⟩
    · rw [rk1, HY.out]; rfl
    · exact sl_turn HBS.out ((Turns.refl (fun j => j = g) w2).setCell (p := ⟨g, 1, none⟩) (fun _ => rfl) _) (fun a ha hg => by have := HAP.out a ha; have := HLT.out; have hg : a.block = g := hg; omega)
  · have HEX := Lib.hid (HEW.out.bytes [] none 0)
    have HY := Lib.hid hy
    clear hy
    go_wp2_with fail
    go_ret
    refine ⟨HEX.out.turn, .inr ⟨?_, rfl⟩⟩
    rw [rk1, HY.out]; rfl
set_option maxRecDepth 100000 in
set_option maxHeartbeats 1600000 in
theorem clo_one (rb g k : Nat) (hk : k = 3 ∨ k = 4) (q : Option Addr) (n c : Nat) (r : List (List UInt8)) (w : World) (h : CE rb g w) (hW : Ws w q n c r) (hn : n ≤ 1000000) (hl : ∀ x ∈ r, x.length ≤ 1099511627776) :
    Calls Tryd.prog 52 #[.slice q n c, .pointer (some ⟨rb, 0, none⟩)] w (ClP g k r w) := by
  have H := Lib.hid h
  have HID := Lib.hid (ids_any q n c r w hW hn hl)
  have HRK : Hid (readK k r = (idsB r).bind fun l => if l.length = 1 then some ⟨(k : Int), [], zeros, zeros, [], l.getD 0 [], 0, 0, 0, 0⟩ else none) := by
    show _ = _
    unfold readK
    rw [if_neg (by omega), if_neg (by omega), if_pos hk]
  clear h hW hn hl
  go_enter Tryd.func52, Tryd.ntmps52
  go_wp2_with fail
  refine HID.out.mono ?_
  rintro x w2 ⟨hb, hcase⟩
  have HB := Lib.hid hb
  have HLT := Lib.hid H.out.lt
  rcases hcase with ⟨l, p, cc, hl, rfl, his, hap⟩ | ⟨hl, rfl⟩
  rotate_left
  · have HNO : Hid (readK k r = none) := by show _ = _; rw [HRK.out, hl]; rfl
    clear hl hb
    go_wp2_with fail
    go_ret
    exact ⟨Turns.of_below HB.out, .inr ⟨HNO.out, rfl⟩⟩
  by_cases h1 : l.length = 1
  rotate_left
  · obtain ⟨q1, q2, q3, q4⟩ := (len_facts l 1).2 h1
    have HNO : Hid (readK k r = none) := by show _ = _; rw [HRK.out, hl]; show (if l.length = 1 then _ else _) = _; rw [if_neg h1]
    clear hl hb h1 his
    go_wp2_with fail
    go_ret
    exact ⟨Turns.of_below HB.out, .inr ⟨HNO.out, rfl⟩⟩
  obtain ⟨q1, q2, q3, q4⟩ := (len_facts l 1).1 h1
  obtain ⟨z, rfl⟩ := len1 h1
  have hcc := his.sl.le
  have hcm := his.sl.max
  obtain ⟨b, o, rfl⟩ := his.sl.addr (by show 0 < 1; omega) (by omega)
  have HRZ := Lib.hid (his.range (by omega) 0 (by show 0 < 1; omega))
  have HZL : Hid (z.length = 32) := his.each z (by simp)
  have HYES : Hid (readK k r = some ⟨(k : Int), [], zeros, zeros, [], z, 0, 0, 0, 0⟩) := by show _ = _; rw [HRK.out, hl]; rfl
  have HNE : Hid (rb ≠ g) := fun e => by
    have h1 := H.out.box
    rw [e, H.out.row] at h1
    injection h1 with e1
    injection e1 with _ e2
    exact absurd e2 (by decide)
  have HBG : Hid (b ≠ g) := fun e => by have h1 : w.heap.size ≤ b := hap _ rfl; have := HLT.out; omega
  have hbx := (H.out.below hb).box
  have HP0 : Hid (∀ w', Turns (fun j => j = g) w2 w' → w'.cell? ⟨rb, 0, none⟩ = some (.pointer (some ⟨g, 0, none⟩))) := fun w' ht => by rw [cell_of_row _ _ _ _ _ _ (ht.keep hbx HNE.out)]; rfl
  have HRG : Hid (∀ w', Turns (fun j => j = g) w2 w' → w'.rangeAt b o (idA z).toList) := fun w' ht j v hv => by
    have := HRZ.out j v hv
    rw [Nat.zero_mul, Nat.add_zero] at this
    exact ht.cell this HBG.out
  have HEW : Hid (EW w g 31 (Ev.zero 0) none 0 none 0 w2.drew) := H.out.ew (hb.trans ((below_drew1 w2.heap.size w2).mono hb.size))
  have HTH := Lib.hid (HEW.out.there 67 32 (by omega))
  have HEX := Lib.hid (HEW.out.ident z HZL.out)
  clear hl hb h1 his hap HID HRK hbx
  go_upto_region 3 with fail
  refine wp_region_tree (fun w' => Turns (fun j => j = g) w2 w') (.take 0 (.take 1 (.take 2 (.take 3 (.take 4 (.take 5 (.one 6 .nil))))))) (by kernel_rfl) (by kernel_rfl) (Turns.of_below (below_drew1 _ _)) ?_
  have ht0 : Turns (fun j => j = g) w2 w2.drew := Turns.of_below (below_drew1 _ _)
  repeat (first
    | (refine tree_load rfl (by rfl) 25 _ rfl b o rfl (idA z) _ (fun w' hb => HRG.out w' hb) Tryd.underlying25 rfl (infoId _ (by rw [idA_size, HZL.out])) ?_; try simp only [Act.put, List.setIfInBounds_toArray, List.set_cons_zero, List.set_cons_succ])
    | (apply tree_take; (· rfl); (· rfl); (· (intro w' hb'; go_simp; try with_reducible rfl)); try simp only [Act.put, List.setIfInBounds_toArray, List.set_cons_zero, List.set_cons_succ])
    | (apply tree_take; (· rfl); (· rfl); (· (intro w' hb'; have hk' := (HP0.out) w' hb'; go_simp; try with_reducible rfl)); try simp only [Act.put, List.setIfInBounds_toArray, List.set_cons_zero, List.set_cons_succ]))
  refine tree_one rfl (by rfl) (fun K hK => oper_of_list rfl ?_)
  refine wpList_store_mid rfl 25 _ _ rfl g 67 (idA z) rfl rfl (by rw [idA_size, HZL.out]; exact HTH.out) (infoId _ (by rw [idA_size, HZL.out])) (idA_one _) ?_
  refine only_end (Shut.out hK _ _ (turns_setCells (S := fun j => j = g) rfl _ _ _ ht0) ?_)
  clear hK K ht0 HP0 HRG
  try simp only [Act.put]
  refine tree_nil ?_
  go_wp2_with fail
  go_ret
  exact ⟨HEX.out.turn, .inl ⟨_, none, 0, none, 0, HYES.out, ⟨no_ap _, no_ap _⟩, rfl, HEX.out.row, HEX.out.wf, Sl.nil _ _, Is.nil _ _⟩⟩
end Go.Proofs.YtcddgbobbogpgaaDoor.Scr

namespace Go.Proofs.YtcddgbobbogpgaaDoor.Scr
open Go.RowKit Go.Mir Go.Mir.Hx Go.Mir.Parts HexW Rpl

theorem flat_drop : ∀ (ids : List (List UInt8)) (k : Nat), (∀ x ∈ ids, x.length = 32) → (ids.flatMap bytesV).drop (k * 32) = (ids.drop k).flatMap bytesV
  | [], k, _ => by simp
  | x :: r, 0, _ => by simp
  | x :: r, k + 1, h => by
    have hx : (bytesV x).length = 32 := by rw [bytesV_length]; exact h x (by simp)
    rw [List.flatMap_cons, List.drop_append, List.drop_of_length_le (by rw [hx]; omega), List.nil_append, hx, show (k + 1) * 32 - 32 = k * 32 by omega, flat_drop r k (fun y hy => h y (List.mem_cons_of_mem _ hy))]
    rfl
def cutI (p : Option Addr) (c k : Nat) : Option Addr := if c = k then p else p.map (·.add (k * 32))
theorem is_drop {w : World} {p : Option Addr} {L c : Nat} {ids : List (List UInt8)} (h : Is w p L c 32 ids) (k : Nat) (hk : k ≤ L) : Is w (cutI p c k) (L - k) (c - k) 32 (ids.drop k) := by
  have hle := h.sl.le
  have hmax := h.sl.max
  have hl := h.count
  have he : ∀ x ∈ ids.drop k, x.length = 32 := fun x hx => h.each x (List.mem_of_mem_drop hx)
  refine ⟨?_, he, by rw [List.length_drop]; omega⟩
  have hfl : ∀ l : List (List UInt8), (∀ x ∈ l, x.length = 32) → (l.flatMap bytesV).length = l.length * 32 := by
    intro l
    induction l with
    | nil => intro _; rfl
    | cons x r ih =>
      intro hx
      rw [List.flatMap_cons, List.length_append, bytesV_length, hx x (by simp), ih (fun y hy => hx y (List.mem_cons_of_mem _ hy)), List.length_cons]
      omega
  unfold cutI
  by_cases hc : c = k
  · have hm : L - k = 0 := by omega
    rw [if_pos hc, hm, hc, Nat.sub_self, List.drop_of_length_le (by omega)]
    exact ⟨by simp, Nat.le_refl _, by omega, fun _ => rfl, fun a ha j u hu => by simp at hu⟩
  · rw [if_neg hc]
    refine ⟨by rw [hfl _ he, List.length_drop]; omega, by omega, by omega, fun hq => ?_, fun a ha j u hu => ?_⟩
    · cases p with
      | none => have := h.sl.nil0 rfl; omega
      | some a => cases hq
    · cases p with
      | none => cases ha
      | some a0 =>
        obtain rfl := Option.some.inj ha
        have h1 : (ids.flatMap bytesV)[k * 32 + j]? = some u := by
          rw [← List.getElem?_drop, flat_drop ids k h.each]; exact hu
        have hj : k * 32 + j < (ids.flatMap bytesV).length := (List.getElem?_eq_some_iff.1 h1).1
        obtain ⟨b, o, hbo⟩ := h.sl.addr (by rw [hfl ids h.each] at hj; omega) (by omega)
        obtain rfl := Option.some.inj hbo
        have h2 := h.sl.cell _ rfl (k * 32 + j) u h1
        rw [add_none] at h2
        show w.cell? (((⟨b, o, none⟩ : Addr).add (k * 32)).add j) = some u
        rw [add_none, add_none, Nat.add_assoc]
        exact h2
theorem cutIR {w : World} {p : Option Addr} {L c : Nat} {ids : List (List UInt8)} (h : Is w p L c 32 ids) (k : Nat) (lo : Int) (hlo : lo = (k : Int)) (hk : k ≤ L) :
    ∀ w0, (Instr.sliceAt 26 (.slice p L c) (some (.int .i64 lo)) none none).run Tryd.prog w0 = .ok (.slice (cutI p c k) (L - k) (c - k)) w0 := by
  subst hlo
  have hle := h.sl.le
  have hmax := h.sl.max
  have hsz : (Tryd.prog.info? 25).map (·.size) = some 32 := by kernel_rfl
  obtain ⟨i, hi, hi1⟩ := Option.map_eq_some_iff.1 hsz
  intro w0
  have hb1 : (0 : Int) ≤ (L : Int) ∧ (L : Int) ≤ (c : Int) := by omega
  have hb3 : (0 : Int) ≤ (k : Int) ∧ (k : Int) ≤ (L : Int) := by omega
  simp [Instr.sliceAt, Instr.slice, cutI, run_underlying Tryd.underlying26, Instr.sliceBounds, Instr.sliceBound, asIntOf, sizeOf, typeInfo, hi, hi1, hb3]
  try omega
theorem tree_build {P : Program} {ops : Array Oper} {S : World → Prop} {Q : Exit → Act → World → Prop} {l : List Oper} {i : Nat} {r : Tr} {a : Act} {w : World} {op : Oper} (hn : nthO l i = some op) (hw : Region.wanted op (yielded ops a.tmps) = true) (t : TypeId) (parts : Array (Nat × Operand)) (ho : op.op = .build t parts)
    (vals : List (Nat × Value)) (hv : (parts.toList.map fun p => (p.1, a.eval p.2)) = vals) (cells : Array Value) (hb : P.built t vals = some cells) (h : wpTree P ops S Q l r (a.put op.dst (.agg cells)) w) : wpTree P ops S Q l (.take i r) a w := by
  refine tree_take hn hw (fun w' _ => ?_) h
  unfold execOp
  have hb' : P.built t (parts.map fun p => (p.1, a.eval p.2)).toList = some cells := by rw [Array.toList_map, hv]; exact hb
  simp only [ho, Sem.run_bind, Sem.run_pure, Result.andThen_ok, run_build w' t _ cells hb']
set_option maxRecDepth 100000 in
set_option maxHeartbeats 3200000 in
theorem clo_connect (rb g : Nat) (q : Option Addr) (n c : Nat) (r : List (List UInt8)) (w : World) (h : CE rb g w) (hW : Ws w q n c r) (hn : n ≤ 1000000) (hl : ∀ x ∈ r, x.length ≤ 1099511627776) :
    Calls Tryd.prog 56 #[.slice q n c, .pointer (some ⟨rb, 0, none⟩)] w (ClP g 2 r w) := by
  have H := Lib.hid h
  have HID := Lib.hid (ids_any q n c r w hW hn hl)
  have HRK : Hid (readK 2 r = (idsB r).bind fun l => if 2 ≤ l.length then some ⟨2, [], l.getD 0 [], l.getD 1 [], l.drop 2, zeros, 0, 0, 0, 0⟩ else none) := by
    show _ = _
    unfold readK
    rw [if_neg (by omega), if_pos rfl]
  clear h hW hn hl
  go_enter Tryd.func56, Tryd.ntmps56
  go_wp2_with fail
  refine HID.out.mono ?_
  rintro x w2 ⟨hb, hcase⟩
  have HB := Lib.hid hb
  have HLT := Lib.hid H.out.lt
  rcases hcase with ⟨l, p, cc, hl, rfl, his, hap⟩ | ⟨hl, rfl⟩
  rotate_left
  · have HNO : Hid (readK 2 r = none) := by show _ = _; rw [HRK.out, hl]; rfl
    clear hl hb
    go_wp2_with fail
    go_ret
    exact ⟨Turns.of_below HB.out, .inr ⟨HNO.out, rfl⟩⟩
  by_cases h1 : 2 ≤ l.length
  rotate_left
  · have q1 : decide ((l.length : Int) < 2) = true := decide_eq_true (by omega)
    have q2 : decide (l.length < 2) = true := decide_eq_true (by omega)
    have HNO : Hid (readK 2 r = none) := by show _ = _; rw [HRK.out, hl]; show (if 2 ≤ l.length then _ else _) = _; rw [if_neg h1]
    clear hl hb h1 his
    go_wp2_with fail
    go_ret
    exact ⟨Turns.of_below HB.out, .inr ⟨HNO.out, rfl⟩⟩
  have q1 : decide ((l.length : Int) < 2) = false := decide_eq_false (by omega)
  have q2 : decide (l.length < 2) = false := decide_eq_false (by omega)
  obtain ⟨z0, z1, zs, rfl⟩ : ∃ z0 z1 zs, l = z0 :: z1 :: zs := by
    match l, h1 with
    | a :: b :: t, _ => exact ⟨a, b, t, rfl⟩
  have hcc := his.sl.le
  have hcm := his.sl.max
  obtain ⟨b, o, rfl⟩ := his.sl.addr (by simp) (by omega)
  have HR0 := Lib.hid (his.range (by omega) 0 (by simp))
  have HR1 := Lib.hid (his.range (by omega) 1 (by simp))
  have HL0 : Hid (z0.length = 32) := his.each z0 (by simp)
  have HL1 : Hid (z1.length = 32) := his.each z1 (by simp)
  have HTX : Hid (∀ x ∈ zs, x.length = 32) := fun x hx => his.each x (List.mem_cons_of_mem _ (List.mem_cons_of_mem _ hx))
  obtain ⟨NL, hNL⟩ : ∃ NL, (z0 :: z1 :: zs).length = NL := ⟨_, rfl⟩
  have hcut := cutIR his 2 2 rfl h1
  have HDR := Lib.hid (is_drop his 2 h1)
  have HYES : Hid (readK 2 r = some ⟨2, [], z0, z1, zs, zeros, 0, 0, 0, 0⟩) := by
    show _ = _
    rw [HRK.out, hl]
    show (if 2 ≤ (z0 :: z1 :: zs).length then some (Ev.mk 2 [] z0 z1 zs zeros 0 0 0 0) else none) = _
    rw [if_pos h1]
  have HZN : Hid (NL - 2 = zs.length) := by show _ = _; rw [← hNL]; simp
  rw [hNL] at hcut HDR hcc h1 q1 q2 ⊢
  have h2i : (2 : Int) ≤ (NL : Int) := by omega
  have h0i : (0 : Int) < (NL : Int) := by omega
  have h1i : (1 : Int) < (NL : Int) := by omega
  have h0n : 0 < NL := by omega
  have h1n : 1 < NL := by omega
  have HNE : Hid (rb ≠ g) := fun e => by
    have h1 := H.out.box
    rw [e, H.out.row] at h1
    injection h1 with e1
    injection e1 with _ e2
    exact absurd e2 (by decide)
  have HBL : Hid (w.heap.size ≤ b) := hap _ rfl
  have HBG : Hid (b ≠ g) := fun e => by have h1 : w.heap.size ≤ b := hap _ rfl; have := HLT.out; omega
  have hbx := (H.out.below hb).box
  have HP0 : Hid (∀ w', Turns (fun j => j = g) w2 w' → w'.cell? ⟨rb, 0, none⟩ = some (.pointer (some ⟨g, 0, none⟩))) := fun w' ht => by rw [cell_of_row _ _ _ _ _ _ (ht.keep hbx HNE.out)]; rfl
  have HRG0 : Hid (∀ w', Turns (fun j => j = g) w2 w' → w'.rangeAt b o (idA z0).toList) := fun w' ht j v hv => by
    have := HR0.out j v hv
    rw [Nat.zero_mul, Nat.add_zero] at this
    exact ht.cell this HBG.out
  have HRG1 : Hid (∀ w', Turns (fun j => j = g) w2 w' → w'.rangeAt b (o + 32) (idA z1).toList) := fun w' ht j v hv => by
    have := HR1.out j v hv
    rw [Nat.one_mul] at this
    exact ht.cell this HBG.out
  have HEW : Hid (EW w g 31 (Ev.zero 0) none 0 none 0 w2.drew) := H.out.ew (hb.trans ((below_drew1 w2.heap.size w2).mono hb.size))
  have HTH := Lib.hid (HEW.out.there 2 65 (by omega))
  have HEX := Lib.hid (HEW.out.block z0 z1 zs HL0.out HL1.out HTX.out (cutI (some ⟨b, o, none⟩) cc 2) (cc - 2))
  have HBU := Lib.hid (built_blk z0 z1 (cutI (some ⟨b, o, none⟩) cc 2) zs.length (cc - 2) HL0.out HL1.out)
  have HBS : Hid ((blkA z0 z1 (cutI (some ⟨b, o, none⟩) cc 2) zs.length (cc - 2)).size = 65) := blkA_size HL0.out HL1.out _ _ _
  rw [HZN.out] at hcut HDR
  clear hl hb his hap HID HRK hbx hNL
  go_upto_region 4 with fail
  refine wp_region_tree (fun w' => Turns (fun j => j = g) w2 w') (.take 0 (.take 1 (.take 2 (.take 3 (.take 4 (.take 5 (.take 6 (.take 7 (.take 8 (.take 9 (.take 10 (.take 11 (.one 12 .nil))))))))))))) (by kernel_rfl) (by kernel_rfl) (Turns.of_below (below_drew1 _ _)) ?_
  have ht0 : Turns (fun j => j = g) w2 w2.drew := Turns.of_below (below_drew1 _ _)
  repeat (first
    | (refine tree_load rfl (by rfl) 25 _ rfl b o rfl (idA z0) _ (fun w' hb => HRG0.out w' hb) Tryd.underlying25 rfl (infoId _ (by rw [idA_size, HL0.out])) ?_; try simp only [Act.put, List.setIfInBounds_toArray, List.set_cons_zero, List.set_cons_succ])
    | (refine tree_load rfl (by rfl) 25 _ rfl b (o + 32) rfl (idA z1) _ (fun w' hb => HRG1.out w' hb) Tryd.underlying25 rfl (infoId _ (by rw [idA_size, HL1.out])) ?_; try simp only [Act.put, List.setIfInBounds_toArray, List.set_cons_zero, List.set_cons_succ])
    | (refine tree_build rfl (by rfl) 28 _ rfl [(0, .agg (idA z0)), (1, .agg (idA z1)), (2, .slice (cutI (some ⟨b, o, none⟩) cc 2) zs.length (cc - 2))] rfl _ HBU.out ?_; try simp only [Act.put, List.setIfInBounds_toArray, List.set_cons_zero, List.set_cons_succ])
    | (apply tree_take; (· rfl); (· rfl); (· (intro w' hb'; go_simp; try with_reducible rfl)); try simp only [Act.put, List.setIfInBounds_toArray, List.set_cons_zero, List.set_cons_succ])
    | (apply tree_take; (· rfl); (· rfl); (· (intro w' hb'; have hk' := (HP0.out) w' hb'; go_simp; try with_reducible rfl)); try simp only [Act.put, List.setIfInBounds_toArray, List.set_cons_zero, List.set_cons_succ]))
  refine tree_one rfl (by rfl) (fun K hK => oper_of_list rfl ?_)
  refine wpList_store_mid rfl 28 _ _ rfl g 2 (blkA z0 z1 (cutI (some ⟨b, o, none⟩) cc 2) zs.length (cc - 2)) rfl rfl (by rw [HBS.out]; exact HTH.out) (infoBl _ HBS.out) (blkA_one _ _ _ _ _) ?_
  have ht1 := turns_setCells (S := fun j => j = g) rfl (blkA z0 z1 (cutI (some ⟨b, o, none⟩) cc 2) zs.length (cc - 2)).toList 2 _ ht0
  refine only_end (Shut.out hK _ _ ht1 ?_)
  clear hK K ht0 HP0 HRG0 HRG1
  try simp only [Act.put]
  refine tree_nil ?_
  have HAQ : Hid (∀ a, cutI (some ⟨b, o, none⟩) cc 2 = some a → a.block = b) := fun a ha => by
    unfold cutI at ha
    split at ha
    · obtain rfl := Option.some.inj ha; rfl
    · obtain rfl := Option.some.inj ha
      exact addr_add_block (⟨b, o, none⟩ : Addr) (2 * 32)
  have HIT := Lib.hid (is_turn HDR.out ht1 (fun a ha hg => HBG.out ((HAQ.out a ha).symm.trans hg)))
  clear ht1
  go_wp2_with fail
  go_ret
  exact ⟨HEX.out.turn, .inl ⟨_, none, 0, _, _, HYES.out, ⟨no_ap _, fun a ha => by rw [HAQ.out a ha]; exact HBL.out⟩, rfl, HEX.out.row, HEX.out.wf, Sl.nil _ _, HIT.out⟩⟩
end Go.Proofs.YtcddgbobbogpgaaDoor.Scr

namespace Go.Proofs.YtcddgbobbogpgaaDoor.Scr
open Go.RowKit Go.Mir Go.Mir.Hx Go.Mir.Parts HexW Rpl

theorem ptrs_sl (w : World) (g : Nat) (t : TypeId) (os : List Nat) (hl : os.length ≤ 1000) : Sl (w.alloc (.cells (ptrsV g os).toArray t)) (some ⟨w.heap.size, 0, none⟩) os.length os.length 1 (ptrsV g os) :=
  ⟨by simp [ptrsV], Nat.le_refl _, by omega, fun h => (by cases h), fun a ha j u hu => by
    obtain rfl := Option.some.inj ha
    rw [add_none, Nat.zero_add, cell_of_row _ _ _ _ _ _ (heap_alloc_last _ _), ← Array.getElem?_toList]
    exact hu⟩
theorem CE.ne {rb g : Nat} {w : World} (H : CE rb g w) : rb ≠ g := fun e => by
  have h1 := H.box
  rw [e, H.row] at h1
  injection h1 with e1
  injection e1 with _ e2
  exact absurd e2 (by decide)
theorem putsE1 (v : Nat) : puts (evA (Ev.zero 0) none 0 none 0) [99] [v] = evA { Ev.zero 0 with n := (v : Int) } none 0 none 0 := eset_n (zero_wf zero_i64) none 0 none 0 (v : Int)
theorem putsE4 (a b c d : Nat) (ha : i64B (a : Int)) (hb : i64B (b : Int)) (hc : i64B (c : Int)) (_hd : i64B (d : Int)) : puts (evA (Ev.zero 0) none 0 none 0) [99, 100, 101, 102] [a, b, c, d] = evA { Ev.zero 0 with n := (a : Int), u0 := (b : Int), u1 := (c : Int), u2 := (d : Int) } none 0 none 0 := by
  have z := zero_wf zero_i64
  unfold puts puts puts puts puts
  rw [eset_n z]
  have w1 : Ev.Wf { Ev.zero 0 with n := (a : Int) } := ⟨z.h, z.p, z.id, z.tx, z.k, ha, z.u0, z.u1, z.u2⟩
  rw [eset_u0 w1]
  have w2 : Ev.Wf { Ev.zero 0 with n := (a : Int), u0 := (b : Int) } := ⟨z.h, z.p, z.id, z.tx, z.k, ha, hb, z.u1, z.u2⟩
  rw [eset_u1 w2]
  have w3 : Ev.Wf { Ev.zero 0 with n := (a : Int), u0 := (b : Int), u1 := (c : Int) } := ⟨z.h, z.p, z.id, z.tx, z.k, ha, hb, hc, z.u2⟩
  rw [eset_u2 w3]
theorem nat_i64 {v : Nat} (h : v ≤ 65535) : i64B (v : Int) := small_i64 (by omega)
set_option maxRecDepth 100000 in
set_option maxHeartbeats 1600000 in
theorem clo_arm (rb g : Nat) (q : Option Addr) (n c : Nat) (r : List (List UInt8)) (w : World) (h : CE rb g w) (hW : ∀ w', Turns (fun j => j = g) w w' → Ws w' q n c r) (hl : ∀ x ∈ r, x.length ≤ 1099511627776) :
    Calls Tryd.prog 57 #[.slice q n c, .pointer (some ⟨rb, 0, none⟩)] w (ClP g 5 r w) := by
  have hal := Below.allocs w (.cells #[.pointer (some ⟨g, 99, none⟩)] 107)
  have hrow := heap_alloc_last w (.cells #[.pointer (some ⟨g, 99, none⟩)] 107)
  have hp := h.ptr
  have hlt := h.lt
  have HNM := Lib.hid (numbers_any g 31 (evA (Ev.zero 0) none 0 none 0) [99] (fun o ho => by rw [List.mem_singleton] at ho; rw [ho, evA_size (zero_wf zero_i64)]; omega) (show 1 ≤ 1000 by decide) 65535 (by omega) q n c r (some ⟨w.heap.size, 0, none⟩) 1 (w.alloc (.cells #[.pointer (some ⟨g, 99, none⟩)] 107)) (Below.keepOld hal h.row)
    (fun w' ht => hW w' ((Turns.of_below hal).trans ht (fun _ _ h => h)))
    (fun w' ht => sl_turn (ptrs_sl w g 107 [99] (show 1 ≤ 1000 by decide)) ht (fun a ha hg => by obtain rfl := Option.some.inj ha; have hg : w.heap.size = g := hg; omega)) hl)
  have HAL := Lib.hid hal
  have H := Lib.hid h
  clear h hW hl hal hrow
  go_enter Tryd.func57, Tryd.ntmps57
  go_wp2_with fail
  refine HNM.out.mono ?_
  rintro x w2 ⟨ht, hcase⟩
  have HT := Lib.hid ((Turns.of_below (S := fun j => j = g) HAL.out).trans ht (fun _ _ h => h))
  rcases hcase with ⟨hlen, l, hnl, rfl, hrow⟩ | ⟨hbad, rfl, -⟩
  · have hlen : r.length = 1 := hlen
    obtain ⟨_, hle, hll⟩ := numsM_back hnl
    obtain ⟨v, rfl⟩ := List.length_eq_one_iff.1 (hll.trans hlen)
    have hv := hle v (by simp)
    rw [putsE1] at hrow
    have HROW := Lib.hid hrow
    have HV := Lib.hid (nat_i64 hv)
    have HYES : Hid (readK 5 r = some ⟨5, [], zeros, zeros, [], zeros, (v : Int), 0, 0, 0⟩) := by
      show _ = _
      unfold readK
      rw [if_neg (by omega), if_neg (by omega), if_neg (by omega), if_pos rfl, if_pos hlen, hnl]; rfl
    clear hnl hrow hv hle hll hlen ht
    go_wp2_with fail
    go_ret
    exact ⟨HT.out, .inl ⟨_, none, 0, none, 0, HYES.out, ⟨no_ap _, no_ap _⟩, rfl, HROW.out, ⟨rfl, rfl, rfl, no_tx, zero_i64, HV.out, zero_i64, zero_i64, zero_i64⟩, Sl.nil _ _, Is.nil _ _⟩⟩
  · have HNO : Hid (readK 5 r = none) := by
      show _ = _
      unfold readK
      rw [if_neg (by omega), if_neg (by omega), if_neg (by omega), if_pos rfl]
      rcases hbad with hb | hb
      · have hb : ¬ r.length = 1 := hb
        rw [if_neg hb]
      · split
        · rw [hb]; rfl
        · rfl
    clear ht hbad
    go_wp2_with fail
    go_ret
    exact ⟨HT.out, .inr ⟨HNO.out, rfl⟩⟩
theorem infoPI : (Tryd.prog.info? 107).map (fun i => (i.zero, i.size, i.bytes)) = some (some (.pointer none), 1, 8) := by kernel_rfl
theorem wpList_buildPtrs {ops : Array Oper} {rest : List Oper} {o : Oper} {a : Act} {w : World} {Q : Exit → Act → World → Prop} (hg : o.guard = none) (x0 x1 x2 x3 : Operand) (ho : o.op = .buildSlice 120 4 #[(0, x0), (1, x1), (2, x2), (3, x3)]) (p0 p1 p2 p3 : Option Addr) (h0 : a.eval x0 = .pointer p0) (h1 : a.eval x1 = .pointer p1) (h2 : a.eval x2 = .pointer p2) (h3 : a.eval x3 = .pointer p3)
    (h : wpList Tryd.prog ops Q rest (a.put o.dst (.slice (some ⟨w.heap.size, 0, none⟩) 4 4)) (w.alloc (.cells #[.pointer p0, .pointer p1, .pointer p2, .pointer p3] 107))) : wpList Tryd.prog ops Q (o :: rest) a w := by
  obtain ⟨i, hi, hiv⟩ := Option.map_eq_some_iff.1 infoPI
  have e1 : i.zero = some (.pointer none) := congrArg Prod.fst hiv
  have e2 : i.size = 1 := congrArg (fun z => z.2.1) hiv
  refine wpList_buildSlice hg 120 107 4 _ ho _ i _ Tryd.underlying120 hi e1 (by rw [e2]; omega) (by rw [e2]; omega) ?_ h
  have : (#[(0, x0), (1, x1), (2, x2), (3, x3)].map fun (p : Nat × Operand) => (p.1, a.eval p.2)).toList = [(0, .pointer p0), (1, .pointer p1), (2, .pointer p2), (3, .pointer p3)] := by simp [h0, h1, h2, h3]
  rw [this, e2, show Array.map (fun x => (Value.pointer none).cells[x % (Value.pointer none).cells.size]!) (Array.range (4 * 1)) = #[.pointer none, .pointer none, .pointer none, .pointer none] from by kernel_rfl]
  simp [Instr.fill, Value.cells]
set_option maxRecDepth 100000 in
set_option maxHeartbeats 3200000 in
theorem clo_restart (rb g : Nat) (q : Option Addr) (n c : Nat) (r : List (List UInt8)) (w : World) (h : CE rb g w) (hW : ∀ w', Turns (fun j => j = g) w w' → Ws w' q n c r) (hl : ∀ x ∈ r, x.length ≤ 1099511627776) :
    Calls Tryd.prog 58 #[.slice q n c, .pointer (some ⟨rb, 0, none⟩)] w (ClP g 6 r w) := by
  have hd := below_drew1 w.heap.size w
  have hal0 := Below.allocs w.drew (.cells #[.pointer (some ⟨g, 99, none⟩), .pointer (some ⟨g, 100, none⟩), .pointer (some ⟨g, 101, none⟩), .pointer (some ⟨g, 102, none⟩)] 107)
  have hal : Below w.heap.size w (w.drew.alloc (.cells #[.pointer (some ⟨g, 99, none⟩), .pointer (some ⟨g, 100, none⟩), .pointer (some ⟨g, 101, none⟩), .pointer (some ⟨g, 102, none⟩)] 107)) := hd.trans hal0
  have hlt := h.lt
  have HP0 : Hid (∀ w', Turns (fun j => j = g) w w' → w'.cell? ⟨rb, 0, none⟩ = some (.pointer (some ⟨g, 0, none⟩))) := fun w' ht => by rw [cell_of_row _ _ _ _ _ _ (ht.keep h.box h.ne)]; rfl
  have HNM := Lib.hid (numbers_any g 31 (evA (Ev.zero 0) none 0 none 0) [99, 100, 101, 102] (fun o ho => by rw [evA_size (zero_wf zero_i64)]; simp at ho; omega) (show 4 ≤ 1000 by decide) 65535 (by omega) q n c r (some ⟨w.drew.heap.size, 0, none⟩) 4 (w.drew.alloc (.cells #[.pointer (some ⟨g, 99, none⟩), .pointer (some ⟨g, 100, none⟩), .pointer (some ⟨g, 101, none⟩), .pointer (some ⟨g, 102, none⟩)] 107)) (Below.keepOld hal h.row)
    (fun w' ht => hW w' ((Turns.of_below hal).trans ht (fun _ _ h => h)))
    (fun w' ht => sl_turn (ptrs_sl w.drew g 107 [99, 100, 101, 102] (show 4 ≤ 1000 by decide)) ht (fun a ha hg => by obtain rfl := Option.some.inj ha; have hg : w.heap.size = g := hg; omega)) hl)
  have HAL := Lib.hid hal
  have H := Lib.hid h
  clear h hW hl hal hal0 hd
  go_enter Tryd.func58, Tryd.ntmps58
  go_upto_region 1 with fail
  refine wp_region_tree (fun w' => Turns (fun j => j = g) w w') (.take 0 (.take 1 (.take 2 (.take 3 (.take 4 (.take 5 (.take 6 (.take 7 (.take 8 (.take 9 (.take 10 (.take 11 (.take 12 (.take 13 (.take 14 (.take 15 (.one 16 (.one 17 (.one 18 .nil))))))))))))))))))) (by kernel_rfl) (by kernel_rfl) (Turns.of_below (below_drew1 _ _)) ?_
  repeat (first
    | (apply tree_take; (· rfl); (· rfl); (· (intro w' hb'; go_simp; try with_reducible rfl)); try simp only [Act.put, List.setIfInBounds_toArray, List.set_cons_zero, List.set_cons_succ])
    | (apply tree_take; (· rfl); (· rfl); (· (intro w' hb'; have hk' := (HP0.out) w' hb'; go_simp; try with_reducible rfl)); try simp only [Act.put, List.setIfInBounds_toArray, List.set_cons_zero, List.set_cons_succ]))
  refine tree_one rfl (by rfl) (fun K hK => oper_of_list rfl ?_)
  refine wpList_buildPtrs rfl _ _ _ _ rfl (some ⟨g, 99, none⟩) (some ⟨g, 100, none⟩) (some ⟨g, 101, none⟩) (some ⟨g, 102, none⟩) rfl rfl rfl rfl ?_
  refine only_end (Shut.out hK _ _ (Turns.of_below HAL.out) ?_)
  clear hK K
  try simp only [Act.put, List.setIfInBounds_toArray, List.set_cons_zero, List.set_cons_succ]
  refine tree_one rfl (by rfl) (fun K hK => ?_)
  go_simp
  refine HNM.out.mono ?_
  rintro x w2 ⟨ht, hcase⟩
  have hT := (Turns.of_below (S := fun j => j = g) HAL.out).trans ht (fun _ _ h => h)
  have HT := Lib.hid hT
  rcases hcase with ⟨hlen, l, hnl, rfl, hrow⟩ | ⟨hbad, rfl, -⟩
  · have hlen : r.length = 4 := hlen
    obtain ⟨_, hle, hll⟩ := numsM_back hnl
    have hl4 : l.length = 4 := hll.trans hlen
    obtain ⟨v0, v1, v2, v3, rfl⟩ : ∃ v0 v1 v2 v3, l = [v0, v1, v2, v3] := by
      match l, hl4 with
      | [a, b, c, d], _ => exact ⟨a, b, c, d, rfl⟩
    have i0 := nat_i64 (hle v0 (by simp))
    have i1 := nat_i64 (hle v1 (by simp))
    have i2 := nat_i64 (hle v2 (by simp))
    have i3 := nat_i64 (hle v3 (by simp))
    rw [putsE4 v0 v1 v2 v3 i0 i1 i2 i3] at hrow
    have HROW := Lib.hid hrow
    have HV : Hid (i64B (v0 : Int) ∧ i64B (v1 : Int) ∧ i64B (v2 : Int) ∧ i64B (v3 : Int)) := ⟨i0, i1, i2, i3⟩
    have HYES : Hid (readK 6 r = some ⟨6, [], zeros, zeros, [], zeros, (v0 : Int), (v1 : Int), (v2 : Int), (v3 : Int)⟩) := by
      show _ = _
      unfold readK
      rw [if_neg (by omega), if_neg (by omega), if_neg (by omega), if_neg (by omega), if_pos rfl, if_pos hlen, hnl]; rfl
    clear hnl hrow hle hll hlen ht i0 i1 i2 i3 hl4
    refine Shut.out hK _ _ hT ?_
    clear hK K
    try simp only [Act.put, List.setIfInBounds_toArray, List.set_cons_zero, List.set_cons_succ]
    refine tree_one rfl (by rfl) (fun K hK => ?_)
    go_simp
    refine Shut.out hK _ _ hT ?_
    clear hK K
    try simp only [Act.put, List.setIfInBounds_toArray, List.set_cons_zero, List.set_cons_succ]
    refine tree_nil ?_
    go_wp2_with fail
    go_ret
    exact ⟨HT.out, .inl ⟨_, none, 0, none, 0, HYES.out, ⟨no_ap _, no_ap _⟩, rfl, HROW.out, ⟨rfl, rfl, rfl, no_tx, zero_i64, HV.out.1, HV.out.2.1, HV.out.2.2.1, HV.out.2.2.2⟩, Sl.nil _ _, Is.nil _ _⟩⟩
  · have HNO : Hid (readK 6 r = none) := by
      show _ = _
      unfold readK
      rw [if_neg (by omega), if_neg (by omega), if_neg (by omega), if_neg (by omega), if_pos rfl]
      rcases hbad with hb | hb
      · have hb : ¬ r.length = 4 := hb
        rw [if_neg hb]
      · split
        · rw [hb]; rfl
        · rfl
    clear ht hbad
    refine Shut.out hK _ _ hT ?_
    clear hK K
    try simp only [Act.put, List.setIfInBounds_toArray, List.set_cons_zero, List.set_cons_succ]
    refine tree_one rfl (by rfl) (fun K hK => ?_)
    go_simp
    refine Shut.out hK _ _ hT ?_
    clear hK K
    try simp only [Act.put, List.setIfInBounds_toArray, List.set_cons_zero, List.set_cons_succ]
    refine tree_nil ?_
    go_wp2_with fail
    go_ret
    exact ⟨HT.out, .inr ⟨HNO.out, rfl⟩⟩
end Go.Proofs.YtcddgbobbogpgaaDoor.Scr

namespace Go.Proofs.YtcddgbobbogpgaaDoor.Scr
open Go.RowKit Go.Mir Go.Mir.Hx Go.Mir.Parts HexW Rpl

def fK (k : Nat) : FuncId := if k = 1 then 54 else if k = 2 then 56 else if k = 5 then 57 else if k = 6 then 58 else 52
theorem cloK_fK (k rb : Nat) : cloK k rb = .func (.func (fK k)) #[] #[.pointer (some ⟨rb, 0, none⟩)] := by
  unfold cloK fK clo
  split
  · rfl
  · split
    · rfl
    · split
      · rfl
      · split
        · rfl
        · rfl
theorem clo_any (k rb g : Nat) (hk : 1 ≤ k ∧ k ≤ 6) (q : Option Addr) (n c : Nat) (r : List (List UInt8)) (w : World) (h : CE rb g w) (hW : ∀ w', Turns (fun j => j = g) w w' → Ws w' q n c r) (hn : n ≤ 1000000) (hl : ∀ x ∈ r, x.length ≤ 1099511627776) :
    Calls Tryd.prog (fK k) #[.slice q n c, .pointer (some ⟨rb, 0, none⟩)] w (ClP g k r w) := by
  have hc : k = 1 ∨ k = 2 ∨ k = 3 ∨ k = 4 ∨ k = 5 ∨ k = 6 := by omega
  have h0 := hW w (Turns.refl _ w)
  rcases hc with rfl | rfl | rfl | rfl | rfl | rfl
  · exact clo_frame rb g q n c r w h h0 hl
  · exact clo_connect rb g q n c r w h h0 hn hl
  · exact clo_one rb g 3 (.inl rfl) q n c r w h h0 hn hl
  · exact clo_one rb g 4 (.inr rfl) q n c r w h h0 hn hl
  · exact clo_arm rb g q n c r w h hW hl
  · exact clo_restart rb g q n c r w h hW hl
theorem enterK1 (args : Array Value) (w : World) : (callFunc (fK 1) args).run Tryd.prog w = .ok (.enter (fK 1) args) w := by kernel_rfl
theorem enterK2 (args : Array Value) (w : World) : (callFunc (fK 2) args).run Tryd.prog w = .ok (.enter (fK 2) args) w := by kernel_rfl
theorem enterK3 (args : Array Value) (w : World) : (callFunc (fK 3) args).run Tryd.prog w = .ok (.enter (fK 3) args) w := by kernel_rfl
theorem enterK4 (args : Array Value) (w : World) : (callFunc (fK 4) args).run Tryd.prog w = .ok (.enter (fK 4) args) w := by kernel_rfl
theorem enterK5 (args : Array Value) (w : World) : (callFunc (fK 5) args).run Tryd.prog w = .ok (.enter (fK 5) args) w := by kernel_rfl
theorem enterK6 (args : Array Value) (w : World) : (callFunc (fK 6) args).run Tryd.prog w = .ok (.enter (fK 6) args) w := by kernel_rfl
theorem enterK {k : Nat} (h : 1 ≤ k ∧ k ≤ 6) (args : Array Value) (w : World) : (callFunc (fK k) args).run Tryd.prog w = .ok (.enter (fK k) args) w := by
  have hc : k = 1 ∨ k = 2 ∨ k = 3 ∨ k = 4 ∨ k = 5 ∨ k = 6 := by omega
  rcases hc with rfl | rfl | rfl | rfl | rfl | rfl
  · exact enterK1 args w
  · exact enterK2 args w
  · exact enterK3 args w
  · exact enterK4 args w
  · exact enterK5 args w
  · exact enterK6 args w
theorem readK_k {k : Nat} {r : List (List UInt8)} {e : Ev} (h : readK k r = some e) : e.k = (k : Int) ∧ 1 ≤ k ∧ k ≤ 6 := by
  unfold readK at h
  by_cases k1 : k = 1
  · rw [if_pos k1] at h
    split at h
    · obtain ⟨b, _, rfl⟩ := Option.map_eq_some_iff.1 h
      subst k1; exact ⟨rfl, by omega, by omega⟩
    · cases h
  · rw [if_neg k1] at h
    by_cases k2 : k = 2
    · rw [if_pos k2] at h
      obtain ⟨l, _, h⟩ := Option.bind_eq_some_iff.1 h
      split at h
      · obtain rfl := Option.some.inj h
        subst k2; exact ⟨rfl, by omega, by omega⟩
      · cases h
    · rw [if_neg k2] at h
      by_cases k3 : k = 3 ∨ k = 4
      · rw [if_pos k3] at h
        obtain ⟨l, _, h⟩ := Option.bind_eq_some_iff.1 h
        split at h
        · obtain rfl := Option.some.inj h
          exact ⟨rfl, by omega, by omega⟩
        · cases h
      · rw [if_neg k3] at h
        by_cases k5 : k = 5
        · rw [if_pos k5] at h
          split at h
          · obtain ⟨b, _, rfl⟩ := Option.map_eq_some_iff.1 h
            subst k5; exact ⟨rfl, by omega, by omega⟩
          · cases h
        · rw [if_neg k5] at h
          by_cases k6 : k = 6
          · rw [if_pos k6] at h
            split at h
            · obtain ⟨b, _, rfl⟩ := Option.map_eq_some_iff.1 h
              subst k6; exact ⟨rfl, by omega, by omega⟩
            · cases h
          · rw [if_neg k6] at h; cases h
theorem readK_0 (r : List (List UInt8)) : readK 0 r = none := by
  cases h : readK 0 r with
  | none => rfl
  | some e => have := (readK_k h).2.1; omega
def ReadP (r : Option Ev) (w : World) (x : Ending) (w' : World) : Prop := ∃ pb cb q c, x = .returned (.tuple #[.agg (evA (r.getD (Ev.zero 0)) pb cb q c), .bool r.isSome]) ∧ EvAt w' (r.getD (Ev.zero 0)) pb cb q c ∧ Below w.heap.size w w'
theorem zero_at (w : World) (k : Int) (hk : i64B k) : EvAt w (Ev.zero k) none 0 none 0 := ⟨zero_wf hk, Sl.nil _ _, Is.nil _ _⟩
theorem sp_length : ∀ s : List UInt8, (sp s).length ≤ s.length + 1
  | [] => by decide
  | c :: r => by
    have h := sp_length r
    obtain ⟨a, t, e⟩ := sp_form r
    rw [e] at h
    by_cases hc : c = 32
    · subst hc
      rw [sp_blank, e]
      simp only [List.length_cons] at h ⊢
      omega
    · rw [sp_sign hc e]
      simp only [List.length_cons] at h ⊢
      omega
theorem K6_inj {k i : Nat} (hk : k ≤ 6) (hi : i ≤ 6) (h : K6.getD i [] = K6.getD k []) : i = k := by
  have : ∀ i < 7, ∀ k < 7, K6.getD i [] = K6.getD k [] → i = k := by decide
  exact this i (by omega) k (by omega) h
theorem idxN0 (w : World) : (Instr.index 63 (.agg (strV K6).toArray) (.int .i64 0)).run Tryd.prog w = .ok (.string (S (K6.getD 0 []))) w := by kernel_rfl
theorem idxN1 (w : World) : (Instr.index 63 (.agg (strV K6).toArray) (.int .i64 1)).run Tryd.prog w = .ok (.string (S (K6.getD 1 []))) w := by kernel_rfl
theorem idxN2 (w : World) : (Instr.index 63 (.agg (strV K6).toArray) (.int .i64 2)).run Tryd.prog w = .ok (.string (S (K6.getD 2 []))) w := by kernel_rfl
theorem idxN3 (w : World) : (Instr.index 63 (.agg (strV K6).toArray) (.int .i64 3)).run Tryd.prog w = .ok (.string (S (K6.getD 3 []))) w := by kernel_rfl
theorem idxN4 (w : World) : (Instr.index 63 (.agg (strV K6).toArray) (.int .i64 4)).run Tryd.prog w = .ok (.string (S (K6.getD 4 []))) w := by kernel_rfl
theorem idxN5 (w : World) : (Instr.index 63 (.agg (strV K6).toArray) (.int .i64 5)).run Tryd.prog w = .ok (.string (S (K6.getD 5 []))) w := by kernel_rfl
theorem idxN6 (w : World) : (Instr.index 63 (.agg (strV K6).toArray) (.int .i64 6)).run Tryd.prog w = .ok (.string (S (K6.getD 6 []))) w := by kernel_rfl
theorem idxN (w : World) (i : Nat) (h : i < 7) : (Instr.index 63 (.agg (strV K6).toArray) (.int .i64 (i : Int))).run Tryd.prog w = .ok (.string (S (K6.getD i []))) w := by
  have hi : i = 0 ∨ i = 1 ∨ i = 2 ∨ i = 3 ∨ i = 4 ∨ i = 5 ∨ i = 6 := by omega
  rcases hi with rfl | rfl | rfl | rfl | rfl | rfl | rfl
  · exact idxN0 w
  · exact idxN1 w
  · exact idxN2 w
  · exact idxN3 w
  · exact idxN4 w
  · exact idxN5 w
  · exact idxN6 w
set_option maxRecDepth 100000 in
set_option maxHeartbeats 3200000 in
theorem read_any (s : List UInt8) (w : World) (hs : s.length ≤ 900000) (hm : MaxL w) : Calls Tryd.prog 10 #[.string (S s)] w (ReadP (readE s) w) := by
  have hz := zeroE
  obtain ⟨a1, a2, a3, a4⟩ := Go.Mir.two_allocs w (.cells zE 31) (.cells zE 31)
  have HR1 := Lib.hid a1
  have HR2 := Lib.hid a2
  have HB := Lib.hid a4
  have HBU : Hid (Tryd.prog.built 31 [] = some zE) := built_e0
  have HZO : Hid (zE.all (·.oneCell') = true) := evA_one _ _ _ _ _
  have HZS : Hid (zE.size = 103) := zE_size
  have HSP := Lib.hid (split_any s ((w.alloc (.cells zE 31)).alloc (.cells zE 31)) (by omega) (hm.below a4))
  obtain ⟨s0, r, hsp⟩ := sp_form s
  obtain ⟨k, hkk⟩ : ∃ k, kindB s0 = k := ⟨_, rfl⟩
  have HRE : Hid (readE s = readK k r) := by
    show _ = _
    unfold readE
    rw [hsp, ← hkk]; rfl
  have hln := sp_length s
  have HWL := Lib.hid (sp_len s)
  rw [hsp] at hln HSP HWL
  rw [List.length_cons] at hln
  have HLN : Hid (r.length ≤ 1000000) := by show _ ≤ _; omega
  have HSL : Hid (s.length ≤ 900000) := hs
  rw [HRE.out]
  have hsz2 : w.heap.size + 2 ≤ ((w.alloc (.cells zE 31)).alloc (.cells zE 31)).heap.size := (Array.getElem?_eq_some_iff.1 a2).1
  clear a1 a2 a3 a4 hs hm hsp hln HRE
  go_enter Tryd.func10, Tryd.ntmps10
  go_upto_region 2 with fail
  generalize (w.alloc (.cells zE 31)).alloc (.cells zE 31) = w2 at *
  go_wp2_with fail
  refine HSP.out.mono ?_
  rintro x w3 ⟨rfl, hws, hb3⟩
  have HR1' := Lib.hid (Below.keepOld hb3 HR1.out)
  have HR2' := Lib.hid (Below.keepOld hb3 HR2.out)
  have HB3 := Lib.hid (HB.out.trans (hb3.mono HB.out.size))
  have HWS := Lib.hid hws
  have hc0 := hws.str (j := 0) (by simp)
  have hlt3 : w2.heap.size < w3.heap.size := by
    cases hh : w3.heap[w2.heap.size]? with
    | some o => exact (Array.getElem?_eq_some_iff.1 hh).1
    | none => rw [World.cell?, hh] at hc0; cases hc0
  clear hws hb3 HSP HB HR1 HR2
  generalize w2.heap.size = gw at *
  obtain ⟨NL, hNL⟩ : ∃ NL, (s0 :: r).length = NL := ⟨_, rfl⟩
  have HNL := Lib.hid hNL
  rw [hNL] at HWS ⊢
  have h1n : 1 ≤ NL := by rw [← hNL]; simp
  have h0i : (0 : Int) < (NL : Int) := by omega
  have h1i : (1 : Int) ≤ (NL : Int) := by omega
  have h0n : 0 < NL := by omega
  have HC0 : Hid (∀ w', Below w3.heap.size w3 w' → w'.cell? ⟨gw, 0, none⟩ = some (.string (S s0))) := fun w' hb => cell_below hc0 hb
  clear hNL hc0
  by_cases hk : k = 0
  · go_upto_region 3 with fail
    refine wp_region_eager [(1, true), (2, true), (3, true), (0, false), (4, false), (5, true), (6, true), (7, true), (8, true), (9, true)] (by kernel_rfl) (by kernel_rfl) (eagerOpen rfl ?_)
    have hy0 : Below w3.heap.size w3 w3.drew := below_drew1 _ _
    repeat (first
      | (first | (apply wpEager_take; (· rfl); (· (intro w' hb'; go_simp; try with_reducible rfl)); (try simp only [Act.put, List.setIfInBounds_toArray, List.set_cons_zero, List.set_cons_succ]); (try refine eagerOpen rfl ?_)) | (refine wpEager_skip (by rfl) ?_; (try simp only [Act.put, List.setIfInBounds_toArray, List.set_cons_zero, List.set_cons_succ]); (try refine eagerOpen rfl ?_)) | (refine wpEager_off (by rfl) ?_; (try simp only [Act.put, List.setIfInBounds_toArray, List.set_cons_zero, List.set_cons_succ]); (try refine eagerOpen rfl ?_)))
      | (apply wpEager_take; (· rfl); (· (intro w' hb'; have hk' := (HC0.out) w' hb'; go_split_ands; go_simp; try with_reducible rfl)); (try simp only [Act.put, List.setIfInBounds_toArray, List.set_cons_zero, List.set_cons_succ]); (try refine eagerOpen rfl ?_)))
    (refine wpEager_op (by rfl) (fun K hK => ?_); go_simp; (refine (readers_any _ _).mono ?_; rintro x w4 ⟨mb, rfl, hbx, hmp, hb⟩; have hy1 := hy0.trans hb; have hlk := look_no w4 mb w3.drew.heap.size s0 hmp (hkk.trans hk)); refine Shut.out hK _ _ (by assumption) ?_; clear hK K; (try simp only [Act.put, List.setIfInBounds_toArray, List.set_cons_zero, List.set_cons_succ]); (try refine eagerOpen rfl ?_))
    refine wpEager_op (by rfl) (fun K hK => ?_)
    go_simp
    refine Shut.out hK _ _ hy1 ?_
    clear hK K
    (try simp only [Act.put, List.setIfInBounds_toArray, List.set_cons_zero, List.set_cons_succ]); (try refine eagerOpen rfl ?_)
    repeat (first | (apply wpEager_take; (· rfl); (· (intro w' hb'; go_simp; try with_reducible rfl)); (try simp only [Act.put, List.setIfInBounds_toArray, List.set_cons_zero, List.set_cons_succ]); (try refine eagerOpen rfl ?_)) | (refine wpEager_skip (by rfl) ?_; (try simp only [Act.put, List.setIfInBounds_toArray, List.set_cons_zero, List.set_cons_succ]); (try refine eagerOpen rfl ?_)) | (refine wpEager_off (by rfl) ?_; (try simp only [Act.put, List.setIfInBounds_toArray, List.set_cons_zero, List.set_cons_succ]); (try refine eagerOpen rfl ?_)))
    refine eagerEnd ?_
    have HR4 := Lib.hid (Below.keepOld hy1 HR1'.out)
    have HB4 := Lib.hid (HB3.out.trans (hy1.mono HB3.out.size))
    clear hy0 hy1 hb hbx hmp hlk HC0
    go_wp2_with (first
      | refine Rdr.wpList_build rfl 31 _ rfl [] rfl _ HBU.out ?_
      | refine wpList_store_row rfl 31 _ _ rfl w.heap.size zE rfl rfl 31 zE HR4.out (infoE _ HZS.out) rfl HZO.out ?_)
    have HSR := Lib.hid (setRow_heap _ _ _ zE _ _ HR4.out)
    refine bodyPost_ret (results_ct rfl _ _ _ _ _ _ _ rfl HSR.out Tryd.underlying31 rfl (infoE _ HZS.out)) rfl ?_
    rw [hk, readK_0]
    exact ⟨none, 0, none, 0, rfl, zero_at _ 0 zero_i64, below_setRow HB4.out (by omega) _⟩
  obtain ⟨hk6, hk6'⟩ := kind_name hkk hk
  have HKK : Hid (1 ≤ k ∧ k ≤ 6) := ⟨by omega, by omega⟩
  have HK6 := Lib.hid hk6
  have HDR := Lib.hid (ws_drop HWS.out 1 h1n)
  have hcut := cutSR HWS.out 1 1 rfl h1n
  have HGW : Hid (w.heap.size + 2 ≤ gw) := hsz2
  clear hk6 hk6'
  go_upto_region 3 with fail
  refine wp_region_eager [(1, true), (2, true), (3, true), (0, false), (4, false), (5, true), (6, true), (7, true), (8, true), (9, true)] (by kernel_rfl) (by kernel_rfl) (eagerOpen rfl ?_)
  have hy0 : Below w3.heap.size w3 w3.drew := below_drew1 _ _
  repeat (first
    | (first | (apply wpEager_take; (· rfl); (· (intro w' hb'; go_simp; try with_reducible rfl)); (try simp only [Act.put, List.setIfInBounds_toArray, List.set_cons_zero, List.set_cons_succ]); (try refine eagerOpen rfl ?_)) | (refine wpEager_skip (by rfl) ?_; (try simp only [Act.put, List.setIfInBounds_toArray, List.set_cons_zero, List.set_cons_succ]); (try refine eagerOpen rfl ?_)) | (refine wpEager_off (by rfl) ?_; (try simp only [Act.put, List.setIfInBounds_toArray, List.set_cons_zero, List.set_cons_succ]); (try refine eagerOpen rfl ?_)))
    | (apply wpEager_take; (· rfl); (· (intro w' hb'; have hk' := (HC0.out) w' hb'; go_split_ands; go_simp; try with_reducible rfl)); (try simp only [Act.put, List.setIfInBounds_toArray, List.set_cons_zero, List.set_cons_succ]); (try refine eagerOpen rfl ?_)))
  (refine wpEager_op (by rfl) (fun K hK => ?_); go_simp; (refine (readers_any _ _).mono ?_; rintro x w4 ⟨mb, rfl, hbx, hmp, hb⟩; have hy1 := hy0.trans hb; have hlk := look_ok w4 mb w3.drew.heap.size k s0 hmp hkk hk; rw [cloK_fK] at hlk); refine Shut.out hK _ _ (by assumption) ?_; clear hK K; (try simp only [Act.put, List.setIfInBounds_toArray, List.set_cons_zero, List.set_cons_succ]); (try refine eagerOpen rfl ?_))
  refine wpEager_op (by rfl) (fun K hK => ?_)
  go_simp
  refine Shut.out hK _ _ hy1 ?_
  clear hK K
  (try simp only [Act.put, List.setIfInBounds_toArray, List.set_cons_zero, List.set_cons_succ]); (try refine eagerOpen rfl ?_)
  repeat (first | (apply wpEager_take; (· rfl); (· (intro w' hb'; go_simp; try with_reducible rfl)); (try simp only [Act.put, List.setIfInBounds_toArray, List.set_cons_zero, List.set_cons_succ]); (try refine eagerOpen rfl ?_)) | (refine wpEager_skip (by rfl) ?_; (try simp only [Act.put, List.setIfInBounds_toArray, List.set_cons_zero, List.set_cons_succ]); (try refine eagerOpen rfl ?_)) | (refine wpEager_off (by rfl) ?_; (try simp only [Act.put, List.setIfInBounds_toArray, List.set_cons_zero, List.set_cons_succ]); (try refine eagerOpen rfl ?_)))
  refine eagerEnd ?_
  have HR4 := Lib.hid (Below.keepOld hy1 HR1'.out)
  have HG4 := Lib.hid (Below.keepOld hy1 HR2'.out)
  have HB4 := Lib.hid (HB3.out.trans (hy1.mono HB3.out.size))
  have HWS4 := Lib.hid (HWS.out.below hy1)
  have HDR4 := Lib.hid (HDR.out.below hy1)
  have HCE : Hid (CE w3.heap.size (w.heap.size + 1) w4) := ⟨hbx, HG4.out⟩
  have hen := enterK HKK.out
  have HCL := Lib.hid (clo_any k w3.heap.size (w.heap.size + 1) HKK.out _ _ _ r w4 HCE.out (fun w' ht => sl_turn HDR4.out ht (fun a ha hg => by
    have hg : a.block = w.heap.size + 1 := hg
    have h2 := HGW.out
    unfold cutS at ha
    split at ha
    · obtain rfl := Option.some.inj ha
      have hg : gw = w.heap.size + 1 := hg
      omega
    · obtain rfl := Option.some.inj ha
      rw [addr_add_block] at hg
      have hg : gw = w.heap.size + 1 := hg
      omega)) (by have := HNL.out; have := HLN.out; rw [List.length_cons] at *; omega) (fun x hx => by have := HWL.out x (List.mem_cons_of_mem _ hx); have := HSL.out; omega))
  have hy4 := Lib.hid hy1.size
  clear hy0 hy1 hb hbx hmp hlk HC0 HCE HG4 HWS HDR HDR4
  go_wp2_with fail
  refine HCL.out.mono ?_
  rintro x w5 ⟨ht, hcase⟩
  have HNG : Hid (w.heap.size ≠ w.heap.size + 1) := by show _ ≠ _; omega
  have HR5 := Lib.hid (ht.keep HR4.out HNG.out)
  have HB5 : Hid (Below w.heap.size w w5) := HB4.out.trans (ht.below HB4.out.size (fun i hi => by have hi : i = w.heap.size + 1 := hi; omega))
  have hws5 := sl_turn HWS4.out ht (fun a ha hg => by
    obtain rfl := Option.some.inj ha
    have hg : gw = w.heap.size + 1 := hg
    have h2 := HGW.out
    omega)
  rcases hcase with ⟨ev, pb, cb, q, c, hrd, hap, rfl, hrow, hat⟩ | ⟨hrd, rfl⟩
  rotate_left
  · have HRD := Lib.hid hrd
    clear ht hws5 hrd HWS4 HR4 HB4 HCL hen hcut
    go_wp2_with (first
      | refine Rdr.wpList_build rfl 31 _ rfl [] rfl _ HBU.out ?_
      | refine wpList_store_row rfl 31 _ _ rfl w.heap.size zE rfl rfl 31 zE HR5.out (infoE _ HZS.out) rfl HZO.out ?_)
    have HSR := Lib.hid (setRow_heap _ _ _ zE _ _ HR5.out)
    refine bodyPost_ret (results_ct rfl _ _ _ _ _ _ _ rfl HSR.out Tryd.underlying31 rfl (infoE _ HZS.out)) rfl ?_
    rw [HRD.out]
    exact ⟨none, 0, none, 0, rfl, zero_at _ 0 zero_i64, below_setRow HB5.out (by omega) _⟩
  have HWS5 := Lib.hid hws5
  have hw4 : w.heap.size + 2 < w4.heap.size := (show w.heap.size + 2 < w4.heap.size by have := HGW.out; have := hy4.out; omega)
  have HRW := Lib.hid hrow
  have HAT := Lib.hid hat
  have HRD := Lib.hid hrd
  have HAP := Lib.hid hap
  clear hap
  clear ht hws5 hrow hat hrd HWS4 HR4 HB4 HCL hen hcut
  go_wp2_with fail
  refine (names_any _).mono ?_
  rintro x w6 ⟨rfl, hb6⟩
  have HR6 := Lib.hid (Below.keepOld hb6 HR5.out)
  have HB6 := Lib.hid (HB5.out.trans (hb6.mono HB5.out.size))
  have HWS6 := Lib.hid (HWS5.out.below hb6)
  have HAT6 := Lib.hid (HAT.out.below hb6)
  have HEW : Hid (EW w6 (w.heap.size + 1) 31 { ev with k := 0 } pb cb q c w6) := ⟨Below.keepOld hb6 HRW.out, HAT.out.wf, Turns.refl _ _⟩
  clear hb6 HR5 HB5 HWS5 HAT HRW
  go_wp2_with fail
  go_loopw [8, 9, 31] (fun _ _ j wr => ∃ i : Nat, i ≤ 7 ∧ j = .int .i64 i ∧ EW w6 (w.heap.size + 1) 31 { ev with k := if k < i then (k : Int) else 0 } pb cb q c wr) (fun _ _ j _ => 7 - (intOf j).toNat)
  case atStart => exact ⟨0, by omega, rfl, by rw [if_neg (by omega)]; exact HEW.out⟩
  case round =>
    obtain ⟨i, hi, rfl, hew⟩ := hrel
    have HE := Lib.hid hew
    have HC : Hid (wr.cell? ⟨gw, 0, none⟩ = some (.string (S s0))) := hew.turn.cell (Ws.str (ls := s0 :: r) HWS6.out (j := 0) (by simp)) (by show ¬ gw = _; have := HGW.out; omega)
    clear hew
    by_cases hlt : i < 7
    · have hd : decide ((i : Int) < 7) = true := decide_eq_true (by omega)
      have hd2 : decide (i < 7) = true := decide_eq_true hlt
      have hix := idxN wr i hlt
      have hcw : wr.cell? ⟨gw, 0, none⟩ = some (.string (S s0)) := HC.out
      by_cases hx : i = k
      · have hb : (K6.getD i [] == s0) = true := beq_iff_eq.2 (by rw [hx]; exact HK6.out)
        have hfz : wr.frozen? ⟨w.heap.size + 1, 0, none⟩ = false := HE.out.frozen 0
        have hk0 := HE.out.cells.k
        have HE2 := Lib.hid (HE.out.kind (i : Int) (small_i64 (by omega)))
        have HX := Lib.hid hx
        clear HC hx
        generalize K6.getD i [] = x at *
        go_wp2_with fail
        go_roundw
        case rel => exact ⟨i + 1, by omega, by go_num, by have h1 := HX.out; rw [if_pos (by omega), ← h1]; exact HE2.out⟩
        case measure => simp [intOf]; omega
      · have hb : (K6.getD i [] == s0) = false := beq_eq_false_iff_ne.2 (fun e => hx (K6_inj HKK.out.2 (by omega) (e.trans HK6.out.symm)))
        have HX := Lib.hid hx
        clear HC hx
        generalize K6.getD i [] = x at *
        go_wp2_with fail
        go_roundw
        case rel => exact ⟨i + 1, by omega, by go_num, by
          have h1 := HE.out
          have h3 := HX.out
          by_cases h2 : k < i
          · rw [if_pos h2] at h1; rw [if_pos (by omega)]; exact h1
          · rw [if_neg h2] at h1; rw [if_neg (by omega)]; exact h1⟩
        case measure => simp [intOf]; omega
    · have hd : decide ((i : Int) < 7) = false := decide_eq_false (by omega)
      have hd2 : decide (i < 7) = false := decide_eq_false hlt
      have HE2 : Hid (EW w6 (w.heap.size + 1) 31 ev pb cb q c wr) := by
        have h1 := HE.out
        rw [if_pos (by have := HKK.out; omega), ← (readK_k HRD.out).1] at h1
        exact h1
      have HR7 := Lib.hid (HE2.out.turn.keep HR6.out HNG.out)
      have HB7 : Hid (Below w.heap.size w wr) := HB6.out.trans (HE2.out.turn.below HB6.out.size (fun i hi => by have hi : i = w.heap.size + 1 := hi; omega))
      have HAT7 : Hid (EvAt wr ev pb cb q c) := ⟨HE2.out.wf, sl_turn HAT6.out.bs HE2.out.turn (fun a ha hg => by have h1 := HAP.out.1 a ha; have hg : a.block = w.heap.size + 1 := hg; omega), is_turn HAT6.out.ids HE2.out.turn (fun a ha hg => by have h1 := HAP.out.2 a ha; have hg : a.block = w.heap.size + 1 := hg; omega)⟩
      clear HC HE
      obtain ⟨A, hA⟩ : ∃ A, A = evA ev pb cb q c := ⟨_, rfl⟩
      have HAS : Hid (A.size = 103) := by show _ = _; rw [hA]; exact evA_size HE2.out.wf pb cb q c
      have HAO : Hid (A.all (·.oneCell') = true) := by show _ = _; rw [hA]; exact evA_one _ _ _ _ _
      have HEA := Lib.hid HE2.out.row
      have HAE := Lib.hid hA
      rw [← hA] at HEA
      clear hA
      go_wp2_with (first
        | refine wpList_load_row rfl 31 _ rfl (w.heap.size + 1) rfl 31 A (0, 0) _ HEA.out Tryd.underlying31 rfl (infoE _ HAS.out) ?_
        | refine wpList_store_row rfl 31 _ _ rfl w.heap.size A rfl rfl 31 zE HR7.out (infoE _ HAS.out) (by rw [HAS.out]; exact HZS.out) HAO.out ?_)
      have HSR := Lib.hid (setRow_heap _ _ _ A _ _ HR7.out)
      have HTS : Hid (Turns (fun j => j = w.heap.size) wr (wr.setRow w.heap.size A)) := turns_setRow _ _ _
      refine bodyPost_ret (results_ct rfl _ _ _ _ _ _ _ rfl HSR.out Tryd.underlying31 rfl (infoE _ HAS.out)) rfl ?_
      rw [HRD.out]
      exact ⟨pb, cb, q, c, by rw [HAE.out]; rfl, ⟨HE2.out.wf, sl_turn HAT7.out.bs HTS.out (fun a ha hg => by have h1 := HAP.out.1 a ha; have hg : a.block = w.heap.size := hg; omega), is_turn HAT7.out.ids HTS.out (fun a ha hg => by have h1 := HAP.out.2 a ha; have hg : a.block = w.heap.size := hg; omega)⟩, below_setRow HB7.out (by omega) _⟩
end Go.Proofs.YtcddgbobbogpgaaDoor.Scr

namespace Go.Proofs.YtcddgbobbogpgaaDoor.Scr
open Go.RowKit Go.Mir Go.Mir.Hx Go.Mir.Parts HexW Rpl

def id5 : List UInt8 := 5 :: List.replicate 31 0
def ev5 : Ev := ⟨4, [], zeros, zeros, [], id5, 0, 0, 0, 0⟩
def ev7 : Ev := ⟨5, [], zeros, zeros, [], zeros, 7, 0, 0, 0⟩
theorem i64_0 : i64B 0 := zero_i64
theorem ev5_wf : ev5.Wf := ⟨rfl, rfl, rfl, no_tx, small_i64 (show (0 : Int) ≤ 4 ∧ (4 : Int) ≤ 65535 by decide), i64_0, i64_0, i64_0, i64_0⟩
theorem ev7_wf : ev7.Wf := ⟨rfl, rfl, rfl, no_tx, small_i64 (show (0 : Int) ≤ 5 ∧ (5 : Int) ≤ 65535 by decide), small_i64 (show (0 : Int) ≤ 7 ∧ (7 : Int) ≤ 65535 by decide), i64_0, i64_0, i64_0⟩
theorem built_id5 : Tryd.prog.built 25 [(0, .int .u8 5)] = some (idA id5) := by kernel_rfl
theorem built_ev5 : Tryd.prog.built 31 [(0, .int .i64 4), (3, .agg (idA id5))] = some (evA ev5 none 0 none 0) := by kernel_rfl
theorem good5 : Good ev5 := ⟨⟨show (1 : Int) ≤ 4 by decide, show (4 : Int) ≤ 6 by decide⟩, rfl, fun h => by
  rcases h with h | h
  · exact absurd h (by show ¬ (4 : Int) = 5; decide)
  · exact absurd h (by show ¬ (4 : Int) = 6; decide)⟩
theorem good7 : Good ev7 := ⟨⟨show (1 : Int) ≤ 5 by decide, show (5 : Int) ≤ 6 by decide⟩, rfl, fun _ x hx => by
  have hx : x ∈ [(7 : Int)] := hx
  rw [List.mem_singleton] at hx
  rw [hx]
  exact (by decide : okN 7)⟩
theorem line5 : lineE ev5 = [101, 118, 105, 99, 116, 32, 48, 53] := by
  rw [(line_good good5).1]
  kernel_rfl
theorem line7 : lineE ev7 = [97, 114, 109, 32, 55] := by
  rw [(line_good good7).1]
  kernel_rfl
theorem read7 : readE [97, 114, 109, 32, 55] = some ev7 := by
  rw [← line7]
  exact read_line good7 ev7_wf
set_option maxRecDepth 100000 in
set_option maxHeartbeats 1600000 in
theorem alive39_any (w : World) (hm : MaxL w) : Calls Tryd.prog 6 #[] w fun e w' => e = .returned (.bool true) ∧ Below w.heap.size w w' := by
  have hz := zeroE
  have HL := Lib.hid (line_any ev5 none 0 none 0 w ⟨ev5_wf, Sl.nil _ _, Is.nil _ _⟩ (by decide) (by decide))
  have HM := Lib.hid hm
  have hb5 : (S [101, 118, 105, 99, 116, 32, 48, 53] == (⟨#[101, 118, 105, 99, 116, 32, 48, 53]⟩ : ByteArray)) = true := by kernel_rfl
  clear hm
  go_enter Tryd.func6, Tryd.ntmps6
  go_wp2_with (first
    | refine Rdr.wpList_build rfl 25 _ rfl [(0, .int .u8 5)] rfl _ built_id5 ?_
    | refine Rdr.wpList_build rfl 31 _ rfl [(0, .int .i64 4), (3, .agg (idA id5))] rfl _ built_ev5 ?_)
  refine HL.out.mono ?_
  rintro e w1 ⟨rfl, hb1⟩
  rw [line5, decide_eq_true good5]
  have HB1 := Lib.hid hb1
  have hrd := read_any [97, 114, 109, 32, 55] w1 (by decide) (HM.out.below hb1)
  rw [read7] at hrd
  have HRD := Lib.hid hrd
  clear hrd hb1 HL
  go_wp2_with fail
  refine HRD.out.mono ?_
  rintro e w2 ⟨pb, cb, q, c, rfl, hat, hb2⟩
  have HB2 := Lib.hid (HB1.out.trans (hb2.mono HB1.out.size))
  obtain ⟨A, hA⟩ : ∃ A, A = evA ev7 pb cb q c := ⟨_, rfl⟩
  have HAS : Hid (A.size = 103) := by show _ = _; rw [hA]; exact evA_size ev7_wf pb cb q c
  have HAO : Hid (A.all (·.oneCell') = true) := by show _ = _; rw [hA]; exact evA_one _ _ _ _ _
  have hr2 := setRow_heap _ _ _ A _ _ (heap_alloc_last w2 (.cells zE 31))
  have HC := Lib.hid (ev_row (pb := pb) (cb := cb) (q := q) (c := c) ev7_wf (by rw [hA] at hr2; exact hr2))
  rw [← hA] at HC
  have hck : (((w2.alloc (.cells zE 31)).setRow w2.heap.size A).cell? ⟨w2.heap.size, 0, none⟩) = some (.int .i64 5) := HC.out.k
  have hcn : (((w2.alloc (.cells zE 31)).setRow w2.heap.size A).cell? ⟨w2.heap.size, 99, none⟩) = some (.int .i64 7) := HC.out.n
  have hbx := box_below w2 zE A 31
  have HB3 := Lib.hid (HB2.out.trans (hbx.mono HB2.out.size))
  show _
  simp only [Option.getD_some, Option.isSome_some]
  rw [← hA]
  clear hb2 hat hr2 HRD hbx hA
  go_wp2_with (refine wpList_store_row rfl 31 _ _ rfl w2.heap.size A rfl rfl 31 zE (heap_alloc_last _ _) (infoE _ HAS.out) (by rw [HAS.out]; exact zE_size) HAO.out ?_)
  go_ret
  exact ⟨rfl, HB3.out⟩
end Go.Proofs.YtcddgbobbogpgaaDoor.Scr

namespace Go.Proofs.YtcddgbobbogpgaaDoor.Scr
open Go.RowKit Go.Mir Go.Mir.Hx Go.Mir.Parts HexW Rpl

set_option maxRecDepth 100000 in
set_option maxHeartbeats 1600000 in
theorem ronly1 (b hh p : List UInt8) (tx : List (List UInt8)) (id : List UInt8) (n u0 u1 u2 : Int) (pb : Option Addr) (cb : Nat) (q : Option Addr) (c : Nat) (w : World) (h : EvAt w ⟨1, b, hh, p, tx, id, n, u0, u1, u2⟩ pb cb q c) :
    Calls Tryd.prog 26 #[.agg (evA ⟨1, b, hh, p, tx, id, n, u0, u1, u2⟩ pb cb q c)] w (EvP ⟨1, b, zeros, zeros, [], zeros, 0, 0, 0, 0⟩ w) := by
  skip
  have hz := zeroF
  obtain ⟨a1, a2, a3, a4⟩ := Go.Mir.two_allocs w (.cells (evA ⟨1, b, hh, p, tx, id, n, u0, u1, u2⟩ pb cb q c) 37) (.cells zE 37)
  have HC := Lib.hid (ev_row h.wf a1)
  have HB := Lib.hid a4
  have HZ := Lib.hid a2
  have hk : _ = some (Value.int .i64 1) := HC.out.k
  have hP1 : _ = some (Value.slice pb b.length cb) := HC.out.b
  have hP99 : _ = some (Value.int .i64 n) := HC.out.n
  have HWF := Lib.hid h.wf
  have HIN := Lib.hid h
  obtain ⟨A, hA⟩ : ∃ A, A = evA ⟨1, b, hh, p, tx, id, n, u0, u1, u2⟩ pb cb q c := ⟨_, rfl⟩
  rw [← hA]
  rw [← hA] at HC HB HZ hk hP1 hP99
  obtain ⟨X, hX⟩ : ∃ X, X = evA (⟨1, b, zeros, zeros, [], zeros, 0, 0, 0, 0⟩) pb cb none 0 := ⟨_, rfl⟩
  have HWX : Hid (Ev.Wf (⟨1, b, zeros, zeros, [], zeros, 0, 0, 0, 0⟩)) := ⟨rfl, rfl, rfl, no_tx, HWF.out.k, zero_i64, zero_i64, zero_i64, zero_i64⟩
  have HXS : Hid (X.size = 103 ∧ X.all (·.oneCell') = true) := by show _ ∧ _; rw [hX]; exact ⟨evA_size HWX.out _ _ _ _, evA_one _ _ _ _ _⟩
  have hbu : Tryd.prog.built 37 [(0, .int .i64 1), (1, .slice pb b.length cb)] = some X := by rw [hX]; exact built_f1 pb b.length cb
  have HBU := Lib.hid hbu
  have HXE := Lib.hid hX
  clear a1 a2 a3 a4 h hA hX hbu
  go_enter Tryd.func26, Tryd.ntmps26
  go_upto_region 1 with fail
  generalize (w.alloc (.cells A 37)).alloc (.cells zE 37) = w1 at *
  go_wp2_with (first
    | refine loadM (by rfl) 28 _ rfl w.heap.size 2 rfl (blkA hh p q tx.length c) _ HC.out.blk Tryd.underlying28 rfl (infoBl _ (blkA_size HWF.out.h HWF.out.p _ _ _)) ?_
    | refine loadM (by rfl) 25 _ rfl w.heap.size 67 rfl (idA id) _ HC.out.id Tryd.underlying25 rfl (infoId _ (by rw [idA_size]; exact HWF.out.id)) ?_
    | refine loadM (by rfl) 29 _ rfl w.heap.size 100 rfl #[.int .i64 u0, .int .i64 u1, .int .i64 u2] _ HC.out.us Tryd.underlying29 rfl (infoU3 _ rfl) ?_
    | refine Rdr.wpList_build rfl 37 _ rfl [(0, .int .i64 1), (1, .slice pb b.length cb)] rfl _ HBU.out ?_
    | refine wpList_store_row rfl 37 _ _ rfl (w.heap.size + 1) X rfl rfl 37 zE HZ.out (infoF _ HXS.out.1) (by rw [HXS.out.1]; exact zE_size) HXS.out.2 ?_)
  have HS := Lib.hid (setRow_heap _ _ _ X _ _ HZ.out)
  have hbe := below_setRow HB.out (show w.heap.size ≤ w.heap.size + 1 by omega) X
  refine bodyPost_ret (results_cell_row rfl _ _ _ _ _ _ _ rfl HS.out Tryd.underlying37 rfl (infoF _ HXS.out.1)) rfl ?_
  refine ⟨pb, cb, none, 0, congrArg (fun z => Ending.returned (Value.agg z)) HXE.out, ⟨HWX.out, ?_, ?_⟩, hbe⟩
  · exact HIN.out.bs.below hbe
  · exact Is.nil _ _
set_option maxRecDepth 100000 in
set_option maxHeartbeats 1600000 in
theorem ronly2 (b hh p : List UInt8) (tx : List (List UInt8)) (id : List UInt8) (n u0 u1 u2 : Int) (pb : Option Addr) (cb : Nat) (q : Option Addr) (c : Nat) (w : World) (h : EvAt w ⟨2, b, hh, p, tx, id, n, u0, u1, u2⟩ pb cb q c) :
    Calls Tryd.prog 26 #[.agg (evA ⟨2, b, hh, p, tx, id, n, u0, u1, u2⟩ pb cb q c)] w (EvP ⟨2, [], hh, p, tx, zeros, 0, 0, 0, 0⟩ w) := by
  skip
  have hz := zeroF
  obtain ⟨a1, a2, a3, a4⟩ := Go.Mir.two_allocs w (.cells (evA ⟨2, b, hh, p, tx, id, n, u0, u1, u2⟩ pb cb q c) 37) (.cells zE 37)
  have HC := Lib.hid (ev_row h.wf a1)
  have HB := Lib.hid a4
  have HZ := Lib.hid a2
  have hk : _ = some (Value.int .i64 2) := HC.out.k
  have hP1 : _ = some (Value.slice pb b.length cb) := HC.out.b
  have hP99 : _ = some (Value.int .i64 n) := HC.out.n
  have HWF := Lib.hid h.wf
  have HIN := Lib.hid h
  obtain ⟨A, hA⟩ : ∃ A, A = evA ⟨2, b, hh, p, tx, id, n, u0, u1, u2⟩ pb cb q c := ⟨_, rfl⟩
  rw [← hA]
  rw [← hA] at HC HB HZ hk hP1 hP99
  obtain ⟨X, hX⟩ : ∃ X, X = evA (⟨2, [], hh, p, tx, zeros, 0, 0, 0, 0⟩) none 0 q c := ⟨_, rfl⟩
  have HWX : Hid (Ev.Wf (⟨2, [], hh, p, tx, zeros, 0, 0, 0, 0⟩)) := ⟨HWF.out.h, HWF.out.p, rfl, HWF.out.tx, HWF.out.k, zero_i64, zero_i64, zero_i64, zero_i64⟩
  have HXS : Hid (X.size = 103 ∧ X.all (·.oneCell') = true) := by show _ ∧ _; rw [hX]; exact ⟨evA_size HWX.out _ _ _ _, evA_one _ _ _ _ _⟩
  have hbu : Tryd.prog.built 37 [(0, .int .i64 2), (2, .agg (blkA hh p q tx.length c))] = some X := by rw [hX]; exact built_f2 q tx.length c (bytesV hh) (bytesV p) (by rw [bytesV_length]; exact HWF.out.h) (by rw [bytesV_length]; exact HWF.out.p)
  have HBU := Lib.hid hbu
  have HXE := Lib.hid hX
  clear a1 a2 a3 a4 h hA hX hbu
  go_enter Tryd.func26, Tryd.ntmps26
  go_upto_region 1 with fail
  generalize (w.alloc (.cells A 37)).alloc (.cells zE 37) = w1 at *
  go_wp2_with (first
    | refine loadM (by rfl) 28 _ rfl w.heap.size 2 rfl (blkA hh p q tx.length c) _ HC.out.blk Tryd.underlying28 rfl (infoBl _ (blkA_size HWF.out.h HWF.out.p _ _ _)) ?_
    | refine loadM (by rfl) 25 _ rfl w.heap.size 67 rfl (idA id) _ HC.out.id Tryd.underlying25 rfl (infoId _ (by rw [idA_size]; exact HWF.out.id)) ?_
    | refine loadM (by rfl) 29 _ rfl w.heap.size 100 rfl #[.int .i64 u0, .int .i64 u1, .int .i64 u2] _ HC.out.us Tryd.underlying29 rfl (infoU3 _ rfl) ?_
    | refine Rdr.wpList_build rfl 37 _ rfl [(0, .int .i64 2), (2, .agg (blkA hh p q tx.length c))] rfl _ HBU.out ?_
    | refine wpList_store_row rfl 37 _ _ rfl (w.heap.size + 1) X rfl rfl 37 zE HZ.out (infoF _ HXS.out.1) (by rw [HXS.out.1]; exact zE_size) HXS.out.2 ?_)
  have HS := Lib.hid (setRow_heap _ _ _ X _ _ HZ.out)
  have hbe := below_setRow HB.out (show w.heap.size ≤ w.heap.size + 1 by omega) X
  refine bodyPost_ret (results_cell_row rfl _ _ _ _ _ _ _ rfl HS.out Tryd.underlying37 rfl (infoF _ HXS.out.1)) rfl ?_
  refine ⟨none, 0, q, c, congrArg (fun z => Ending.returned (Value.agg z)) HXE.out, ⟨HWX.out, ?_, ?_⟩, hbe⟩
  · exact Sl.nil _ _
  · exact HIN.out.ids.below hbe
set_option maxRecDepth 100000 in
set_option maxHeartbeats 1600000 in
theorem ronly3 (b hh p : List UInt8) (tx : List (List UInt8)) (id : List UInt8) (n u0 u1 u2 : Int) (pb : Option Addr) (cb : Nat) (q : Option Addr) (c : Nat) (w : World) (h : EvAt w ⟨3, b, hh, p, tx, id, n, u0, u1, u2⟩ pb cb q c) :
    Calls Tryd.prog 26 #[.agg (evA ⟨3, b, hh, p, tx, id, n, u0, u1, u2⟩ pb cb q c)] w (EvP ⟨3, [], zeros, zeros, [], id, 0, 0, 0, 0⟩ w) := by
  skip
  have hz := zeroF
  obtain ⟨a1, a2, a3, a4⟩ := Go.Mir.two_allocs w (.cells (evA ⟨3, b, hh, p, tx, id, n, u0, u1, u2⟩ pb cb q c) 37) (.cells zE 37)
  have HC := Lib.hid (ev_row h.wf a1)
  have HB := Lib.hid a4
  have HZ := Lib.hid a2
  have hk : _ = some (Value.int .i64 3) := HC.out.k
  have hP1 : _ = some (Value.slice pb b.length cb) := HC.out.b
  have hP99 : _ = some (Value.int .i64 n) := HC.out.n
  have HWF := Lib.hid h.wf
  have HIN := Lib.hid h
  obtain ⟨A, hA⟩ : ∃ A, A = evA ⟨3, b, hh, p, tx, id, n, u0, u1, u2⟩ pb cb q c := ⟨_, rfl⟩
  rw [← hA]
  rw [← hA] at HC HB HZ hk hP1 hP99
  obtain ⟨X, hX⟩ : ∃ X, X = evA (⟨3, [], zeros, zeros, [], id, 0, 0, 0, 0⟩) none 0 none 0 := ⟨_, rfl⟩
  have HWX : Hid (Ev.Wf (⟨3, [], zeros, zeros, [], id, 0, 0, 0, 0⟩)) := ⟨rfl, rfl, HWF.out.id, no_tx, HWF.out.k, zero_i64, zero_i64, zero_i64, zero_i64⟩
  have HXS : Hid (X.size = 103 ∧ X.all (·.oneCell') = true) := by show _ ∧ _; rw [hX]; exact ⟨evA_size HWX.out _ _ _ _, evA_one _ _ _ _ _⟩
  have hbu : Tryd.prog.built 37 [(0, .int .i64 3), (3, .agg (idA id))] = some X := by rw [hX]; exact built_f3 3 (bytesV id) (by rw [bytesV_length]; exact HWF.out.id)
  have HBU := Lib.hid hbu
  have HXE := Lib.hid hX
  clear a1 a2 a3 a4 h hA hX hbu
  go_enter Tryd.func26, Tryd.ntmps26
  go_upto_region 1 with fail
  generalize (w.alloc (.cells A 37)).alloc (.cells zE 37) = w1 at *
  go_wp2_with (first
    | refine loadM (by rfl) 28 _ rfl w.heap.size 2 rfl (blkA hh p q tx.length c) _ HC.out.blk Tryd.underlying28 rfl (infoBl _ (blkA_size HWF.out.h HWF.out.p _ _ _)) ?_
    | refine loadM (by rfl) 25 _ rfl w.heap.size 67 rfl (idA id) _ HC.out.id Tryd.underlying25 rfl (infoId _ (by rw [idA_size]; exact HWF.out.id)) ?_
    | refine loadM (by rfl) 29 _ rfl w.heap.size 100 rfl #[.int .i64 u0, .int .i64 u1, .int .i64 u2] _ HC.out.us Tryd.underlying29 rfl (infoU3 _ rfl) ?_
    | refine Rdr.wpList_build rfl 37 _ rfl [(0, .int .i64 3), (3, .agg (idA id))] rfl _ HBU.out ?_
    | refine wpList_store_row rfl 37 _ _ rfl (w.heap.size + 1) X rfl rfl 37 zE HZ.out (infoF _ HXS.out.1) (by rw [HXS.out.1]; exact zE_size) HXS.out.2 ?_)
  have HS := Lib.hid (setRow_heap _ _ _ X _ _ HZ.out)
  have hbe := below_setRow HB.out (show w.heap.size ≤ w.heap.size + 1 by omega) X
  refine bodyPost_ret (results_cell_row rfl _ _ _ _ _ _ _ rfl HS.out Tryd.underlying37 rfl (infoF _ HXS.out.1)) rfl ?_
  refine ⟨none, 0, none, 0, congrArg (fun z => Ending.returned (Value.agg z)) HXE.out, ⟨HWX.out, ?_, ?_⟩, hbe⟩
  · exact Sl.nil _ _
  · exact Is.nil _ _
set_option maxRecDepth 100000 in
set_option maxHeartbeats 1600000 in
theorem ronly4 (b hh p : List UInt8) (tx : List (List UInt8)) (id : List UInt8) (n u0 u1 u2 : Int) (pb : Option Addr) (cb : Nat) (q : Option Addr) (c : Nat) (w : World) (h : EvAt w ⟨4, b, hh, p, tx, id, n, u0, u1, u2⟩ pb cb q c) :
    Calls Tryd.prog 26 #[.agg (evA ⟨4, b, hh, p, tx, id, n, u0, u1, u2⟩ pb cb q c)] w (EvP ⟨4, [], zeros, zeros, [], id, 0, 0, 0, 0⟩ w) := by
  skip
  have hz := zeroF
  obtain ⟨a1, a2, a3, a4⟩ := Go.Mir.two_allocs w (.cells (evA ⟨4, b, hh, p, tx, id, n, u0, u1, u2⟩ pb cb q c) 37) (.cells zE 37)
  have HC := Lib.hid (ev_row h.wf a1)
  have HB := Lib.hid a4
  have HZ := Lib.hid a2
  have hk : _ = some (Value.int .i64 4) := HC.out.k
  have hP1 : _ = some (Value.slice pb b.length cb) := HC.out.b
  have hP99 : _ = some (Value.int .i64 n) := HC.out.n
  have HWF := Lib.hid h.wf
  have HIN := Lib.hid h
  obtain ⟨A, hA⟩ : ∃ A, A = evA ⟨4, b, hh, p, tx, id, n, u0, u1, u2⟩ pb cb q c := ⟨_, rfl⟩
  rw [← hA]
  rw [← hA] at HC HB HZ hk hP1 hP99
  obtain ⟨X, hX⟩ : ∃ X, X = evA (⟨4, [], zeros, zeros, [], id, 0, 0, 0, 0⟩) none 0 none 0 := ⟨_, rfl⟩
  have HWX : Hid (Ev.Wf (⟨4, [], zeros, zeros, [], id, 0, 0, 0, 0⟩)) := ⟨rfl, rfl, HWF.out.id, no_tx, HWF.out.k, zero_i64, zero_i64, zero_i64, zero_i64⟩
  have HXS : Hid (X.size = 103 ∧ X.all (·.oneCell') = true) := by show _ ∧ _; rw [hX]; exact ⟨evA_size HWX.out _ _ _ _, evA_one _ _ _ _ _⟩
  have hbu : Tryd.prog.built 37 [(0, .int .i64 4), (3, .agg (idA id))] = some X := by rw [hX]; exact built_f3 4 (bytesV id) (by rw [bytesV_length]; exact HWF.out.id)
  have HBU := Lib.hid hbu
  have HXE := Lib.hid hX
  clear a1 a2 a3 a4 h hA hX hbu
  go_enter Tryd.func26, Tryd.ntmps26
  go_upto_region 1 with fail
  generalize (w.alloc (.cells A 37)).alloc (.cells zE 37) = w1 at *
  go_wp2_with (first
    | refine loadM (by rfl) 28 _ rfl w.heap.size 2 rfl (blkA hh p q tx.length c) _ HC.out.blk Tryd.underlying28 rfl (infoBl _ (blkA_size HWF.out.h HWF.out.p _ _ _)) ?_
    | refine loadM (by rfl) 25 _ rfl w.heap.size 67 rfl (idA id) _ HC.out.id Tryd.underlying25 rfl (infoId _ (by rw [idA_size]; exact HWF.out.id)) ?_
    | refine loadM (by rfl) 29 _ rfl w.heap.size 100 rfl #[.int .i64 u0, .int .i64 u1, .int .i64 u2] _ HC.out.us Tryd.underlying29 rfl (infoU3 _ rfl) ?_
    | refine Rdr.wpList_build rfl 37 _ rfl [(0, .int .i64 4), (3, .agg (idA id))] rfl _ HBU.out ?_
    | refine wpList_store_row rfl 37 _ _ rfl (w.heap.size + 1) X rfl rfl 37 zE HZ.out (infoF _ HXS.out.1) (by rw [HXS.out.1]; exact zE_size) HXS.out.2 ?_)
  have HS := Lib.hid (setRow_heap _ _ _ X _ _ HZ.out)
  have hbe := below_setRow HB.out (show w.heap.size ≤ w.heap.size + 1 by omega) X
  refine bodyPost_ret (results_cell_row rfl _ _ _ _ _ _ _ rfl HS.out Tryd.underlying37 rfl (infoF _ HXS.out.1)) rfl ?_
  refine ⟨none, 0, none, 0, congrArg (fun z => Ending.returned (Value.agg z)) HXE.out, ⟨HWX.out, ?_, ?_⟩, hbe⟩
  · exact Sl.nil _ _
  · exact Is.nil _ _
set_option maxRecDepth 100000 in
set_option maxHeartbeats 1600000 in
theorem ronly5 (b hh p : List UInt8) (tx : List (List UInt8)) (id : List UInt8) (n u0 u1 u2 : Int) (pb : Option Addr) (cb : Nat) (q : Option Addr) (c : Nat) (w : World) (h : EvAt w ⟨5, b, hh, p, tx, id, n, u0, u1, u2⟩ pb cb q c) :
    Calls Tryd.prog 26 #[.agg (evA ⟨5, b, hh, p, tx, id, n, u0, u1, u2⟩ pb cb q c)] w (EvP ⟨5, [], zeros, zeros, [], zeros, n, 0, 0, 0⟩ w) := by
  skip
  have hz := zeroF
  obtain ⟨a1, a2, a3, a4⟩ := Go.Mir.two_allocs w (.cells (evA ⟨5, b, hh, p, tx, id, n, u0, u1, u2⟩ pb cb q c) 37) (.cells zE 37)
  have HC := Lib.hid (ev_row h.wf a1)
  have HB := Lib.hid a4
  have HZ := Lib.hid a2
  have hk : _ = some (Value.int .i64 5) := HC.out.k
  have hP1 : _ = some (Value.slice pb b.length cb) := HC.out.b
  have hP99 : _ = some (Value.int .i64 n) := HC.out.n
  have HWF := Lib.hid h.wf
  have HIN := Lib.hid h
  obtain ⟨A, hA⟩ : ∃ A, A = evA ⟨5, b, hh, p, tx, id, n, u0, u1, u2⟩ pb cb q c := ⟨_, rfl⟩
  rw [← hA]
  rw [← hA] at HC HB HZ hk hP1 hP99
  obtain ⟨X, hX⟩ : ∃ X, X = evA (⟨5, [], zeros, zeros, [], zeros, n, 0, 0, 0⟩) none 0 none 0 := ⟨_, rfl⟩
  have HWX : Hid (Ev.Wf (⟨5, [], zeros, zeros, [], zeros, n, 0, 0, 0⟩)) := ⟨rfl, rfl, rfl, no_tx, HWF.out.k, HWF.out.n, zero_i64, zero_i64, zero_i64⟩
  have HXS : Hid (X.size = 103 ∧ X.all (·.oneCell') = true) := by show _ ∧ _; rw [hX]; exact ⟨evA_size HWX.out _ _ _ _, evA_one _ _ _ _ _⟩
  have hbu : Tryd.prog.built 37 [(0, .int .i64 5), (4, .int .i64 n)] = some X := by rw [hX]; exact built_f5 n
  have HBU := Lib.hid hbu
  have HXE := Lib.hid hX
  clear a1 a2 a3 a4 h hA hX hbu
  go_enter Tryd.func26, Tryd.ntmps26
  go_upto_region 1 with fail
  generalize (w.alloc (.cells A 37)).alloc (.cells zE 37) = w1 at *
  go_wp2_with (first
    | refine loadM (by rfl) 28 _ rfl w.heap.size 2 rfl (blkA hh p q tx.length c) _ HC.out.blk Tryd.underlying28 rfl (infoBl _ (blkA_size HWF.out.h HWF.out.p _ _ _)) ?_
    | refine loadM (by rfl) 25 _ rfl w.heap.size 67 rfl (idA id) _ HC.out.id Tryd.underlying25 rfl (infoId _ (by rw [idA_size]; exact HWF.out.id)) ?_
    | refine loadM (by rfl) 29 _ rfl w.heap.size 100 rfl #[.int .i64 u0, .int .i64 u1, .int .i64 u2] _ HC.out.us Tryd.underlying29 rfl (infoU3 _ rfl) ?_
    | refine Rdr.wpList_build rfl 37 _ rfl [(0, .int .i64 5), (4, .int .i64 n)] rfl _ HBU.out ?_
    | refine wpList_store_row rfl 37 _ _ rfl (w.heap.size + 1) X rfl rfl 37 zE HZ.out (infoF _ HXS.out.1) (by rw [HXS.out.1]; exact zE_size) HXS.out.2 ?_)
  have HS := Lib.hid (setRow_heap _ _ _ X _ _ HZ.out)
  have hbe := below_setRow HB.out (show w.heap.size ≤ w.heap.size + 1 by omega) X
  refine bodyPost_ret (results_cell_row rfl _ _ _ _ _ _ _ rfl HS.out Tryd.underlying37 rfl (infoF _ HXS.out.1)) rfl ?_
  refine ⟨none, 0, none, 0, congrArg (fun z => Ending.returned (Value.agg z)) HXE.out, ⟨HWX.out, ?_, ?_⟩, hbe⟩
  · exact Sl.nil _ _
  · exact Is.nil _ _
set_option maxRecDepth 100000 in
set_option maxHeartbeats 1600000 in
theorem ronly6 (b hh p : List UInt8) (tx : List (List UInt8)) (id : List UInt8) (n u0 u1 u2 : Int) (pb : Option Addr) (cb : Nat) (q : Option Addr) (c : Nat) (w : World) (h : EvAt w ⟨6, b, hh, p, tx, id, n, u0, u1, u2⟩ pb cb q c) :
    Calls Tryd.prog 26 #[.agg (evA ⟨6, b, hh, p, tx, id, n, u0, u1, u2⟩ pb cb q c)] w (EvP ⟨6, [], zeros, zeros, [], zeros, n, u0, u1, u2⟩ w) := by
  skip
  have hz := zeroF
  obtain ⟨a1, a2, a3, a4⟩ := Go.Mir.two_allocs w (.cells (evA ⟨6, b, hh, p, tx, id, n, u0, u1, u2⟩ pb cb q c) 37) (.cells zE 37)
  have HC := Lib.hid (ev_row h.wf a1)
  have HB := Lib.hid a4
  have HZ := Lib.hid a2
  have hk : _ = some (Value.int .i64 6) := HC.out.k
  have hP1 : _ = some (Value.slice pb b.length cb) := HC.out.b
  have hP99 : _ = some (Value.int .i64 n) := HC.out.n
  have HWF := Lib.hid h.wf
  have HIN := Lib.hid h
  obtain ⟨A, hA⟩ : ∃ A, A = evA ⟨6, b, hh, p, tx, id, n, u0, u1, u2⟩ pb cb q c := ⟨_, rfl⟩
  rw [← hA]
  rw [← hA] at HC HB HZ hk hP1 hP99
  obtain ⟨X, hX⟩ : ∃ X, X = evA (⟨6, [], zeros, zeros, [], zeros, n, u0, u1, u2⟩) none 0 none 0 := ⟨_, rfl⟩
  have HWX : Hid (Ev.Wf (⟨6, [], zeros, zeros, [], zeros, n, u0, u1, u2⟩)) := ⟨rfl, rfl, rfl, no_tx, HWF.out.k, HWF.out.n, HWF.out.u0, HWF.out.u1, HWF.out.u2⟩
  have HXS : Hid (X.size = 103 ∧ X.all (·.oneCell') = true) := by show _ ∧ _; rw [hX]; exact ⟨evA_size HWX.out _ _ _ _, evA_one _ _ _ _ _⟩
  have hbu : Tryd.prog.built 37 [(0, .int .i64 6), (4, .int .i64 n), (5, .agg #[.int .i64 u0, .int .i64 u1, .int .i64 u2])] = some X := by rw [hX]; exact built_f6 6 n u0 u1 u2
  have HBU := Lib.hid hbu
  have HXE := Lib.hid hX
  clear a1 a2 a3 a4 h hA hX hbu
  go_enter Tryd.func26, Tryd.ntmps26
  go_upto_region 1 with fail
  generalize (w.alloc (.cells A 37)).alloc (.cells zE 37) = w1 at *
  go_wp2_with (first
    | refine loadM (by rfl) 28 _ rfl w.heap.size 2 rfl (blkA hh p q tx.length c) _ HC.out.blk Tryd.underlying28 rfl (infoBl _ (blkA_size HWF.out.h HWF.out.p _ _ _)) ?_
    | refine loadM (by rfl) 25 _ rfl w.heap.size 67 rfl (idA id) _ HC.out.id Tryd.underlying25 rfl (infoId _ (by rw [idA_size]; exact HWF.out.id)) ?_
    | refine loadM (by rfl) 29 _ rfl w.heap.size 100 rfl #[.int .i64 u0, .int .i64 u1, .int .i64 u2] _ HC.out.us Tryd.underlying29 rfl (infoU3 _ rfl) ?_
    | refine Rdr.wpList_build rfl 37 _ rfl [(0, .int .i64 6), (4, .int .i64 n), (5, .agg #[.int .i64 u0, .int .i64 u1, .int .i64 u2])] rfl _ HBU.out ?_
    | refine wpList_store_row rfl 37 _ _ rfl (w.heap.size + 1) X rfl rfl 37 zE HZ.out (infoF _ HXS.out.1) (by rw [HXS.out.1]; exact zE_size) HXS.out.2 ?_)
  have HS := Lib.hid (setRow_heap _ _ _ X _ _ HZ.out)
  have hbe := below_setRow HB.out (show w.heap.size ≤ w.heap.size + 1 by omega) X
  refine bodyPost_ret (results_cell_row rfl _ _ _ _ _ _ _ rfl HS.out Tryd.underlying37 rfl (infoF _ HXS.out.1)) rfl ?_
  refine ⟨none, 0, none, 0, congrArg (fun z => Ending.returned (Value.agg z)) HXE.out, ⟨HWX.out, ?_, ?_⟩, hbe⟩
  · exact Sl.nil _ _
  · exact Is.nil _ _
theorem ronly_any (e : Ev) (hk : 1 ≤ e.k ∧ e.k ≤ 6) (pb : Option Addr) (cb : Nat) (q : Option Addr) (c : Nat) (w : World) (h : EvAt w e pb cb q c) :
    Calls Tryd.prog 26 #[.agg (evA e pb cb q c)] w (EvP (only e) w) := by
  obtain ⟨k, b, hh, p, tx, id, n, u0, u1, u2⟩ := e
  have h1 : 1 ≤ k := hk.1
  have h2 : k ≤ 6 := hk.2
  have hc : k = 1 ∨ k = 2 ∨ k = 3 ∨ k = 4 ∨ k = 5 ∨ k = 6 := by omega
  rcases hc with rfl | rfl | rfl | rfl | rfl | rfl
  · exact ronly1 b hh p tx id n u0 u1 u2 pb cb q c w h
  · exact ronly2 b hh p tx id n u0 u1 u2 pb cb q c w h
  · exact ronly3 b hh p tx id n u0 u1 u2 pb cb q c w h
  · exact ronly4 b hh p tx id n u0 u1 u2 pb cb q c w h
  · exact ronly5 b hh p tx id n u0 u1 u2 pb cb q c w h
  · exact ronly6 b hh p tx id n u0 u1 u2 pb cb q c w h
end Go.Proofs.YtcddgbobbogpgaaDoor.Scr

namespace Go.Proofs.YtcddgbobbogpgaaDoor.Scr
open Go.RowKit Go.Mir Go.Mir.Hx Go.Mir.Parts HexW Rpl

set_option maxRecDepth 100000 in
set_option maxHeartbeats 6400000 in
theorem rsame_any {a b : Ev} {pa pb qa qb : Option Addr} {ca cb ka kb : Nat} (w : World) (hA : EvAt w a pa ca qa ka) (hB : EvAt w b pb cb qb kb) :
    Calls Tryd.prog 11 #[.agg (evA a pa ca qa ka), .agg (evA b pb cb qb kb)] w fun x w' => x = .returned (.bool (decide (a = b))) ∧ Below w.heap.size w w' := by
  obtain ⟨a1, a2, a3, a4⟩ := Go.Mir.two_allocs w (.cells (evA a pa ca qa ka) 37) (.cells (evA b pb cb qb kb) 37)
  have HC := Lib.hid (ev_row hA.wf a1)
  have HD := Lib.hid (ev_row hB.wf a2)
  have HX := Lib.hid a4
  have HA := Lib.hid hA.wf
  have HB := Lib.hid hB.wf
  have HAT := Lib.hid (hA.below a4)
  have HBT := Lib.hid (hB.below a4)
  have c0 := HC.out.k
  have d0 := HD.out.k
  have c1 := HC.out.b
  have d1 := HD.out.b
  have c3 := HC.out.n
  have d3 := HD.out.n
  have c7 := HC.out.tx
  have d7 := HD.out.tx
  have v1 := cv HAT.out.bs
  have v2 := cv HBT.out.bs
  clear a1 a2 a3 a4 hA hB
  by_cases n0 : a.k = b.k
  rotate_left
  · have HR : Hid (decide (a = b) = false) := decide_eq_false (fun e => n0 (by rw [e]))
    have q0 : (a.k == b.k) = false := (beq_eq_false_iff_ne.2 n0)
    have p0 : (a.k != b.k) = true := (bne_iff_ne.2 n0)
    clear n0
    skip
    go_enter Tryd.func11, Tryd.ntmps11
    go_upto_region 1 with fail
    generalize (w.alloc (.cells (evA a pa ca qa ka) 37)).alloc (.cells (evA b pb cb qb kb) 37) = w1 at *
    skip
    go_wp2_with (first
      | ((with_reducible refine wpAt 21 ?_); refine loadM (by rfl) 25 _ rfl w.heap.size 67 rfl (idA a.id) _ HC.out.id Tryd.underlying25 rfl (infoId _ (by rw [idA_size, HA.out.id])) ?_)
      | ((with_reducible refine wpAt 23 ?_); refine loadM (by rfl) 25 _ rfl (w.heap.size + 1) 67 rfl (idA b.id) _ HD.out.id Tryd.underlying25 rfl (infoId _ (by rw [idA_size, HB.out.id])) ?_)
      | ((with_reducible refine wpAt 35 ?_); refine loadM (by rfl) 29 _ rfl w.heap.size 100 rfl (u3L a).toArray _ HC.out.us Tryd.underlying29 rfl (infoU3 _ rfl) ?_)
      | ((with_reducible refine wpAt 37 ?_); refine loadM (by rfl) 29 _ rfl (w.heap.size + 1) 100 rfl (u3L b).toArray _ HD.out.us Tryd.underlying29 rfl (infoU3 _ rfl) ?_)
      | ((with_reducible refine wpAt 43 ?_); refine loadM (by rfl) 25 _ rfl w.heap.size 2 rfl (idA a.h) _ HC.out.h Tryd.underlying25 rfl (infoId _ (by rw [idA_size, HA.out.h])) ?_)
      | ((with_reducible refine wpAt 46 ?_); refine loadM (by rfl) 25 _ rfl (w.heap.size + 1) 2 rfl (idA b.h) _ HD.out.h Tryd.underlying25 rfl (infoId _ (by rw [idA_size, HB.out.h])) ?_)
      | ((with_reducible refine wpAt 52 ?_); refine loadM (by rfl) 25 _ rfl w.heap.size 34 rfl (idA a.p) _ HC.out.p Tryd.underlying25 rfl (infoId _ (by rw [idA_size, HA.out.p])) ?_)
      | ((with_reducible refine wpAt 55 ?_); refine loadM (by rfl) 25 _ rfl (w.heap.size + 1) 34 rfl (idA b.p) _ HD.out.p Tryd.underlying25 rfl (infoId _ (by rw [idA_size, HB.out.p])) ?_))
    go_ret
    exact ⟨bret HR.out.symm, HX.out⟩
  by_cases n1 : a.b = b.b
  rotate_left
  · have HR : Hid (decide (a = b) = false) := decide_eq_false (fun e => n1 (by rw [e]))
    have q0 : (a.k == b.k) = true := (beq_iff_eq.2 n0)
    have p0 : (a.k != b.k) = false := (by rw [bne_eq_false_iff_eq]; exact n0)
    have q1 : (a.b == b.b) = false := (beq_eq_false_iff_ne.2 n1)
    have p1 : (a.b != b.b) = true := (bne_iff_ne.2 n1)
    clear n0 n1
    skip
    go_enter Tryd.func11, Tryd.ntmps11
    go_upto_region 1 with fail
    generalize (w.alloc (.cells (evA a pa ca qa ka) 37)).alloc (.cells (evA b pb cb qb kb) 37) = w1 at *
    skip
    go_wp2_with (first
      | ((with_reducible refine wpAt 21 ?_); refine loadM (by rfl) 25 _ rfl w.heap.size 67 rfl (idA a.id) _ HC.out.id Tryd.underlying25 rfl (infoId _ (by rw [idA_size, HA.out.id])) ?_)
      | ((with_reducible refine wpAt 23 ?_); refine loadM (by rfl) 25 _ rfl (w.heap.size + 1) 67 rfl (idA b.id) _ HD.out.id Tryd.underlying25 rfl (infoId _ (by rw [idA_size, HB.out.id])) ?_)
      | ((with_reducible refine wpAt 35 ?_); refine loadM (by rfl) 29 _ rfl w.heap.size 100 rfl (u3L a).toArray _ HC.out.us Tryd.underlying29 rfl (infoU3 _ rfl) ?_)
      | ((with_reducible refine wpAt 37 ?_); refine loadM (by rfl) 29 _ rfl (w.heap.size + 1) 100 rfl (u3L b).toArray _ HD.out.us Tryd.underlying29 rfl (infoU3 _ rfl) ?_)
      | ((with_reducible refine wpAt 43 ?_); refine loadM (by rfl) 25 _ rfl w.heap.size 2 rfl (idA a.h) _ HC.out.h Tryd.underlying25 rfl (infoId _ (by rw [idA_size, HA.out.h])) ?_)
      | ((with_reducible refine wpAt 46 ?_); refine loadM (by rfl) 25 _ rfl (w.heap.size + 1) 2 rfl (idA b.h) _ HD.out.h Tryd.underlying25 rfl (infoId _ (by rw [idA_size, HB.out.h])) ?_)
      | ((with_reducible refine wpAt 52 ?_); refine loadM (by rfl) 25 _ rfl w.heap.size 34 rfl (idA a.p) _ HC.out.p Tryd.underlying25 rfl (infoId _ (by rw [idA_size, HA.out.p])) ?_)
      | ((with_reducible refine wpAt 55 ?_); refine loadM (by rfl) 25 _ rfl (w.heap.size + 1) 34 rfl (idA b.p) _ HD.out.p Tryd.underlying25 rfl (infoId _ (by rw [idA_size, HB.out.p])) ?_))
    go_ret
    exact ⟨bret HR.out.symm, HX.out⟩
  by_cases n2 : a.id = b.id
  rotate_left
  · have HR : Hid (decide (a = b) = false) := decide_eq_false (fun e => n2 (by rw [e]))
    have q0 : (a.k == b.k) = true := (beq_iff_eq.2 n0)
    have p0 : (a.k != b.k) = false := (by rw [bne_eq_false_iff_eq]; exact n0)
    have q1 : (a.b == b.b) = true := (beq_iff_eq.2 n1)
    have p1 : (a.b != b.b) = false := (by rw [bne_eq_false_iff_eq]; exact n1)
    have q2 : ∀ w, (Op.equalIn 10000 25 (.agg (idA a.id)) (.agg (idA b.id))).run Tryd.prog w = .ok false w := fun w => eqIdT w HA.out.id HB.out.id _ (beq_eq_false_iff_ne.2 n2)
    clear n0 n1 n2
    skip
    go_enter Tryd.func11, Tryd.ntmps11
    go_upto_region 1 with fail
    generalize (w.alloc (.cells (evA a pa ca qa ka) 37)).alloc (.cells (evA b pb cb qb kb) 37) = w1 at *
    skip
    go_wp2_with (first
      | ((with_reducible refine wpAt 21 ?_); refine loadM (by rfl) 25 _ rfl w.heap.size 67 rfl (idA a.id) _ HC.out.id Tryd.underlying25 rfl (infoId _ (by rw [idA_size, HA.out.id])) ?_)
      | ((with_reducible refine wpAt 23 ?_); refine loadM (by rfl) 25 _ rfl (w.heap.size + 1) 67 rfl (idA b.id) _ HD.out.id Tryd.underlying25 rfl (infoId _ (by rw [idA_size, HB.out.id])) ?_)
      | ((with_reducible refine wpAt 35 ?_); refine loadM (by rfl) 29 _ rfl w.heap.size 100 rfl (u3L a).toArray _ HC.out.us Tryd.underlying29 rfl (infoU3 _ rfl) ?_)
      | ((with_reducible refine wpAt 37 ?_); refine loadM (by rfl) 29 _ rfl (w.heap.size + 1) 100 rfl (u3L b).toArray _ HD.out.us Tryd.underlying29 rfl (infoU3 _ rfl) ?_)
      | ((with_reducible refine wpAt 43 ?_); refine loadM (by rfl) 25 _ rfl w.heap.size 2 rfl (idA a.h) _ HC.out.h Tryd.underlying25 rfl (infoId _ (by rw [idA_size, HA.out.h])) ?_)
      | ((with_reducible refine wpAt 46 ?_); refine loadM (by rfl) 25 _ rfl (w.heap.size + 1) 2 rfl (idA b.h) _ HD.out.h Tryd.underlying25 rfl (infoId _ (by rw [idA_size, HB.out.h])) ?_)
      | ((with_reducible refine wpAt 52 ?_); refine loadM (by rfl) 25 _ rfl w.heap.size 34 rfl (idA a.p) _ HC.out.p Tryd.underlying25 rfl (infoId _ (by rw [idA_size, HA.out.p])) ?_)
      | ((with_reducible refine wpAt 55 ?_); refine loadM (by rfl) 25 _ rfl (w.heap.size + 1) 34 rfl (idA b.p) _ HD.out.p Tryd.underlying25 rfl (infoId _ (by rw [idA_size, HB.out.p])) ?_))
    go_ret
    exact ⟨bret HR.out.symm, HX.out⟩
  by_cases n3 : a.n = b.n
  rotate_left
  · have HR : Hid (decide (a = b) = false) := decide_eq_false (fun e => n3 (by rw [e]))
    have q0 : (a.k == b.k) = true := (beq_iff_eq.2 n0)
    have p0 : (a.k != b.k) = false := (by rw [bne_eq_false_iff_eq]; exact n0)
    have q1 : (a.b == b.b) = true := (beq_iff_eq.2 n1)
    have p1 : (a.b != b.b) = false := (by rw [bne_eq_false_iff_eq]; exact n1)
    have q2 : ∀ w, (Op.equalIn 10000 25 (.agg (idA a.id)) (.agg (idA b.id))).run Tryd.prog w = .ok true w := fun w => eqIdT w HA.out.id HB.out.id _ (beq_iff_eq.2 n2)
    have q3 : (a.n == b.n) = false := (beq_eq_false_iff_ne.2 n3)
    have p3 : (a.n != b.n) = true := (bne_iff_ne.2 n3)
    clear n0 n1 n2 n3
    skip
    go_enter Tryd.func11, Tryd.ntmps11
    go_upto_region 1 with fail
    generalize (w.alloc (.cells (evA a pa ca qa ka) 37)).alloc (.cells (evA b pb cb qb kb) 37) = w1 at *
    skip
    go_wp2_with (first
      | ((with_reducible refine wpAt 21 ?_); refine loadM (by rfl) 25 _ rfl w.heap.size 67 rfl (idA a.id) _ HC.out.id Tryd.underlying25 rfl (infoId _ (by rw [idA_size, HA.out.id])) ?_)
      | ((with_reducible refine wpAt 23 ?_); refine loadM (by rfl) 25 _ rfl (w.heap.size + 1) 67 rfl (idA b.id) _ HD.out.id Tryd.underlying25 rfl (infoId _ (by rw [idA_size, HB.out.id])) ?_)
      | ((with_reducible refine wpAt 35 ?_); refine loadM (by rfl) 29 _ rfl w.heap.size 100 rfl (u3L a).toArray _ HC.out.us Tryd.underlying29 rfl (infoU3 _ rfl) ?_)
      | ((with_reducible refine wpAt 37 ?_); refine loadM (by rfl) 29 _ rfl (w.heap.size + 1) 100 rfl (u3L b).toArray _ HD.out.us Tryd.underlying29 rfl (infoU3 _ rfl) ?_)
      | ((with_reducible refine wpAt 43 ?_); refine loadM (by rfl) 25 _ rfl w.heap.size 2 rfl (idA a.h) _ HC.out.h Tryd.underlying25 rfl (infoId _ (by rw [idA_size, HA.out.h])) ?_)
      | ((with_reducible refine wpAt 46 ?_); refine loadM (by rfl) 25 _ rfl (w.heap.size + 1) 2 rfl (idA b.h) _ HD.out.h Tryd.underlying25 rfl (infoId _ (by rw [idA_size, HB.out.h])) ?_)
      | ((with_reducible refine wpAt 52 ?_); refine loadM (by rfl) 25 _ rfl w.heap.size 34 rfl (idA a.p) _ HC.out.p Tryd.underlying25 rfl (infoId _ (by rw [idA_size, HA.out.p])) ?_)
      | ((with_reducible refine wpAt 55 ?_); refine loadM (by rfl) 25 _ rfl (w.heap.size + 1) 34 rfl (idA b.p) _ HD.out.p Tryd.underlying25 rfl (infoId _ (by rw [idA_size, HB.out.p])) ?_))
    go_ret
    exact ⟨bret HR.out.symm, HX.out⟩
  by_cases n4 : (a.u0 = b.u0 ∧ a.u1 = b.u1 ∧ a.u2 = b.u2)
  rotate_left
  · have HR : Hid (decide (a = b) = false) := decide_eq_false (fun e => n4 (by rw [e]; exact ⟨rfl, rfl, rfl⟩))
    have q0 : (a.k == b.k) = true := (beq_iff_eq.2 n0)
    have p0 : (a.k != b.k) = false := (by rw [bne_eq_false_iff_eq]; exact n0)
    have q1 : (a.b == b.b) = true := (beq_iff_eq.2 n1)
    have p1 : (a.b != b.b) = false := (by rw [bne_eq_false_iff_eq]; exact n1)
    have q2 : ∀ w, (Op.equalIn 10000 25 (.agg (idA a.id)) (.agg (idA b.id))).run Tryd.prog w = .ok true w := fun w => eqIdT w HA.out.id HB.out.id _ (beq_iff_eq.2 n2)
    have q3 : (a.n == b.n) = true := (beq_iff_eq.2 n3)
    have p3 : (a.n != b.n) = false := (by rw [bne_eq_false_iff_eq]; exact n3)
    have q4 : ∀ w, (Op.equalIn 10000 29 (.agg (u3L a).toArray) (.agg (u3L b).toArray)).run Tryd.prog w = .ok false w := fun w => eqU3T w _ (decide_eq_false n4)
    clear n0 n1 n2 n3 n4
    skip
    go_enter Tryd.func11, Tryd.ntmps11
    go_upto_region 1 with fail
    generalize (w.alloc (.cells (evA a pa ca qa ka) 37)).alloc (.cells (evA b pb cb qb kb) 37) = w1 at *
    skip
    go_wp2_with (first
      | ((with_reducible refine wpAt 21 ?_); refine loadM (by rfl) 25 _ rfl w.heap.size 67 rfl (idA a.id) _ HC.out.id Tryd.underlying25 rfl (infoId _ (by rw [idA_size, HA.out.id])) ?_)
      | ((with_reducible refine wpAt 23 ?_); refine loadM (by rfl) 25 _ rfl (w.heap.size + 1) 67 rfl (idA b.id) _ HD.out.id Tryd.underlying25 rfl (infoId _ (by rw [idA_size, HB.out.id])) ?_)
      | ((with_reducible refine wpAt 35 ?_); refine loadM (by rfl) 29 _ rfl w.heap.size 100 rfl (u3L a).toArray _ HC.out.us Tryd.underlying29 rfl (infoU3 _ rfl) ?_)
      | ((with_reducible refine wpAt 37 ?_); refine loadM (by rfl) 29 _ rfl (w.heap.size + 1) 100 rfl (u3L b).toArray _ HD.out.us Tryd.underlying29 rfl (infoU3 _ rfl) ?_)
      | ((with_reducible refine wpAt 43 ?_); refine loadM (by rfl) 25 _ rfl w.heap.size 2 rfl (idA a.h) _ HC.out.h Tryd.underlying25 rfl (infoId _ (by rw [idA_size, HA.out.h])) ?_)
      | ((with_reducible refine wpAt 46 ?_); refine loadM (by rfl) 25 _ rfl (w.heap.size + 1) 2 rfl (idA b.h) _ HD.out.h Tryd.underlying25 rfl (infoId _ (by rw [idA_size, HB.out.h])) ?_)
      | ((with_reducible refine wpAt 52 ?_); refine loadM (by rfl) 25 _ rfl w.heap.size 34 rfl (idA a.p) _ HC.out.p Tryd.underlying25 rfl (infoId _ (by rw [idA_size, HA.out.p])) ?_)
      | ((with_reducible refine wpAt 55 ?_); refine loadM (by rfl) 25 _ rfl (w.heap.size + 1) 34 rfl (idA b.p) _ HD.out.p Tryd.underlying25 rfl (infoId _ (by rw [idA_size, HB.out.p])) ?_))
    go_ret
    exact ⟨bret HR.out.symm, HX.out⟩
  by_cases n5 : a.h = b.h
  rotate_left
  · have HR : Hid (decide (a = b) = false) := decide_eq_false (fun e => n5 (by rw [e]))
    have q0 : (a.k == b.k) = true := (beq_iff_eq.2 n0)
    have p0 : (a.k != b.k) = false := (by rw [bne_eq_false_iff_eq]; exact n0)
    have q1 : (a.b == b.b) = true := (beq_iff_eq.2 n1)
    have p1 : (a.b != b.b) = false := (by rw [bne_eq_false_iff_eq]; exact n1)
    have q2 : ∀ w, (Op.equalIn 10000 25 (.agg (idA a.id)) (.agg (idA b.id))).run Tryd.prog w = .ok true w := fun w => eqIdT w HA.out.id HB.out.id _ (beq_iff_eq.2 n2)
    have q3 : (a.n == b.n) = true := (beq_iff_eq.2 n3)
    have p3 : (a.n != b.n) = false := (by rw [bne_eq_false_iff_eq]; exact n3)
    have q4 : ∀ w, (Op.equalIn 10000 29 (.agg (u3L a).toArray) (.agg (u3L b).toArray)).run Tryd.prog w = .ok true w := fun w => eqU3T w _ (decide_eq_true n4)
    have q5 : ∀ w, (Op.equalIn 10000 25 (.agg (idA a.h)) (.agg (idA b.h))).run Tryd.prog w = .ok false w := fun w => eqIdT w HA.out.h HB.out.h _ (beq_eq_false_iff_ne.2 n5)
    clear n0 n1 n2 n3 n4 n5
    skip
    go_enter Tryd.func11, Tryd.ntmps11
    go_upto_region 1 with fail
    generalize (w.alloc (.cells (evA a pa ca qa ka) 37)).alloc (.cells (evA b pb cb qb kb) 37) = w1 at *
    skip
    go_wp2_with (first
      | ((with_reducible refine wpAt 21 ?_); refine loadM (by rfl) 25 _ rfl w.heap.size 67 rfl (idA a.id) _ HC.out.id Tryd.underlying25 rfl (infoId _ (by rw [idA_size, HA.out.id])) ?_)
      | ((with_reducible refine wpAt 23 ?_); refine loadM (by rfl) 25 _ rfl (w.heap.size + 1) 67 rfl (idA b.id) _ HD.out.id Tryd.underlying25 rfl (infoId _ (by rw [idA_size, HB.out.id])) ?_)
      | ((with_reducible refine wpAt 35 ?_); refine loadM (by rfl) 29 _ rfl w.heap.size 100 rfl (u3L a).toArray _ HC.out.us Tryd.underlying29 rfl (infoU3 _ rfl) ?_)
      | ((with_reducible refine wpAt 37 ?_); refine loadM (by rfl) 29 _ rfl (w.heap.size + 1) 100 rfl (u3L b).toArray _ HD.out.us Tryd.underlying29 rfl (infoU3 _ rfl) ?_)
      | ((with_reducible refine wpAt 43 ?_); refine loadM (by rfl) 25 _ rfl w.heap.size 2 rfl (idA a.h) _ HC.out.h Tryd.underlying25 rfl (infoId _ (by rw [idA_size, HA.out.h])) ?_)
      | ((with_reducible refine wpAt 46 ?_); refine loadM (by rfl) 25 _ rfl (w.heap.size + 1) 2 rfl (idA b.h) _ HD.out.h Tryd.underlying25 rfl (infoId _ (by rw [idA_size, HB.out.h])) ?_)
      | ((with_reducible refine wpAt 52 ?_); refine loadM (by rfl) 25 _ rfl w.heap.size 34 rfl (idA a.p) _ HC.out.p Tryd.underlying25 rfl (infoId _ (by rw [idA_size, HA.out.p])) ?_)
      | ((with_reducible refine wpAt 55 ?_); refine loadM (by rfl) 25 _ rfl (w.heap.size + 1) 34 rfl (idA b.p) _ HD.out.p Tryd.underlying25 rfl (infoId _ (by rw [idA_size, HB.out.p])) ?_))
    go_ret
    exact ⟨bret HR.out.symm, HX.out⟩
  by_cases n6 : a.p = b.p
  rotate_left
  · have HR : Hid (decide (a = b) = false) := decide_eq_false (fun e => n6 (by rw [e]))
    have q0 : (a.k == b.k) = true := (beq_iff_eq.2 n0)
    have p0 : (a.k != b.k) = false := (by rw [bne_eq_false_iff_eq]; exact n0)
    have q1 : (a.b == b.b) = true := (beq_iff_eq.2 n1)
    have p1 : (a.b != b.b) = false := (by rw [bne_eq_false_iff_eq]; exact n1)
    have q2 : ∀ w, (Op.equalIn 10000 25 (.agg (idA a.id)) (.agg (idA b.id))).run Tryd.prog w = .ok true w := fun w => eqIdT w HA.out.id HB.out.id _ (beq_iff_eq.2 n2)
    have q3 : (a.n == b.n) = true := (beq_iff_eq.2 n3)
    have p3 : (a.n != b.n) = false := (by rw [bne_eq_false_iff_eq]; exact n3)
    have q4 : ∀ w, (Op.equalIn 10000 29 (.agg (u3L a).toArray) (.agg (u3L b).toArray)).run Tryd.prog w = .ok true w := fun w => eqU3T w _ (decide_eq_true n4)
    have q5 : ∀ w, (Op.equalIn 10000 25 (.agg (idA a.h)) (.agg (idA b.h))).run Tryd.prog w = .ok true w := fun w => eqIdT w HA.out.h HB.out.h _ (beq_iff_eq.2 n5)
    have q6 : ∀ w, (Op.equalIn 10000 25 (.agg (idA a.p)) (.agg (idA b.p))).run Tryd.prog w = .ok false w := fun w => eqIdT w HA.out.p HB.out.p _ (beq_eq_false_iff_ne.2 n6)
    clear n0 n1 n2 n3 n4 n5 n6
    skip
    go_enter Tryd.func11, Tryd.ntmps11
    go_upto_region 1 with fail
    generalize (w.alloc (.cells (evA a pa ca qa ka) 37)).alloc (.cells (evA b pb cb qb kb) 37) = w1 at *
    skip
    go_wp2_with (first
      | ((with_reducible refine wpAt 21 ?_); refine loadM (by rfl) 25 _ rfl w.heap.size 67 rfl (idA a.id) _ HC.out.id Tryd.underlying25 rfl (infoId _ (by rw [idA_size, HA.out.id])) ?_)
      | ((with_reducible refine wpAt 23 ?_); refine loadM (by rfl) 25 _ rfl (w.heap.size + 1) 67 rfl (idA b.id) _ HD.out.id Tryd.underlying25 rfl (infoId _ (by rw [idA_size, HB.out.id])) ?_)
      | ((with_reducible refine wpAt 35 ?_); refine loadM (by rfl) 29 _ rfl w.heap.size 100 rfl (u3L a).toArray _ HC.out.us Tryd.underlying29 rfl (infoU3 _ rfl) ?_)
      | ((with_reducible refine wpAt 37 ?_); refine loadM (by rfl) 29 _ rfl (w.heap.size + 1) 100 rfl (u3L b).toArray _ HD.out.us Tryd.underlying29 rfl (infoU3 _ rfl) ?_)
      | ((with_reducible refine wpAt 43 ?_); refine loadM (by rfl) 25 _ rfl w.heap.size 2 rfl (idA a.h) _ HC.out.h Tryd.underlying25 rfl (infoId _ (by rw [idA_size, HA.out.h])) ?_)
      | ((with_reducible refine wpAt 46 ?_); refine loadM (by rfl) 25 _ rfl (w.heap.size + 1) 2 rfl (idA b.h) _ HD.out.h Tryd.underlying25 rfl (infoId _ (by rw [idA_size, HB.out.h])) ?_)
      | ((with_reducible refine wpAt 52 ?_); refine loadM (by rfl) 25 _ rfl w.heap.size 34 rfl (idA a.p) _ HC.out.p Tryd.underlying25 rfl (infoId _ (by rw [idA_size, HA.out.p])) ?_)
      | ((with_reducible refine wpAt 55 ?_); refine loadM (by rfl) 25 _ rfl (w.heap.size + 1) 34 rfl (idA b.p) _ HD.out.p Tryd.underlying25 rfl (infoId _ (by rw [idA_size, HB.out.p])) ?_))
    go_ret
    exact ⟨bret HR.out.symm, HX.out⟩
  have q0 : (a.k == b.k) = true := (beq_iff_eq.2 n0)
  have p0 : (a.k != b.k) = false := (by rw [bne_eq_false_iff_eq]; exact n0)
  have q1 : (a.b == b.b) = true := (beq_iff_eq.2 n1)
  have p1 : (a.b != b.b) = false := (by rw [bne_eq_false_iff_eq]; exact n1)
  have q2 : ∀ w, (Op.equalIn 10000 25 (.agg (idA a.id)) (.agg (idA b.id))).run Tryd.prog w = .ok true w := fun w => eqIdT w HA.out.id HB.out.id _ (beq_iff_eq.2 n2)
  have q3 : (a.n == b.n) = true := (beq_iff_eq.2 n3)
  have p3 : (a.n != b.n) = false := (by rw [bne_eq_false_iff_eq]; exact n3)
  have q4 : ∀ w, (Op.equalIn 10000 29 (.agg (u3L a).toArray) (.agg (u3L b).toArray)).run Tryd.prog w = .ok true w := fun w => eqU3T w _ (decide_eq_true n4)
  have q5 : ∀ w, (Op.equalIn 10000 25 (.agg (idA a.h)) (.agg (idA b.h))).run Tryd.prog w = .ok true w := fun w => eqIdT w HA.out.h HB.out.h _ (beq_iff_eq.2 n5)
  have q6 : ∀ w, (Op.equalIn 10000 25 (.agg (idA a.p)) (.agg (idA b.p))).run Tryd.prog w = .ok true w := fun w => eqIdT w HA.out.p HB.out.p _ (beq_iff_eq.2 n6)
  have HEQ : Hid (a.tx = b.tx ↔ a = b) := ⟨fun e => (ev_eq a b).2 ⟨n0, n1, n2, n3, n4, n5, n6, e⟩, fun e => by rw [e]⟩
  clear n0 n1 n2 n3 n4 n5 n6
  have HSM := Lib.hid (RR.idsSame_any qa qb a.tx.length ka b.tx.length kb a.tx b.tx _ HAT.out.ids HBT.out.ids)
  have HR : Hid ((a.tx == b.tx) = decide (a = b)) := by
    show _ = _
    rw [Bool.eq_iff_iff, beq_iff_eq, decide_eq_true_eq]
    exact HEQ.out
  skip
  go_enter Tryd.func11, Tryd.ntmps11
  go_upto_region 1 with fail
  generalize (w.alloc (.cells (evA a pa ca qa ka) 37)).alloc (.cells (evA b pb cb qb kb) 37) = w1 at *
  skip
  go_wp2_with (first
    | ((with_reducible refine wpAt 21 ?_); refine loadM (by rfl) 25 _ rfl w.heap.size 67 rfl (idA a.id) _ HC.out.id Tryd.underlying25 rfl (infoId _ (by rw [idA_size, HA.out.id])) ?_)
    | ((with_reducible refine wpAt 23 ?_); refine loadM (by rfl) 25 _ rfl (w.heap.size + 1) 67 rfl (idA b.id) _ HD.out.id Tryd.underlying25 rfl (infoId _ (by rw [idA_size, HB.out.id])) ?_)
    | ((with_reducible refine wpAt 35 ?_); refine loadM (by rfl) 29 _ rfl w.heap.size 100 rfl (u3L a).toArray _ HC.out.us Tryd.underlying29 rfl (infoU3 _ rfl) ?_)
    | ((with_reducible refine wpAt 37 ?_); refine loadM (by rfl) 29 _ rfl (w.heap.size + 1) 100 rfl (u3L b).toArray _ HD.out.us Tryd.underlying29 rfl (infoU3 _ rfl) ?_)
    | ((with_reducible refine wpAt 43 ?_); refine loadM (by rfl) 25 _ rfl w.heap.size 2 rfl (idA a.h) _ HC.out.h Tryd.underlying25 rfl (infoId _ (by rw [idA_size, HA.out.h])) ?_)
    | ((with_reducible refine wpAt 46 ?_); refine loadM (by rfl) 25 _ rfl (w.heap.size + 1) 2 rfl (idA b.h) _ HD.out.h Tryd.underlying25 rfl (infoId _ (by rw [idA_size, HB.out.h])) ?_)
    | ((with_reducible refine wpAt 52 ?_); refine loadM (by rfl) 25 _ rfl w.heap.size 34 rfl (idA a.p) _ HC.out.p Tryd.underlying25 rfl (infoId _ (by rw [idA_size, HA.out.p])) ?_)
    | ((with_reducible refine wpAt 55 ?_); refine loadM (by rfl) 25 _ rfl (w.heap.size + 1) 34 rfl (idA b.p) _ HD.out.p Tryd.underlying25 rfl (infoId _ (by rw [idA_size, HB.out.p])) ?_))
  refine HSM.out.mono ?_
  rintro e w2 ⟨rfl, hb2⟩
  have HX2 := Lib.hid (HX.out.trans (hb2.mono HX.out.size))
  go_wp2_with fail
  go_ret
  exact ⟨bret HR.out, HX2.out⟩
end Go.Proofs.YtcddgbobbogpgaaDoor.Scr
