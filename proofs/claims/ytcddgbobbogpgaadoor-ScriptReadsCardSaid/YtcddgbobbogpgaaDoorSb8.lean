/- PARTS, JOINED: SCRIPTS: the readers of a block and of numbers. Conditions: words that fit. SCRIPTS: the readers of numbers. Conditions: words that fit. SCRIPTS: Read. Conditions: a text that fits; the shape of bytealg.MaxLen. A REGION THAT DRAWS ITS ORDER WITHIN A ROUND OF A LOOP OVER A FUNCTION: the eager walk, there. No program is named. Conditions: no deferred call, no row of a table stands in it. SCRIPTS: Parse. Conditions: internal/bytealg.MaxLen holds an int. -/
import Derived.Test.YtcddgbobbogpgaaDoorSb1
import Derived.Test.YtcddgbobbogpgaaDoorSb2
import Derived.Test.YtcddgbobbogpgaaDoorSb3
import Derived.Test.YtcddgbobbogpgaaDoorSb4
import Derived.Test.YtcddgbobbogpgaaDoorSb5
import Derived.Test.YtcddgbobbogpgaaDoorSb6
import Derived.Test.YtcddgbobbogpgaaDoorSb7
namespace Go.Proofs.YtcddgbobbogpgaaDoor.Scr
open Go.RowKit Go.Mir Go.Mir.Hx Go.Mir.Parts HexW Rpl

theorem flat_drop : ∀ (ids : List (List UInt8)) (k : Nat), (∀ x ∈ ids, x.length = 32) → (ids.flatMap bytesV).drop (k * 32) = (ids.drop k).flatMap bytesV
  | [], k, _ => by simp
  | x :: r, 0, _ => by simp
  | x :: r, k + 1, h => by
    have hx : (bytesV x).length = 32 := by rw [bytesV_length]; exact h x (by simp)
    rw [List.flatMap_cons, List.drop_append, List.drop_of_length_le (by rw [hx]; omega), List.nil_append, hx, show (k + 1) * 32 - 32 = k * 32 by omega, flat_drop r k (fun y hy => h y (List.mem_cons_of_mem _ hy))]
    rfl
def cutI (p : Option Addr) (c k : Nat) : Option Addr := if c = k then p else p.map (·.add (k * 32))
theorem is_drop {w : World} {p : Option Addr} {L c : Nat} {ids : List (List UInt8)} (h : Is w p L c 32 ids) (k : Nat) (hk : k ≤ L) : Is w (cutI p c k) (L - k) (c - k) 32 (ids.drop k) := by
  have hle := h.sl.le
  have hmax := h.sl.max
  have hl := h.count
  have he : ∀ x ∈ ids.drop k, x.length = 32 := fun x hx => h.each x (List.mem_of_mem_drop hx)
  refine ⟨?_, he, by rw [List.length_drop]; omega⟩
  have hfl : ∀ l : List (List UInt8), (∀ x ∈ l, x.length = 32) → (l.flatMap bytesV).length = l.length * 32 := by
    intro l
    induction l with
    | nil => intro _; rfl
    | cons x r ih =>
      intro hx
      rw [List.flatMap_cons, List.length_append, bytesV_length, hx x (by simp), ih (fun y hy => hx y (List.mem_cons_of_mem _ hy)), List.length_cons]
      omega
  unfold cutI
  by_cases hc : c = k
  · have hm : L - k = 0 := by omega
    rw [if_pos hc, hm, hc, Nat.sub_self, List.drop_of_length_le (by omega)]
    exact ⟨by simp, Nat.le_refl _, by omega, fun _ => rfl, fun a ha j u hu => by simp at hu⟩
  · rw [if_neg hc]
    refine ⟨by rw [hfl _ he, List.length_drop]; omega, by omega, by omega, fun hq => ?_, fun a ha j u hu => ?_⟩
    · cases p with
      | none => have := h.sl.nil0 rfl; omega
      | some a => cases hq
    · cases p with
      | none => cases ha
      | some a0 =>
        obtain rfl := Option.some.inj ha
        have h1 : (ids.flatMap bytesV)[k * 32 + j]? = some u := by
          rw [← List.getElem?_drop, flat_drop ids k h.each]; exact hu
        have hj : k * 32 + j < (ids.flatMap bytesV).length := (List.getElem?_eq_some_iff.1 h1).1
        obtain ⟨b, o, hbo⟩ := h.sl.addr (by rw [hfl ids h.each] at hj; omega) (by omega)
        obtain rfl := Option.some.inj hbo
        have h2 := h.sl.cell _ rfl (k * 32 + j) u h1
        rw [add_none] at h2
        show w.cell? (((⟨b, o, none⟩ : Addr).add (k * 32)).add j) = some u
        rw [add_none, add_none, Nat.add_assoc]
        exact h2
theorem cutIR {w : World} {p : Option Addr} {L c : Nat} {ids : List (List UInt8)} (h : Is w p L c 32 ids) (k : Nat) (lo : Int) (hlo : lo = (k : Int)) (hk : k ≤ L) :
    ∀ w0, (Instr.sliceAt 26 (.slice p L c) (some (.int .i64 lo)) none none).run Tryd.prog w0 = .ok (.slice (cutI p c k) (L - k) (c - k)) w0 := by
  subst hlo
  have hle := h.sl.le
  have hmax := h.sl.max
  have hsz : (Tryd.prog.info? 25).map (·.size) = some 32 := by kernel_rfl
  obtain ⟨i, hi, hi1⟩ := Option.map_eq_some_iff.1 hsz
  intro w0
  have hb1 : (0 : Int) ≤ (L : Int) ∧ (L : Int) ≤ (c : Int) := by omega
  have hb3 : (0 : Int) ≤ (k : Int) ∧ (k : Int) ≤ (L : Int) := by omega
  simp [Instr.sliceAt, Instr.slice, cutI, run_underlying Tryd.underlying26, Instr.sliceBounds, Instr.sliceBound, asIntOf, sizeOf, typeInfo, hi, hi1, hb3]
  try omega
theorem tree_build {P : Program} {ops : Array Oper} {S : World → Prop} {Q : Exit → Act → World → Prop} {l : List Oper} {i : Nat} {r : Tr} {a : Act} {w : World} {op : Oper} (hn : nthO l i = some op) (hw : Region.wanted op (yielded ops a.tmps) = true) (t : TypeId) (parts : Array (Nat × Operand)) (ho : op.op = .build t parts)
    (vals : List (Nat × Value)) (hv : (parts.toList.map fun p => (p.1, a.eval p.2)) = vals) (cells : Array Value) (hb : P.built t vals = some cells) (h : wpTree P ops S Q l r (a.put op.dst (.agg cells)) w) : wpTree P ops S Q l (.take i r) a w := by
  refine tree_take hn hw (fun w' _ => ?_) h
  unfold execOp
  have hb' : P.built t (parts.map fun p => (p.1, a.eval p.2)).toList = some cells := by rw [Array.toList_map, hv]; exact hb
  simp only [ho, Sem.run_bind, Sem.run_pure, Result.andThen_ok, run_build w' t _ cells hb']
set_option maxRecDepth 100000 in
set_option maxHeartbeats 3200000 in
theorem clo_connect (rb g : Nat) (q : Option Addr) (n c : Nat) (r : List (List UInt8)) (w : World) (h : CE rb g w) (hW : Ws w q n c r) (hn : n ≤ 1000000) (hl : ∀ x ∈ r, x.length ≤ 1099511627776) :
    Calls Tryd.prog 56 #[.slice q n c, .pointer (some ⟨rb, 0, none⟩)] w (ClP g 2 r w) := by
  have H := Lib.hid h
  have HID := Lib.hid (ids_any q n c r w hW hn hl)
  have HRK : Hid (readK 2 r = (idsB r).bind fun l => if 2 ≤ l.length then some ⟨2, [], l.getD 0 [], l.getD 1 [], l.drop 2, zeros, 0, 0, 0, 0⟩ else none) := by
    show _ = _
    unfold readK
    rw [if_neg (by omega), if_pos rfl]
  clear h hW hn hl
  go_enter Tryd.func56, Tryd.ntmps56
  go_wp2_with fail
  refine HID.out.mono ?_
  rintro x w2 ⟨hb, hcase⟩
  have HB := Lib.hid hb
  have HLT := Lib.hid H.out.lt
  rcases hcase with ⟨l, p, cc, hl, rfl, his, hap⟩ | ⟨hl, rfl⟩
  rotate_left
  · have HNO : Hid (readK 2 r = none) := by show _ = _; rw [HRK.out, hl]; rfl
    clear hl hb
    go_wp2_with fail
    go_ret
    exact ⟨Turns.of_below HB.out, .inr ⟨HNO.out, rfl⟩⟩
  by_cases h1 : 2 ≤ l.length
  rotate_left
  · have q1 : decide ((l.length : Int) < 2) = true := decide_eq_true (by omega)
    have q2 : decide (l.length < 2) = true := decide_eq_true (by omega)
    have HNO : Hid (readK 2 r = none) := by show _ = _; rw [HRK.out, hl]; show (if 2 ≤ l.length then _ else _) = _; rw [if_neg h1]
    clear hl hb h1 his
    go_wp2_with fail
    go_ret
    exact ⟨Turns.of_below HB.out, .inr ⟨HNO.out, rfl⟩⟩
  have q1 : decide ((l.length : Int) < 2) = false := decide_eq_false (by omega)
  have q2 : decide (l.length < 2) = false := decide_eq_false (by omega)
  obtain ⟨z0, z1, zs, rfl⟩ : ∃ z0 z1 zs, l = z0 :: z1 :: zs := by
    match l, h1 with
    | a :: b :: t, _ => exact ⟨a, b, t, rfl⟩
  have hcc := his.sl.le
  have hcm := his.sl.max
  obtain ⟨b, o, rfl⟩ := his.sl.addr (by simp) (by omega)
  have HR0 := Lib.hid (his.range (by omega) 0 (by simp))
  have HR1 := Lib.hid (his.range (by omega) 1 (by simp))
  have HL0 : Hid (z0.length = 32) := his.each z0 (by simp)
  have HL1 : Hid (z1.length = 32) := his.each z1 (by simp)
  have HTX : Hid (∀ x ∈ zs, x.length = 32) := fun x hx => his.each x (List.mem_cons_of_mem _ (List.mem_cons_of_mem _ hx))
  obtain ⟨NL, hNL⟩ : ∃ NL, (z0 :: z1 :: zs).length = NL := ⟨_, rfl⟩
  have hcut := cutIR his 2 2 rfl h1
  have HDR := Lib.hid (is_drop his 2 h1)
  have HYES : Hid (readK 2 r = some ⟨2, [], z0, z1, zs, zeros, 0, 0, 0, 0⟩) := by
    show _ = _
    rw [HRK.out, hl]
    show (if 2 ≤ (z0 :: z1 :: zs).length then some (Ev.mk 2 [] z0 z1 zs zeros 0 0 0 0) else none) = _
    rw [if_pos h1]
  have HZN : Hid (NL - 2 = zs.length) := by show _ = _; rw [← hNL]; simp
  rw [hNL] at hcut HDR hcc h1 q1 q2 ⊢
  have h2i : (2 : Int) ≤ (NL : Int) := by omega
  have h0i : (0 : Int) < (NL : Int) := by omega
  have h1i : (1 : Int) < (NL : Int) := by omega
  have h0n : 0 < NL := by omega
  have h1n : 1 < NL := by omega
  have HNE : Hid (rb ≠ g) := fun e => by
    have h1 := H.out.box
    rw [e, H.out.row] at h1
    injection h1 with e1
    injection e1 with _ e2
    exact absurd e2 (by decide)
  have HBL : Hid (w.heap.size ≤ b) := hap _ rfl
  have HBG : Hid (b ≠ g) := fun e => by have h1 : w.heap.size ≤ b := hap _ rfl; have := HLT.out; omega
  have hbx := (H.out.below hb).box
  have HP0 : Hid (∀ w', Turns (fun j => j = g) w2 w' → w'.cell? ⟨rb, 0, none⟩ = some (.pointer (some ⟨g, 0, none⟩))) := fun w' ht => by rw [cell_of_row _ _ _ _ _ _ (ht.keep hbx HNE.out)]; rfl
  have HRG0 : Hid (∀ w', Turns (fun j => j = g) w2 w' → w'.rangeAt b o (idA z0).toList) := fun w' ht j v hv => by
    have := HR0.out j v hv
    rw [Nat.zero_mul, Nat.add_zero] at this
    exact ht.cell this HBG.out
  have HRG1 : Hid (∀ w', Turns (fun j => j = g) w2 w' → w'.rangeAt b (o + 32) (idA z1).toList) := fun w' ht j v hv => by
    have := HR1.out j v hv
    rw [Nat.one_mul] at this
    exact ht.cell this HBG.out
  have HEW : Hid (EW w g 31 (Ev.zero 0) none 0 none 0 w2.drew) := H.out.ew (hb.trans ((below_drew1 w2.heap.size w2).mono hb.size))
  have HTH := Lib.hid (HEW.out.there 2 65 (by omega))
  have HEX := Lib.hid (HEW.out.block z0 z1 zs HL0.out HL1.out HTX.out (cutI (some ⟨b, o, none⟩) cc 2) (cc - 2))
  have HBU := Lib.hid (built_blk z0 z1 (cutI (some ⟨b, o, none⟩) cc 2) zs.length (cc - 2) HL0.out HL1.out)
  have HBS : Hid ((blkA z0 z1 (cutI (some ⟨b, o, none⟩) cc 2) zs.length (cc - 2)).size = 65) := blkA_size HL0.out HL1.out _ _ _
  rw [HZN.out] at hcut HDR
  clear hl hb his hap HID HRK hbx hNL
  go_upto_region 4 with fail
  refine wp_region_tree (fun w' => Turns (fun j => j = g) w2 w') (.take 0 (.take 1 (.take 2 (.take 3 (.take 4 (.take 5 (.take 6 (.take 7 (.take 8 (.take 9 (.take 10 (.take 11 (.one 12 .nil))))))))))))) (by kernel_rfl) (by kernel_rfl) (Turns.of_below (below_drew1 _ _)) ?_
  have ht0 : Turns (fun j => j = g) w2 w2.drew := Turns.of_below (below_drew1 _ _)
  repeat (first
    | (refine tree_load rfl (by rfl) 25 _ rfl b o rfl (idA z0) _ (fun w' hb => HRG0.out w' hb) Tryd.underlying25 rfl (infoId _ (by rw [idA_size, HL0.out])) ?_; try simp only [Act.put, List.setIfInBounds_toArray, List.set_cons_zero, List.set_cons_succ])
    | (refine tree_load rfl (by rfl) 25 _ rfl b (o + 32) rfl (idA z1) _ (fun w' hb => HRG1.out w' hb) Tryd.underlying25 rfl (infoId _ (by rw [idA_size, HL1.out])) ?_; try simp only [Act.put, List.setIfInBounds_toArray, List.set_cons_zero, List.set_cons_succ])
    | (refine tree_build rfl (by rfl) 28 _ rfl [(0, .agg (idA z0)), (1, .agg (idA z1)), (2, .slice (cutI (some ⟨b, o, none⟩) cc 2) zs.length (cc - 2))] rfl _ HBU.out ?_; try simp only [Act.put, List.setIfInBounds_toArray, List.set_cons_zero, List.set_cons_succ])
    | (apply tree_take; (· rfl); (· rfl); (· (intro w' hb'; go_simp; try with_reducible rfl)); try simp only [Act.put, List.setIfInBounds_toArray, List.set_cons_zero, List.set_cons_succ])
    | (apply tree_take; (· rfl); (· rfl); (· (intro w' hb'; have hk' := (HP0.out) w' hb'; go_simp; try with_reducible rfl)); try simp only [Act.put, List.setIfInBounds_toArray, List.set_cons_zero, List.set_cons_succ]))
  refine tree_one rfl (by rfl) (fun K hK => oper_of_list rfl ?_)
  refine wpList_store_mid rfl 28 _ _ rfl g 2 (blkA z0 z1 (cutI (some ⟨b, o, none⟩) cc 2) zs.length (cc - 2)) rfl rfl (by rw [HBS.out]; exact HTH.out) (infoBl _ HBS.out) (blkA_one _ _ _ _ _) ?_
  have ht1 := turns_setCells (S := fun j => j = g) rfl (blkA z0 z1 (cutI (some ⟨b, o, none⟩) cc 2) zs.length (cc - 2)).toList 2 _ ht0
  refine only_end (Shut.out hK _ _ ht1 ?_)
  clear hK K ht0 HP0 HRG0 HRG1
  try simp only [Act.put]
  refine tree_nil ?_
  have HAQ : Hid (∀ a, cutI (some ⟨b, o, none⟩) cc 2 = some a → a.block = b) := fun a ha => by
    unfold cutI at ha
    split at ha
    · obtain rfl := Option.some.inj ha; rfl
    · obtain rfl := Option.some.inj ha
      exact addr_add_block (⟨b, o, none⟩ : Addr) (2 * 32)
  have HIT := Lib.hid (is_turn HDR.out ht1 (fun a ha hg => HBG.out ((HAQ.out a ha).symm.trans hg)))
  clear ht1
  go_wp2_with fail
  go_ret
  exact ⟨HEX.out.turn, .inl ⟨_, none, 0, _, _, HYES.out, ⟨no_ap _, fun a ha => by rw [HAQ.out a ha]; exact HBL.out⟩, rfl, HEX.out.row, HEX.out.wf, Sl.nil _ _, HIT.out⟩⟩
end Go.Proofs.YtcddgbobbogpgaaDoor.Scr

namespace Go.Proofs.YtcddgbobbogpgaaDoor.Scr
open Go.RowKit Go.Mir Go.Mir.Hx Go.Mir.Parts HexW Rpl

theorem ptrs_sl (w : World) (g : Nat) (t : TypeId) (os : List Nat) (hl : os.length ≤ 1000) : Sl (w.alloc (.cells (ptrsV g os).toArray t)) (some ⟨w.heap.size, 0, none⟩) os.length os.length 1 (ptrsV g os) :=
  ⟨by simp [ptrsV], Nat.le_refl _, by omega, fun h => (by cases h), fun a ha j u hu => by
    obtain rfl := Option.some.inj ha
    rw [add_none, Nat.zero_add, cell_of_row _ _ _ _ _ _ (heap_alloc_last _ _), ← Array.getElem?_toList]
    exact hu⟩
theorem CE.ne {rb g : Nat} {w : World} (H : CE rb g w) : rb ≠ g := fun e => by
  have h1 := H.box
  rw [e, H.row] at h1
  injection h1 with e1
  injection e1 with _ e2
  exact absurd e2 (by decide)
theorem putsE1 (v : Nat) : puts (evA (Ev.zero 0) none 0 none 0) [99] [v] = evA { Ev.zero 0 with n := (v : Int) } none 0 none 0 := eset_n (zero_wf zero_i64) none 0 none 0 (v : Int)
theorem putsE4 (a b c d : Nat) (ha : i64B (a : Int)) (hb : i64B (b : Int)) (hc : i64B (c : Int)) (_hd : i64B (d : Int)) : puts (evA (Ev.zero 0) none 0 none 0) [99, 100, 101, 102] [a, b, c, d] = evA { Ev.zero 0 with n := (a : Int), u0 := (b : Int), u1 := (c : Int), u2 := (d : Int) } none 0 none 0 := by
  have z := zero_wf zero_i64
  unfold puts puts puts puts puts
  rw [eset_n z]
  have w1 : Ev.Wf { Ev.zero 0 with n := (a : Int) } := ⟨z.h, z.p, z.id, z.tx, z.k, ha, z.u0, z.u1, z.u2⟩
  rw [eset_u0 w1]
  have w2 : Ev.Wf { Ev.zero 0 with n := (a : Int), u0 := (b : Int) } := ⟨z.h, z.p, z.id, z.tx, z.k, ha, hb, z.u1, z.u2⟩
  rw [eset_u1 w2]
  have w3 : Ev.Wf { Ev.zero 0 with n := (a : Int), u0 := (b : Int), u1 := (c : Int) } := ⟨z.h, z.p, z.id, z.tx, z.k, ha, hb, hc, z.u2⟩
  rw [eset_u2 w3]
theorem nat_i64 {v : Nat} (h : v ≤ 65535) : i64B (v : Int) := small_i64 (by omega)
set_option maxRecDepth 100000 in
set_option maxHeartbeats 1600000 in
theorem clo_arm (rb g : Nat) (q : Option Addr) (n c : Nat) (r : List (List UInt8)) (w : World) (h : CE rb g w) (hW : ∀ w', Turns (fun j => j = g) w w' → Ws w' q n c r) (hl : ∀ x ∈ r, x.length ≤ 1099511627776) :
    Calls Tryd.prog 57 #[.slice q n c, .pointer (some ⟨rb, 0, none⟩)] w (ClP g 5 r w) := by
  have hal := Below.allocs w (.cells #[.pointer (some ⟨g, 99, none⟩)] 107)
  have hrow := heap_alloc_last w (.cells #[.pointer (some ⟨g, 99, none⟩)] 107)
  have hp := h.ptr
  have hlt := h.lt
  have HNM := Lib.hid (numbers_any g 31 (evA (Ev.zero 0) none 0 none 0) [99] (fun o ho => by rw [List.mem_singleton] at ho; rw [ho, evA_size (zero_wf zero_i64)]; omega) (show 1 ≤ 1000 by decide) 65535 (by omega) q n c r (some ⟨w.heap.size, 0, none⟩) 1 (w.alloc (.cells #[.pointer (some ⟨g, 99, none⟩)] 107)) (Below.keepOld hal h.row)
    (fun w' ht => hW w' ((Turns.of_below hal).trans ht (fun _ _ h => h)))
    (fun w' ht => sl_turn (ptrs_sl w g 107 [99] (show 1 ≤ 1000 by decide)) ht (fun a ha hg => by obtain rfl := Option.some.inj ha; have hg : w.heap.size = g := hg; omega)) hl)
  have HAL := Lib.hid hal
  have H := Lib.hid h
  clear h hW hl hal hrow
  go_enter Tryd.func57, Tryd.ntmps57
  go_wp2_with fail
  refine HNM.out.mono ?_
  rintro x w2 ⟨ht, hcase⟩
  have HT := Lib.hid ((Turns.of_below (S := fun j => j = g) HAL.out).trans ht (fun _ _ h => h))
  rcases hcase with ⟨hlen, l, hnl, rfl, hrow⟩ | ⟨hbad, rfl, -⟩
  · have hlen : r.length = 1 := hlen
    obtain ⟨_, hle, hll⟩ := numsM_back hnl
    obtain ⟨v, rfl⟩ := List.length_eq_one_iff.1 (hll.trans hlen)
    have hv := hle v (by simp)
    rw [putsE1] at hrow
    have HROW := Lib.hid hrow
    have HV := Lib.hid (nat_i64 hv)
    have HYES : Hid (readK 5 r = some ⟨5, [], zeros, zeros, [], zeros, (v : Int), 0, 0, 0⟩) := by
      show _ = _
      unfold readK
      rw [if_neg (by omega), if_neg (by omega), if_neg (by omega), if_pos rfl, if_pos hlen, hnl]; rfl
    clear hnl hrow hv hle hll hlen ht
    go_wp2_with fail
    go_ret
    exact ⟨HT.out, .inl ⟨_, none, 0, none, 0, HYES.out, ⟨no_ap _, no_ap _⟩, rfl, HROW.out, ⟨rfl, rfl, rfl, no_tx, zero_i64, HV.out, zero_i64, zero_i64, zero_i64⟩, Sl.nil _ _, Is.nil _ _⟩⟩
  · have HNO : Hid (readK 5 r = none) := by
      show _ = _
      unfold readK
      rw [if_neg (by omega), if_neg (by omega), if_neg (by omega), if_pos rfl]
      rcases hbad with hb | hb
      · have hb : ¬ r.length = 1 := hb
        rw [if_neg hb]
      · split
        · rw [hb]; rfl
        · rfl
    clear ht hbad
    go_wp2_with fail
    go_ret
    exact ⟨HT.out, .inr ⟨HNO.out, rfl⟩⟩
theorem infoPI : (Tryd.prog.info? 107).map (fun i => (i.zero, i.size, i.bytes)) = some (some (.pointer none), 1, 8) := by kernel_rfl
theorem wpList_buildPtrs {ops : Array Oper} {rest : List Oper} {o : Oper} {a : Act} {w : World} {Q : Exit → Act → World → Prop} (hg : o.guard = none) (x0 x1 x2 x3 : Operand) (ho : o.op = .buildSlice 120 4 #[(0, x0), (1, x1), (2, x2), (3, x3)]) (p0 p1 p2 p3 : Option Addr) (h0 : a.eval x0 = .pointer p0) (h1 : a.eval x1 = .pointer p1) (h2 : a.eval x2 = .pointer p2) (h3 : a.eval x3 = .pointer p3)
    (h : wpList Tryd.prog ops Q rest (a.put o.dst (.slice (some ⟨w.heap.size, 0, none⟩) 4 4)) (w.alloc (.cells #[.pointer p0, .pointer p1, .pointer p2, .pointer p3] 107))) : wpList Tryd.prog ops Q (o :: rest) a w := by
  obtain ⟨i, hi, hiv⟩ := Option.map_eq_some_iff.1 infoPI
  have e1 : i.zero = some (.pointer none) := congrArg Prod.fst hiv
  have e2 : i.size = 1 := congrArg (fun z => z.2.1) hiv
  refine wpList_buildSlice hg 120 107 4 _ ho _ i _ Tryd.underlying120 hi e1 (by rw [e2]; omega) (by rw [e2]; omega) ?_ h
  have : (#[(0, x0), (1, x1), (2, x2), (3, x3)].map fun (p : Nat × Operand) => (p.1, a.eval p.2)).toList = [(0, .pointer p0), (1, .pointer p1), (2, .pointer p2), (3, .pointer p3)] := by simp [h0, h1, h2, h3]
  rw [this, e2, show Array.map (fun x => (Value.pointer none).cells[x % (Value.pointer none).cells.size]!) (Array.range (4 * 1)) = #[.pointer none, .pointer none, .pointer none, .pointer none] from by kernel_rfl]
  simp [Instr.fill, Value.cells]
set_option maxRecDepth 100000 in
set_option maxHeartbeats 3200000 in
theorem clo_restart (rb g : Nat) (q : Option Addr) (n c : Nat) (r : List (List UInt8)) (w : World) (h : CE rb g w) (hW : ∀ w', Turns (fun j => j = g) w w' → Ws w' q n c r) (hl : ∀ x ∈ r, x.length ≤ 1099511627776) :
    Calls Tryd.prog 58 #[.slice q n c, .pointer (some ⟨rb, 0, none⟩)] w (ClP g 6 r w) := by
  have hd := below_drew1 w.heap.size w
  have hal0 := Below.allocs w.drew (.cells #[.pointer (some ⟨g, 99, none⟩), .pointer (some ⟨g, 100, none⟩), .pointer (some ⟨g, 101, none⟩), .pointer (some ⟨g, 102, none⟩)] 107)
  have hal : Below w.heap.size w (w.drew.alloc (.cells #[.pointer (some ⟨g, 99, none⟩), .pointer (some ⟨g, 100, none⟩), .pointer (some ⟨g, 101, none⟩), .pointer (some ⟨g, 102, none⟩)] 107)) := hd.trans hal0
  have hlt := h.lt
  have HP0 : Hid (∀ w', Turns (fun j => j = g) w w' → w'.cell? ⟨rb, 0, none⟩ = some (.pointer (some ⟨g, 0, none⟩))) := fun w' ht => by rw [cell_of_row _ _ _ _ _ _ (ht.keep h.box h.ne)]; rfl
  have HNM := Lib.hid (numbers_any g 31 (evA (Ev.zero 0) none 0 none 0) [99, 100, 101, 102] (fun o ho => by rw [evA_size (zero_wf zero_i64)]; simp at ho; omega) (show 4 ≤ 1000 by decide) 65535 (by omega) q n c r (some ⟨w.drew.heap.size, 0, none⟩) 4 (w.drew.alloc (.cells #[.pointer (some ⟨g, 99, none⟩), .pointer (some ⟨g, 100, none⟩), .pointer (some ⟨g, 101, none⟩), .pointer (some ⟨g, 102, none⟩)] 107)) (Below.keepOld hal h.row)
    (fun w' ht => hW w' ((Turns.of_below hal).trans ht (fun _ _ h => h)))
    (fun w' ht => sl_turn (ptrs_sl w.drew g 107 [99, 100, 101, 102] (show 4 ≤ 1000 by decide)) ht (fun a ha hg => by obtain rfl := Option.some.inj ha; have hg : w.heap.size = g := hg; omega)) hl)
  have HAL := Lib.hid hal
  have H := Lib.hid h
  clear h hW hl hal hal0 hd
  go_enter Tryd.func58, Tryd.ntmps58
  go_upto_region 1 with fail
  refine wp_region_tree (fun w' => Turns (fun j => j = g) w w') (.take 0 (.take 1 (.take 2 (.take 3 (.take 4 (.take 5 (.take 6 (.take 7 (.take 8 (.take 9 (.take 10 (.take 11 (.take 12 (.take 13 (.take 14 (.take 15 (.one 16 (.one 17 (.one 18 .nil))))))))))))))))))) (by kernel_rfl) (by kernel_rfl) (Turns.of_below (below_drew1 _ _)) ?_
  repeat (first
    | (apply tree_take; (· rfl); (· rfl); (· (intro w' hb'; go_simp; try with_reducible rfl)); try simp only [Act.put, List.setIfInBounds_toArray, List.set_cons_zero, List.set_cons_succ])
    | (apply tree_take; (· rfl); (· rfl); (· (intro w' hb'; have hk' := (HP0.out) w' hb'; go_simp; try with_reducible rfl)); try simp only [Act.put, List.setIfInBounds_toArray, List.set_cons_zero, List.set_cons_succ]))
  refine tree_one rfl (by rfl) (fun K hK => oper_of_list rfl ?_)
  refine wpList_buildPtrs rfl _ _ _ _ rfl (some ⟨g, 99, none⟩) (some ⟨g, 100, none⟩) (some ⟨g, 101, none⟩) (some ⟨g, 102, none⟩) rfl rfl rfl rfl ?_
  refine only_end (Shut.out hK _ _ (Turns.of_below HAL.out) ?_)
  clear hK K
  try simp only [Act.put, List.setIfInBounds_toArray, List.set_cons_zero, List.set_cons_succ]
  refine tree_one rfl (by rfl) (fun K hK => ?_)
  go_simp
  refine HNM.out.mono ?_
  rintro x w2 ⟨ht, hcase⟩
  have hT := (Turns.of_below (S := fun j => j = g) HAL.out).trans ht (fun _ _ h => h)
  have HT := Lib.hid hT
  rcases hcase with ⟨hlen, l, hnl, rfl, hrow⟩ | ⟨hbad, rfl, -⟩
  · have hlen : r.length = 4 := hlen
    obtain ⟨_, hle, hll⟩ := numsM_back hnl
    have hl4 : l.length = 4 := hll.trans hlen
    obtain ⟨v0, v1, v2, v3, rfl⟩ : ∃ v0 v1 v2 v3, l = [v0, v1, v2, v3] := by
      match l, hl4 with
      | [a, b, c, d], _ => exact ⟨a, b, c, d, rfl⟩
    have i0 := nat_i64 (hle v0 (by simp))
    have i1 := nat_i64 (hle v1 (by simp))
    have i2 := nat_i64 (hle v2 (by simp))
    have i3 := nat_i64 (hle v3 (by simp))
    rw [putsE4 v0 v1 v2 v3 i0 i1 i2 i3] at hrow
    have HROW := Lib.hid hrow
    have HV : Hid (i64B (v0 : Int) ∧ i64B (v1 : Int) ∧ i64B (v2 : Int) ∧ i64B (v3 : Int)) := ⟨i0, i1, i2, i3⟩
    have HYES : Hid (readK 6 r = some ⟨6, [], zeros, zeros, [], zeros, (v0 : Int), (v1 : Int), (v2 : Int), (v3 : Int)⟩) := by
      show _ = _
      unfold readK
      rw [if_neg (by omega), if_neg (by omega), if_neg (by omega), if_neg (by omega), if_pos rfl, if_pos hlen, hnl]; rfl
    clear hnl hrow hle hll hlen ht i0 i1 i2 i3 hl4
    refine Shut.out hK _ _ hT ?_
    clear hK K
    try simp only [Act.put, List.setIfInBounds_toArray, List.set_cons_zero, List.set_cons_succ]
    refine tree_one rfl (by rfl) (fun K hK => ?_)
    go_simp
    refine Shut.out hK _ _ hT ?_
    clear hK K
    try simp only [Act.put, List.setIfInBounds_toArray, List.set_cons_zero, List.set_cons_succ]
    refine tree_nil ?_
    go_wp2_with fail
    go_ret
    exact ⟨HT.out, .inl ⟨_, none, 0, none, 0, HYES.out, ⟨no_ap _, no_ap _⟩, rfl, HROW.out, ⟨rfl, rfl, rfl, no_tx, zero_i64, HV.out.1, HV.out.2.1, HV.out.2.2.1, HV.out.2.2.2⟩, Sl.nil _ _, Is.nil _ _⟩⟩
  · have HNO : Hid (readK 6 r = none) := by
      show _ = _
      unfold readK
      rw [if_neg (by omega), if_neg (by omega), if_neg (by omega), if_neg (by omega), if_pos rfl]
      rcases hbad with hb | hb
      · have hb : ¬ r.length = 4 := hb
        rw [if_neg hb]
      · split
        · rw [hb]; rfl
        · rfl
    clear ht hbad
    refine Shut.out hK _ _ hT ?_
    clear hK K
    try simp only [Act.put, List.setIfInBounds_toArray, List.set_cons_zero, List.set_cons_succ]
    refine tree_one rfl (by rfl) (fun K hK => ?_)
    go_simp
    refine Shut.out hK _ _ hT ?_
    clear hK K
    try simp only [Act.put, List.setIfInBounds_toArray, List.set_cons_zero, List.set_cons_succ]
    refine tree_nil ?_
    go_wp2_with fail
    go_ret
    exact ⟨HT.out, .inr ⟨HNO.out, rfl⟩⟩
end Go.Proofs.YtcddgbobbogpgaaDoor.Scr

namespace Go.Proofs.YtcddgbobbogpgaaDoor.Scr
open Go.RowKit Go.Mir Go.Mir.Hx Go.Mir.Parts HexW Rpl

def fK (k : Nat) : FuncId := if k = 1 then 54 else if k = 2 then 56 else if k = 5 then 57 else if k = 6 then 58 else 52
theorem cloK_fK (k rb : Nat) : cloK k rb = .func (.func (fK k)) #[] #[.pointer (some ⟨rb, 0, none⟩)] := by
  unfold cloK fK clo
  split
  · rfl
  · split
    · rfl
    · split
      · rfl
      · split
        · rfl
        · rfl
theorem clo_any (k rb g : Nat) (hk : 1 ≤ k ∧ k ≤ 6) (q : Option Addr) (n c : Nat) (r : List (List UInt8)) (w : World) (h : CE rb g w) (hW : ∀ w', Turns (fun j => j = g) w w' → Ws w' q n c r) (hn : n ≤ 1000000) (hl : ∀ x ∈ r, x.length ≤ 1099511627776) :
    Calls Tryd.prog (fK k) #[.slice q n c, .pointer (some ⟨rb, 0, none⟩)] w (ClP g k r w) := by
  have hc : k = 1 ∨ k = 2 ∨ k = 3 ∨ k = 4 ∨ k = 5 ∨ k = 6 := by omega
  have h0 := hW w (Turns.refl _ w)
  rcases hc with rfl | rfl | rfl | rfl | rfl | rfl
  · exact clo_frame rb g q n c r w h h0 hl
  · exact clo_connect rb g q n c r w h h0 hn hl
  · exact clo_one rb g 3 (.inl rfl) q n c r w h h0 hn hl
  · exact clo_one rb g 4 (.inr rfl) q n c r w h h0 hn hl
  · exact clo_arm rb g q n c r w h hW hl
  · exact clo_restart rb g q n c r w h hW hl
theorem enterK1 (args : Array Value) (w : World) : (callFunc (fK 1) args).run Tryd.prog w = .ok (.enter (fK 1) args) w := by kernel_rfl
theorem enterK2 (args : Array Value) (w : World) : (callFunc (fK 2) args).run Tryd.prog w = .ok (.enter (fK 2) args) w := by kernel_rfl
theorem enterK3 (args : Array Value) (w : World) : (callFunc (fK 3) args).run Tryd.prog w = .ok (.enter (fK 3) args) w := by kernel_rfl
theorem enterK4 (args : Array Value) (w : World) : (callFunc (fK 4) args).run Tryd.prog w = .ok (.enter (fK 4) args) w := by kernel_rfl
theorem enterK5 (args : Array Value) (w : World) : (callFunc (fK 5) args).run Tryd.prog w = .ok (.enter (fK 5) args) w := by kernel_rfl
theorem enterK6 (args : Array Value) (w : World) : (callFunc (fK 6) args).run Tryd.prog w = .ok (.enter (fK 6) args) w := by kernel_rfl
theorem enterK {k : Nat} (h : 1 ≤ k ∧ k ≤ 6) (args : Array Value) (w : World) : (callFunc (fK k) args).run Tryd.prog w = .ok (.enter (fK k) args) w := by
  have hc : k = 1 ∨ k = 2 ∨ k = 3 ∨ k = 4 ∨ k = 5 ∨ k = 6 := by omega
  rcases hc with rfl | rfl | rfl | rfl | rfl | rfl
  · exact enterK1 args w
  · exact enterK2 args w
  · exact enterK3 args w
  · exact enterK4 args w
  · exact enterK5 args w
  · exact enterK6 args w
theorem readK_k {k : Nat} {r : List (List UInt8)} {e : Ev} (h : readK k r = some e) : e.k = (k : Int) ∧ 1 ≤ k ∧ k ≤ 6 := by
  unfold readK at h
  by_cases k1 : k = 1
  · rw [if_pos k1] at h
    split at h
    · obtain ⟨b, _, rfl⟩ := Option.map_eq_some_iff.1 h
      subst k1; exact ⟨rfl, by omega, by omega⟩
    · cases h
  · rw [if_neg k1] at h
    by_cases k2 : k = 2
    · rw [if_pos k2] at h
      obtain ⟨l, _, h⟩ := Option.bind_eq_some_iff.1 h
      split at h
      · obtain rfl := Option.some.inj h
        subst k2; exact ⟨rfl, by omega, by omega⟩
      · cases h
    · rw [if_neg k2] at h
      by_cases k3 : k = 3 ∨ k = 4
      · rw [if_pos k3] at h
        obtain ⟨l, _, h⟩ := Option.bind_eq_some_iff.1 h
        split at h
        · obtain rfl := Option.some.inj h
          exact ⟨rfl, by omega, by omega⟩
        · cases h
      · rw [if_neg k3] at h
        by_cases k5 : k = 5
        · rw [if_pos k5] at h
          split at h
          · obtain ⟨b, _, rfl⟩ := Option.map_eq_some_iff.1 h
            subst k5; exact ⟨rfl, by omega, by omega⟩
          · cases h
        · rw [if_neg k5] at h
          by_cases k6 : k = 6
          · rw [if_pos k6] at h
            split at h
            · obtain ⟨b, _, rfl⟩ := Option.map_eq_some_iff.1 h
              subst k6; exact ⟨rfl, by omega, by omega⟩
            · cases h
          · rw [if_neg k6] at h; cases h
theorem readK_0 (r : List (List UInt8)) : readK 0 r = none := by
  cases h : readK 0 r with
  | none => rfl
  | some e => have := (readK_k h).2.1; omega
def ReadP (r : Option Ev) (w : World) (x : Ending) (w' : World) : Prop := ∃ pb cb q c, x = .returned (.tuple #[.agg (evA (r.getD (Ev.zero 0)) pb cb q c), .bool r.isSome]) ∧ EvAt w' (r.getD (Ev.zero 0)) pb cb q c ∧ Below w.heap.size w w'
/-- the same, and where its parts lie -/
def ReadQ (r : Option Ev) (w : World) (x : Ending) (w' : World) : Prop := ∃ pb cb q c, x = .returned (.tuple #[.agg (evA (r.getD (Ev.zero 0)) pb cb q c), .bool r.isSome]) ∧ EvAt w' (r.getD (Ev.zero 0)) pb cb q c ∧ ((∀ a, pb = some a → w.heap.size ≤ a.block) ∧ ∀ a, q = some a → w.heap.size ≤ a.block) ∧ Below w.heap.size w w'
theorem zero_at (w : World) (k : Int) (hk : i64B k) : EvAt w (Ev.zero k) none 0 none 0 := ⟨zero_wf hk, Sl.nil _ _, Is.nil _ _⟩
theorem sp_length : ∀ s : List UInt8, (sp s).length ≤ s.length + 1
  | [] => by decide
  | c :: r => by
    have h := sp_length r
    obtain ⟨a, t, e⟩ := sp_form r
    rw [e] at h
    by_cases hc : c = 32
    · subst hc
      rw [sp_blank, e]
      simp only [List.length_cons] at h ⊢
      omega
    · rw [sp_sign hc e]
      simp only [List.length_cons] at h ⊢
      omega
theorem K6_inj {k i : Nat} (hk : k ≤ 6) (hi : i ≤ 6) (h : K6.getD i [] = K6.getD k []) : i = k := by
  have : ∀ i < 7, ∀ k < 7, K6.getD i [] = K6.getD k [] → i = k := by decide
  exact this i (by omega) k (by omega) h
theorem idxN0 (w : World) : (Instr.index 63 (.agg (strV K6).toArray) (.int .i64 0)).run Tryd.prog w = .ok (.string (S (K6.getD 0 []))) w := by kernel_rfl
theorem idxN1 (w : World) : (Instr.index 63 (.agg (strV K6).toArray) (.int .i64 1)).run Tryd.prog w = .ok (.string (S (K6.getD 1 []))) w := by kernel_rfl
theorem idxN2 (w : World) : (Instr.index 63 (.agg (strV K6).toArray) (.int .i64 2)).run Tryd.prog w = .ok (.string (S (K6.getD 2 []))) w := by kernel_rfl
theorem idxN3 (w : World) : (Instr.index 63 (.agg (strV K6).toArray) (.int .i64 3)).run Tryd.prog w = .ok (.string (S (K6.getD 3 []))) w := by kernel_rfl
theorem idxN4 (w : World) : (Instr.index 63 (.agg (strV K6).toArray) (.int .i64 4)).run Tryd.prog w = .ok (.string (S (K6.getD 4 []))) w := by kernel_rfl
theorem idxN5 (w : World) : (Instr.index 63 (.agg (strV K6).toArray) (.int .i64 5)).run Tryd.prog w = .ok (.string (S (K6.getD 5 []))) w := by kernel_rfl
theorem idxN6 (w : World) : (Instr.index 63 (.agg (strV K6).toArray) (.int .i64 6)).run Tryd.prog w = .ok (.string (S (K6.getD 6 []))) w := by kernel_rfl
theorem idxN (w : World) (i : Nat) (h : i < 7) : (Instr.index 63 (.agg (strV K6).toArray) (.int .i64 (i : Int))).run Tryd.prog w = .ok (.string (S (K6.getD i []))) w := by
  have hi : i = 0 ∨ i = 1 ∨ i = 2 ∨ i = 3 ∨ i = 4 ∨ i = 5 ∨ i = 6 := by omega
  rcases hi with rfl | rfl | rfl | rfl | rfl | rfl | rfl
  · exact idxN0 w
  · exact idxN1 w
  · exact idxN2 w
  · exact idxN3 w
  · exact idxN4 w
  · exact idxN5 w
  · exact idxN6 w
set_option maxRecDepth 100000 in
set_option maxHeartbeats 3200000 in
theorem readQ_any (s : List UInt8) (w : World) (hs : s.length ≤ 900000) (hm : MaxL w) : Calls Tryd.prog 10 #[.string (S s)] w (ReadQ (readE s) w) := by
  have hz := zeroE
  obtain ⟨a1, a2, a3, a4⟩ := Go.Mir.two_allocs w (.cells zE 31) (.cells zE 31)
  have HR1 := Lib.hid a1
  have HR2 := Lib.hid a2
  have HB := Lib.hid a4
  have HBU : Hid (Tryd.prog.built 31 [] = some zE) := built_e0
  have HZO : Hid (zE.all (·.oneCell') = true) := evA_one _ _ _ _ _
  have HZS : Hid (zE.size = 103) := zE_size
  have HSP := Lib.hid (split_any s ((w.alloc (.cells zE 31)).alloc (.cells zE 31)) (by omega) (hm.below a4))
  obtain ⟨s0, r, hsp⟩ := sp_form s
  obtain ⟨k, hkk⟩ : ∃ k, kindB s0 = k := ⟨_, rfl⟩
  have HRE : Hid (readE s = readK k r) := by
    show _ = _
    unfold readE
    rw [hsp, ← hkk]; rfl
  have hln := sp_length s
  have HWL := Lib.hid (sp_len s)
  rw [hsp] at hln HSP HWL
  rw [List.length_cons] at hln
  have HLN : Hid (r.length ≤ 1000000) := by show _ ≤ _; omega
  have HSL : Hid (s.length ≤ 900000) := hs
  rw [HRE.out]
  have hsz2 : w.heap.size + 2 ≤ ((w.alloc (.cells zE 31)).alloc (.cells zE 31)).heap.size := (Array.getElem?_eq_some_iff.1 a2).1
  clear a1 a2 a3 a4 hs hm hsp hln HRE
  go_enter Tryd.func10, Tryd.ntmps10
  go_upto_region 2 with fail
  generalize (w.alloc (.cells zE 31)).alloc (.cells zE 31) = w2 at *
  go_wp2_with fail
  refine HSP.out.mono ?_
  rintro x w3 ⟨rfl, hws, hb3⟩
  have HR1' := Lib.hid (Below.keepOld hb3 HR1.out)
  have HR2' := Lib.hid (Below.keepOld hb3 HR2.out)
  have HB3 := Lib.hid (HB.out.trans (hb3.mono HB.out.size))
  have HWS := Lib.hid hws
  have hc0 := hws.str (j := 0) (by simp)
  have hlt3 : w2.heap.size < w3.heap.size := by
    cases hh : w3.heap[w2.heap.size]? with
    | some o => exact (Array.getElem?_eq_some_iff.1 hh).1
    | none => rw [World.cell?, hh] at hc0; cases hc0
  clear hws hb3 HSP HB HR1 HR2
  generalize w2.heap.size = gw at *
  obtain ⟨NL, hNL⟩ : ∃ NL, (s0 :: r).length = NL := ⟨_, rfl⟩
  have HNL := Lib.hid hNL
  rw [hNL] at HWS ⊢
  have h1n : 1 ≤ NL := by rw [← hNL]; simp
  have h0i : (0 : Int) < (NL : Int) := by omega
  have h1i : (1 : Int) ≤ (NL : Int) := by omega
  have h0n : 0 < NL := by omega
  have HC0 : Hid (∀ w', Below w3.heap.size w3 w' → w'.cell? ⟨gw, 0, none⟩ = some (.string (S s0))) := fun w' hb => cell_below hc0 hb
  clear hNL hc0
  by_cases hk : k = 0
  · go_upto_region 3 with fail
    refine wp_region_eager [(1, true), (2, true), (3, true), (0, false), (4, false), (5, true), (6, true), (7, true), (8, true), (9, true)] (by kernel_rfl) (by kernel_rfl) (eagerOpen rfl ?_)
    have hy0 : Below w3.heap.size w3 w3.drew := below_drew1 _ _
    repeat (first
      | (first | (apply wpEager_take; (· rfl); (· (intro w' hb'; go_simp; try with_reducible rfl)); (try simp only [Act.put, List.setIfInBounds_toArray, List.set_cons_zero, List.set_cons_succ]); (try refine eagerOpen rfl ?_)) | (refine wpEager_skip (by rfl) ?_; (try simp only [Act.put, List.setIfInBounds_toArray, List.set_cons_zero, List.set_cons_succ]); (try refine eagerOpen rfl ?_)) | (refine wpEager_off (by rfl) ?_; (try simp only [Act.put, List.setIfInBounds_toArray, List.set_cons_zero, List.set_cons_succ]); (try refine eagerOpen rfl ?_)))
      | (apply wpEager_take; (· rfl); (· (intro w' hb'; have hk' := (HC0.out) w' hb'; go_split_ands; go_simp; try with_reducible rfl)); (try simp only [Act.put, List.setIfInBounds_toArray, List.set_cons_zero, List.set_cons_succ]); (try refine eagerOpen rfl ?_)))
    (refine wpEager_op (by rfl) (fun K hK => ?_); go_simp; (refine (readers_any _ _).mono ?_; rintro x w4 ⟨mb, rfl, hbx, hmp, hb⟩; have hy1 := hy0.trans hb; have hlk := look_no w4 mb w3.drew.heap.size s0 hmp (hkk.trans hk)); refine Shut.out hK _ _ (by assumption) ?_; clear hK K; (try simp only [Act.put, List.setIfInBounds_toArray, List.set_cons_zero, List.set_cons_succ]); (try refine eagerOpen rfl ?_))
    refine wpEager_op (by rfl) (fun K hK => ?_)
    go_simp
    refine Shut.out hK _ _ hy1 ?_
    clear hK K
    (try simp only [Act.put, List.setIfInBounds_toArray, List.set_cons_zero, List.set_cons_succ]); (try refine eagerOpen rfl ?_)
    repeat (first | (apply wpEager_take; (· rfl); (· (intro w' hb'; go_simp; try with_reducible rfl)); (try simp only [Act.put, List.setIfInBounds_toArray, List.set_cons_zero, List.set_cons_succ]); (try refine eagerOpen rfl ?_)) | (refine wpEager_skip (by rfl) ?_; (try simp only [Act.put, List.setIfInBounds_toArray, List.set_cons_zero, List.set_cons_succ]); (try refine eagerOpen rfl ?_)) | (refine wpEager_off (by rfl) ?_; (try simp only [Act.put, List.setIfInBounds_toArray, List.set_cons_zero, List.set_cons_succ]); (try refine eagerOpen rfl ?_)))
    refine eagerEnd ?_
    have HR4 := Lib.hid (Below.keepOld hy1 HR1'.out)
    have HB4 := Lib.hid (HB3.out.trans (hy1.mono HB3.out.size))
    clear hy0 hy1 hb hbx hmp hlk HC0
    go_wp2_with (first
      | refine Rdr.wpList_build rfl 31 _ rfl [] rfl _ HBU.out ?_
      | refine wpList_store_row rfl 31 _ _ rfl w.heap.size zE rfl rfl 31 zE HR4.out (infoE _ HZS.out) rfl HZO.out ?_)
    have HSR := Lib.hid (setRow_heap _ _ _ zE _ _ HR4.out)
    refine bodyPost_ret (results_ct rfl _ _ _ _ _ _ _ rfl HSR.out Tryd.underlying31 rfl (infoE _ HZS.out)) rfl ?_
    rw [hk, readK_0]
    exact ⟨none, 0, none, 0, rfl, zero_at _ 0 zero_i64, ⟨no_ap _, no_ap _⟩, below_setRow HB4.out (by omega) _⟩
  obtain ⟨hk6, hk6'⟩ := kind_name hkk hk
  have HKK : Hid (1 ≤ k ∧ k ≤ 6) := ⟨by omega, by omega⟩
  have HK6 := Lib.hid hk6
  have HDR := Lib.hid (ws_drop HWS.out 1 h1n)
  have hcut := cutSR HWS.out 1 1 rfl h1n
  have HGW : Hid (w.heap.size + 2 ≤ gw) := hsz2
  clear hk6 hk6'
  go_upto_region 3 with fail
  refine wp_region_eager [(1, true), (2, true), (3, true), (0, false), (4, false), (5, true), (6, true), (7, true), (8, true), (9, true)] (by kernel_rfl) (by kernel_rfl) (eagerOpen rfl ?_)
  have hy0 : Below w3.heap.size w3 w3.drew := below_drew1 _ _
  repeat (first
    | (first | (apply wpEager_take; (· rfl); (· (intro w' hb'; go_simp; try with_reducible rfl)); (try simp only [Act.put, List.setIfInBounds_toArray, List.set_cons_zero, List.set_cons_succ]); (try refine eagerOpen rfl ?_)) | (refine wpEager_skip (by rfl) ?_; (try simp only [Act.put, List.setIfInBounds_toArray, List.set_cons_zero, List.set_cons_succ]); (try refine eagerOpen rfl ?_)) | (refine wpEager_off (by rfl) ?_; (try simp only [Act.put, List.setIfInBounds_toArray, List.set_cons_zero, List.set_cons_succ]); (try refine eagerOpen rfl ?_)))
    | (apply wpEager_take; (· rfl); (· (intro w' hb'; have hk' := (HC0.out) w' hb'; go_split_ands; go_simp; try with_reducible rfl)); (try simp only [Act.put, List.setIfInBounds_toArray, List.set_cons_zero, List.set_cons_succ]); (try refine eagerOpen rfl ?_)))
  (refine wpEager_op (by rfl) (fun K hK => ?_); go_simp; (refine (readers_any _ _).mono ?_; rintro x w4 ⟨mb, rfl, hbx, hmp, hb⟩; have hy1 := hy0.trans hb; have hlk := look_ok w4 mb w3.drew.heap.size k s0 hmp hkk hk; rw [cloK_fK] at hlk); refine Shut.out hK _ _ (by assumption) ?_; clear hK K; (try simp only [Act.put, List.setIfInBounds_toArray, List.set_cons_zero, List.set_cons_succ]); (try refine eagerOpen rfl ?_))
  refine wpEager_op (by rfl) (fun K hK => ?_)
  go_simp
  refine Shut.out hK _ _ hy1 ?_
  clear hK K
  (try simp only [Act.put, List.setIfInBounds_toArray, List.set_cons_zero, List.set_cons_succ]); (try refine eagerOpen rfl ?_)
  repeat (first | (apply wpEager_take; (· rfl); (· (intro w' hb'; go_simp; try with_reducible rfl)); (try simp only [Act.put, List.setIfInBounds_toArray, List.set_cons_zero, List.set_cons_succ]); (try refine eagerOpen rfl ?_)) | (refine wpEager_skip (by rfl) ?_; (try simp only [Act.put, List.setIfInBounds_toArray, List.set_cons_zero, List.set_cons_succ]); (try refine eagerOpen rfl ?_)) | (refine wpEager_off (by rfl) ?_; (try simp only [Act.put, List.setIfInBounds_toArray, List.set_cons_zero, List.set_cons_succ]); (try refine eagerOpen rfl ?_)))
  refine eagerEnd ?_
  have HR4 := Lib.hid (Below.keepOld hy1 HR1'.out)
  have HG4 := Lib.hid (Below.keepOld hy1 HR2'.out)
  have HB4 := Lib.hid (HB3.out.trans (hy1.mono HB3.out.size))
  have HWS4 := Lib.hid (HWS.out.below hy1)
  have HDR4 := Lib.hid (HDR.out.below hy1)
  have HCE : Hid (CE w3.heap.size (w.heap.size + 1) w4) := ⟨hbx, HG4.out⟩
  have hen := enterK HKK.out
  have HCL := Lib.hid (clo_any k w3.heap.size (w.heap.size + 1) HKK.out _ _ _ r w4 HCE.out (fun w' ht => sl_turn HDR4.out ht (fun a ha hg => by
    have hg : a.block = w.heap.size + 1 := hg
    have h2 := HGW.out
    unfold cutS at ha
    split at ha
    · obtain rfl := Option.some.inj ha
      have hg : gw = w.heap.size + 1 := hg
      omega
    · obtain rfl := Option.some.inj ha
      rw [addr_add_block] at hg
      have hg : gw = w.heap.size + 1 := hg
      omega)) (by have := HNL.out; have := HLN.out; rw [List.length_cons] at *; omega) (fun x hx => by have := HWL.out x (List.mem_cons_of_mem _ hx); have := HSL.out; omega))
  have hy4 := Lib.hid hy1.size
  clear hy0 hy1 hb hbx hmp hlk HC0 HCE HG4 HWS HDR HDR4
  go_wp2_with fail
  refine HCL.out.mono ?_
  rintro x w5 ⟨ht, hcase⟩
  have HNG : Hid (w.heap.size ≠ w.heap.size + 1) := by show _ ≠ _; omega
  have HR5 := Lib.hid (ht.keep HR4.out HNG.out)
  have HB5 : Hid (Below w.heap.size w w5) := HB4.out.trans (ht.below HB4.out.size (fun i hi => by have hi : i = w.heap.size + 1 := hi; omega))
  have hws5 := sl_turn HWS4.out ht (fun a ha hg => by
    obtain rfl := Option.some.inj ha
    have hg : gw = w.heap.size + 1 := hg
    have h2 := HGW.out
    omega)
  rcases hcase with ⟨ev, pb, cb, q, c, hrd, hap, rfl, hrow, hat⟩ | ⟨hrd, rfl⟩
  rotate_left
  · have HRD := Lib.hid hrd
    clear ht hws5 hrd HWS4 HR4 HB4 HCL hen hcut
    go_wp2_with (first
      | refine Rdr.wpList_build rfl 31 _ rfl [] rfl _ HBU.out ?_
      | refine wpList_store_row rfl 31 _ _ rfl w.heap.size zE rfl rfl 31 zE HR5.out (infoE _ HZS.out) rfl HZO.out ?_)
    have HSR := Lib.hid (setRow_heap _ _ _ zE _ _ HR5.out)
    refine bodyPost_ret (results_ct rfl _ _ _ _ _ _ _ rfl HSR.out Tryd.underlying31 rfl (infoE _ HZS.out)) rfl ?_
    rw [HRD.out]
    exact ⟨none, 0, none, 0, rfl, zero_at _ 0 zero_i64, ⟨no_ap _, no_ap _⟩, below_setRow HB5.out (by omega) _⟩
  have HWS5 := Lib.hid hws5
  have hw4 : w.heap.size + 2 < w4.heap.size := (show w.heap.size + 2 < w4.heap.size by have := HGW.out; have := hy4.out; omega)
  have HRW := Lib.hid hrow
  have HAT := Lib.hid hat
  have HRD := Lib.hid hrd
  have HAP := Lib.hid hap
  clear hap
  clear ht hws5 hrow hat hrd HWS4 HR4 HB4 HCL hen hcut
  go_wp2_with fail
  refine (names_any _).mono ?_
  rintro x w6 ⟨rfl, hb6⟩
  have HR6 := Lib.hid (Below.keepOld hb6 HR5.out)
  have HB6 := Lib.hid (HB5.out.trans (hb6.mono HB5.out.size))
  have HWS6 := Lib.hid (HWS5.out.below hb6)
  have HAT6 := Lib.hid (HAT.out.below hb6)
  have HEW : Hid (EW w6 (w.heap.size + 1) 31 { ev with k := 0 } pb cb q c w6) := ⟨Below.keepOld hb6 HRW.out, HAT.out.wf, Turns.refl _ _⟩
  clear hb6 HR5 HB5 HWS5 HAT HRW
  go_wp2_with fail
  go_loopw [8, 9, 31] (fun _ _ j wr => ∃ i : Nat, i ≤ 7 ∧ j = .int .i64 i ∧ EW w6 (w.heap.size + 1) 31 { ev with k := if k < i then (k : Int) else 0 } pb cb q c wr) (fun _ _ j _ => 7 - (intOf j).toNat)
  case atStart => exact ⟨0, by omega, rfl, by rw [if_neg (by omega)]; exact HEW.out⟩
  case round =>
    obtain ⟨i, hi, rfl, hew⟩ := hrel
    have HE := Lib.hid hew
    have HC : Hid (wr.cell? ⟨gw, 0, none⟩ = some (.string (S s0))) := hew.turn.cell (Ws.str (ls := s0 :: r) HWS6.out (j := 0) (by simp)) (by show ¬ gw = _; have := HGW.out; omega)
    clear hew
    by_cases hlt : i < 7
    · have hd : decide ((i : Int) < 7) = true := decide_eq_true (by omega)
      have hd2 : decide (i < 7) = true := decide_eq_true hlt
      have hix := idxN wr i hlt
      have hcw : wr.cell? ⟨gw, 0, none⟩ = some (.string (S s0)) := HC.out
      by_cases hx : i = k
      · have hb : (K6.getD i [] == s0) = true := beq_iff_eq.2 (by rw [hx]; exact HK6.out)
        have hfz : wr.frozen? ⟨w.heap.size + 1, 0, none⟩ = false := HE.out.frozen 0
        have hk0 := HE.out.cells.k
        have HE2 := Lib.hid (HE.out.kind (i : Int) (small_i64 (by omega)))
        have HX := Lib.hid hx
        clear HC hx
        generalize K6.getD i [] = x at *
        go_wp2_with fail
        go_roundw
        case rel => exact ⟨i + 1, by omega, by go_num, by have h1 := HX.out; rw [if_pos (by omega), ← h1]; exact HE2.out⟩
        case measure => simp [intOf]; omega
      · have hb : (K6.getD i [] == s0) = false := beq_eq_false_iff_ne.2 (fun e => hx (K6_inj HKK.out.2 (by omega) (e.trans HK6.out.symm)))
        have HX := Lib.hid hx
        clear HC hx
        generalize K6.getD i [] = x at *
        go_wp2_with fail
        go_roundw
        case rel => exact ⟨i + 1, by omega, by go_num, by
          have h1 := HE.out
          have h3 := HX.out
          by_cases h2 : k < i
          · rw [if_pos h2] at h1; rw [if_pos (by omega)]; exact h1
          · rw [if_neg h2] at h1; rw [if_neg (by omega)]; exact h1⟩
        case measure => simp [intOf]; omega
    · have hd : decide ((i : Int) < 7) = false := decide_eq_false (by omega)
      have hd2 : decide (i < 7) = false := decide_eq_false hlt
      have HE2 : Hid (EW w6 (w.heap.size + 1) 31 ev pb cb q c wr) := by
        have h1 := HE.out
        rw [if_pos (by have := HKK.out; omega), ← (readK_k HRD.out).1] at h1
        exact h1
      have HR7 := Lib.hid (HE2.out.turn.keep HR6.out HNG.out)
      have HB7 : Hid (Below w.heap.size w wr) := HB6.out.trans (HE2.out.turn.below HB6.out.size (fun i hi => by have hi : i = w.heap.size + 1 := hi; omega))
      have HAT7 : Hid (EvAt wr ev pb cb q c) := ⟨HE2.out.wf, sl_turn HAT6.out.bs HE2.out.turn (fun a ha hg => by have h1 := HAP.out.1 a ha; have hg : a.block = w.heap.size + 1 := hg; omega), is_turn HAT6.out.ids HE2.out.turn (fun a ha hg => by have h1 := HAP.out.2 a ha; have hg : a.block = w.heap.size + 1 := hg; omega)⟩
      clear HC HE
      obtain ⟨A, hA⟩ : ∃ A, A = evA ev pb cb q c := ⟨_, rfl⟩
      have HAS : Hid (A.size = 103) := by show _ = _; rw [hA]; exact evA_size HE2.out.wf pb cb q c
      have HAO : Hid (A.all (·.oneCell') = true) := by show _ = _; rw [hA]; exact evA_one _ _ _ _ _
      have HEA := Lib.hid HE2.out.row
      have HAE := Lib.hid hA
      rw [← hA] at HEA
      clear hA
      go_wp2_with (first
        | refine wpList_load_row rfl 31 _ rfl (w.heap.size + 1) rfl 31 A (0, 0) _ HEA.out Tryd.underlying31 rfl (infoE _ HAS.out) ?_
        | refine wpList_store_row rfl 31 _ _ rfl w.heap.size A rfl rfl 31 zE HR7.out (infoE _ HAS.out) (by rw [HAS.out]; exact HZS.out) HAO.out ?_)
      have HSR := Lib.hid (setRow_heap _ _ _ A _ _ HR7.out)
      have HTS : Hid (Turns (fun j => j = w.heap.size) wr (wr.setRow w.heap.size A)) := turns_setRow _ _ _
      refine bodyPost_ret (results_ct rfl _ _ _ _ _ _ _ rfl HSR.out Tryd.underlying31 rfl (infoE _ HAS.out)) rfl ?_
      rw [HRD.out]
      exact ⟨pb, cb, q, c, by rw [HAE.out]; rfl, ⟨HE2.out.wf, sl_turn HAT7.out.bs HTS.out (fun a ha hg => by have h1 := HAP.out.1 a ha; have hg : a.block = w.heap.size := hg; omega), is_turn HAT7.out.ids HTS.out (fun a ha hg => by have h1 := HAP.out.2 a ha; have hg : a.block = w.heap.size := hg; omega)⟩, ⟨fun a ha => by have h1 := HAP.out.1 a ha; omega, fun a ha => by have h1 := HAP.out.2 a ha; omega⟩, below_setRow HB7.out (by omega) _⟩
theorem read_any (s : List UInt8) (w : World) (hs : s.length ≤ 900000) (hm : MaxL w) : Calls Tryd.prog 10 #[.string (S s)] w (ReadP (readE s) w) :=
  (readQ_any s w hs hm).mono fun _ _ ⟨pb, cb, q, c, h1, h2, _, h3⟩ => ⟨pb, cb, q, c, h1, h2, h3⟩
end Go.Proofs.YtcddgbobbogpgaaDoor.Scr

namespace Go.Mir
open Go.RowKit

def plainOp : Op → Bool
  | .defer _ => false
  | _ => true
theorem uponIn_of_upon {P : Program} {n r : Nat} {o : Oper} {a : Act} {K : Act → World → Prop} {Q : Exit → Act → World → Prop} {w : World}
    (h : o.wp P a w K Q) (hd : plainOp o.op = true) : o.wpIn (Fence.wide.inRound r) n P a w K Q := by
  refine ⟨fun _ _ => trivial, ?_⟩
  rw [show (Fence.wide.inRound r).round = some r from rfl, Oper.semAt_some r a.eval o (fun c hc => by rw [hc] at hd; cases hd)]
  unfold Oper.wp at h
  generalize hres : (execOp a.eval o).run P w = res at h
  cases res with
  | ok x w' =>
    cases x with
    | value v => exact h
    | skip => exact h
    | defer d => exact h
    | enter f args => exact ⟨fun hh => by simp [Fence.wide] at hh, CallsIn.inRound r (callsIn_wide.2 h)⟩
    | row row args => exact ⟨fun hh => by simp [Fence.wide] at hh, fun c cs _ => let ⟨v, w2, r1, s1⟩ := h c cs; ⟨v, w2, r1, stepsIn_wide.2 s1⟩⟩
    | _ => exact h.elim
  | halt x w' =>
    cases x with
    | panic v => exact h
    | _ => exact h.elim
theorem wpOpsIn_of_wpOps {P : Program} {n r : Nat} {ops : Array Oper} {Q : Exit → Act → World → Prop} (hpl : ops.toList.all (fun o => plainOp o.op) = true) (hQ : ∀ a w, ¬ Q .outgrown a w) :
    ∀ (is : List Nat) (a : Act) (w : World), wpOps P ops Q is a w → wpOpsIn (Fence.wide.inRound r) n P ops Q is a w
  | [], _, _, h => h
  | i :: is, a, w, h => by
    unfold wpOps at h
    unfold wpOpsIn
    cases ho : ops[i]? with
    | none => simp only [ho] at h ⊢; exact wpOpsIn_of_wpOps hpl hQ is a w h
    | some o =>
      simp only [ho] at h ⊢
      split at h
      · rename_i hw
        rw [if_pos hw]
        have hm : o ∈ ops := Array.mem_of_getElem? ho
        rcases h with h | h
        · exact Oper.wpIn_mono (fun a' w' h' => wpOpsIn_of_wpOps hpl hQ is a' w' h') (uponIn_of_upon h (List.all_eq_true.1 hpl o (Array.mem_toList_iff.2 hm)))
        · obtain ⟨x, y, h2⟩ := h.2
          exact absurd h2 (hQ x y)
      · rename_i hw
        rw [if_neg hw]
        exact ⟨fun _ _ => trivial, wpOpsIn_of_wpOps hpl hQ is _ w h⟩
theorem wpIn_region_of_any {P : Program} {id n r : Nat} {Q : Exit → Act → World → Prop} {a : Act} {w : World} {l : List Oper} (hm : P.follows .mixedOrders = true) (hpl : l.all (fun o => plainOp o.op) = true)
    (hQ : ∀ a w, ¬ Q .outgrown a w) (h : wpAny P .any l.toArray Q l.length (Array.replicate l.length false) a w.drew) : (Code.region id l.toArray true).wpIn (Fence.wide.inRound r) n P Q a w := by
  refine wpIn_region_draw fun t => ?_
  simp only [Region.schedule, hm, Bool.true_or, if_true]
  refine wpOpsIn_of_wpOps hpl hQ _ _ _ (wpAny_sound _ t _ a _ ?_)
  have hz : l.toArray.size = l.length := List.size_toArray ..
  rw [hz]
  exact h
theorem wpIn_region_eager_in {P : Program} {id n r : Nat} {Q : Exit → Act → World → Prop} {a : Act} {w : World} {l : List Oper} (S : World → Prop) (π : List (Nat × Bool)) (hm : P.follows .mixedOrders = true)
    (hp : (planB l.toArray π (Array.replicate l.length false) && Region.noSelect l.toArray && π.length == l.length) = true) (hpl : l.all (fun o => plainOp o.op) = true)
    (hQ : ∀ a w, ¬ Q .outgrown a w) (hQ2 : ∀ c a d v w, Q (.panic c) (a.put d v) w → Q (.panic c) a w) (hS : S w.drew)
    (h : wpEager P l.toArray S Q (planOps l π) a w.drew) : (Code.region id l.toArray true).wpIn (Fence.wide.inRound r) n P Q a w := by
  simp only [Bool.and_eq_true, beq_iff_eq] at hp
  obtain ⟨⟨h1, h2⟩, h3⟩ := hp
  have hh := wpAnyH_eager (P := P) (Q := Q) (l := l) rfl h2 hQ2 π (Array.replicate l.length false) a w.drew h1 hS h
  rw [h3] at hh
  exact wpIn_region_of_any hm hpl hQ (wpAny_of_held _ _ _ _ hh)
theorem wpIn_region_eager_t {P : Program} {id n r : Nat} {Q : Exit → Act → World → Prop} {a : Act} {w : World} {l : List Oper} (S : World → Prop) (marks : List Nat) (π : List (Nat × Bool)) (t : List Nat) (hm : P.follows .mixedOrders = true)
    (hp : (planG l.toArray marks t π (Array.replicate l.length false) && Region.noSelect l.toArray && π.length + t.length == l.length) = true) (hpl : l.all (fun o => plainOp o.op) = true)
    (hQ : ∀ a w, ¬ Q .outgrown a w) (hQ2 : ∀ c a d v w, Q (.panic c) (a.put d v) w → Q (.panic c) a w) (hS : S w.drew)
    (h : wpEagerT P l.toArray S Q (tailOps l t) (planOps l π) a w.drew) : (Code.region id l.toArray true).wpIn (Fence.wide.inRound r) n P Q a w := by
  simp only [Bool.and_eq_true, beq_iff_eq] at hp
  obtain ⟨⟨h1, h2⟩, h3⟩ := hp
  have hcl : closedL l.toArray (Array.replicate l.length false) := fun j o _ hj => by rw [Array.getD_eq_getD_getElem?, Array.getElem?_replicate] at hj; split at hj <;> cases hj
  have hh := wpAnyG_plan (P := P) (Q := Q) (marks := marks) (l := l) rfl h2 hQ2 t π (Array.replicate l.length false) a w.drew h1 hcl hS h
  rw [h3] at hh
  exact wpIn_region_of_any hm hpl hQ (wpAny_of_G _ _ _ _ hh)
theorem wpIn_region_tree {P : Program} {id n r : Nat} {Q : Exit → Act → World → Prop} {a : Act} {w : World} {l : List Oper} (S : World → Prop) (t : Tr) (hm : P.follows .mixedOrders = true)
    (hp : (treeB l.toArray t (Array.replicate l.length false) && Region.noSelect l.toArray && t.deep == l.length) = true) (hpl : l.all (fun o => plainOp o.op) = true)
    (hQ : ∀ a w, ¬ Q .outgrown a w) (hQ2 : ∀ c a d v w, Q (.panic c) (a.put d v) w → Q (.panic c) a w) (hS : S w.drew)
    (h : wpTree P l.toArray S Q l t a w.drew) : (Code.region id l.toArray true).wpIn (Fence.wide.inRound r) n P Q a w := by
  simp only [Bool.and_eq_true, beq_iff_eq] at hp
  obtain ⟨⟨h1, h2⟩, h3⟩ := hp
  have hh := wpAnyH_tree (P := P) (Q := Q) (S := S) (l := l) rfl h2 hQ2 t (Array.replicate l.length false) a w.drew h1 hS h
  rw [h3] at hh
  exact wpIn_region_of_any hm hpl hQ (wpAny_of_held _ _ _ _ hh)
theorem treeDone {P : Program} {ops : Array Oper} {S : World → Prop} {Q : Exit → Act → World → Prop} {l : List Oper} {a : Act} {w : World} (h : Q .normal a w) : wpTree P ops S Q l .nil a w := h
theorem eagerDone {P : Program} {ops : Array Oper} {S : World → Prop} {Q : Exit → Act → World → Prop} {l : List Oper} {a : Act} {w : World} (h : Q .normal a w) : wpEager P ops S Q (planOps l []) a w := h
end Go.Mir

namespace Go.Proofs.YtcddgbobbogpgaaDoor.Scr
open Go.RowKit Go.Mir Go.Mir.Hx Go.Mir.Parts Go.Shelf HexW Rpl
attribute [local go_sem] Oper.semAt_some

theorem wpListIn_of_list {P : Program} {n r : Nat} {ops : Array Oper} {Q : Exit → Act → World → Prop} (hQ : ∀ a w, ¬ Q .outgrown a w) :
    ∀ (l : List Oper) (a : Act) (w : World), l.all (fun o => plainOp o.op) = true → wpList P ops Q l a w → wpListIn (Fence.wide.inRound r) n P ops Q l a w
  | [], _, _, _, h => h
  | o :: l, a, w, hp, h => by
    rw [List.all_cons, Bool.and_eq_true] at hp
    unfold wpList at h
    unfold wpListIn
    split at h
    · rename_i hw
      rw [if_pos hw]
      rcases h with h | h
      · exact Oper.wpIn_mono (fun a' w' h' => wpListIn_of_list hQ l a' w' hp.2 h') (uponIn_of_upon h hp.1)
      · obtain ⟨x, y, h2⟩ := h.2
        exact absurd h2 (hQ x y)
    · rename_i hw
      rw [if_neg hw]
      exact ⟨fun _ _ => trivial, wpListIn_of_list hQ l _ w hp.2 h⟩
theorem cfA_one (c : Cf) : (cfA c).all (·.oneCell') = true := by
  cases c
  simp [cfA, Value.oneCell']
theorem putsC (l : List Nat) (h : l.length = 6) : puts (cfA Cf.zero) [0, 1, 2, 3, 4, 5] l = cfA (Cf.of l) := by
  match l, h with
  | [a, b, c, d, e, f], _ => rfl
theorem results_4c {P : Program} {fn : Func} {p q r s : Tmp} {ty t1 t2 t3 : TypeId} (h : fn.results = #[.cell p ty, .cell q t1, .cell r t2, .cell s t3]) (tmps : Array Value) (w : World) (g0 g1 g2 g3 : Nat) (t : TypeId) (cs : Array Value) (fr : Nat × Nat) (d : TypeDesc)
    (hp : tmps.getD p undef = .pointer (some ⟨g0, 0, none⟩)) (hg : w.heap[g0]? = some (.cells cs t fr))
    (hu : P.underlying ty = some d) (hd : (match d with | .struct _ | .array _ _ => true | _ => false) = true) (hi : (P.info? ty).map (·.size) = some cs.size)
    (hq : tmps.getD q undef = .pointer (some ⟨g1, 0, none⟩)) (hr : tmps.getD r undef = .pointer (some ⟨g2, 0, none⟩)) (hs : tmps.getD s undef = .pointer (some ⟨g3, 0, none⟩))
    {v1 v2 v3 : Value} (h1 : (loadVar t1 ⟨g1, 0, none⟩).run P w = .ok v1 w) (h2 : (loadVar t2 ⟨g2, 0, none⟩).run P w = .ok v2 w) (h3 : (loadVar t3 ⟨g3, 0, none⟩).run P w = .ok v3 w) :
    (results fn tmps).run P w = .ok (.tuple #[.agg cs, v1, v2, v3]) w := by
  have hp' : tmps[p]?.getD undef = .pointer (some ⟨g0, 0, none⟩) := by simpa using hp
  have hq' : tmps[q]?.getD undef = .pointer (some ⟨g1, 0, none⟩) := by simpa using hq
  have hr' : tmps[r]?.getD undef = .pointer (some ⟨g2, 0, none⟩) := by simpa using hr
  have hs' : tmps[s]?.getD undef = .pointer (some ⟨g3, 0, none⟩) := by simpa using hs
  simp [results, h, hp', hq', hr', hs', asAddr, run_loadVar_row w g0 t ty cs fr d hg hu hd hi, h1, h2, h3]
/-- a part lies from the block b on, apart from the row of v -/
def Away (vs : List Value) (p : Option Addr) (b : Nat) (v : Value) : Prop := ∀ a, p = some a → 0 < vs.length → b ≤ a.block ∧ ¬ v.ownBlock = some a.block
/-- where an event's parts lie -/
structure Far (r : ER) (b : Nat) (v : Value) : Prop where
  pb : Away (bytesV r.e.b) r.pb b v
  q : Away (r.e.tx.flatMap bytesV) r.q b v
/-- Parse's variables -/
structure PS (H n : Nat) (c : Cf) (b : Bool) (l : List ER) (W : World) : Prop where
  r0 : W.heap[H]? = some (.cells (cfA Cf.zero) 46 (0, 0))
  r1 : Boxed W (H + 1) 47 (.slice none 0 0)
  r2 : Boxed W (H + 2) 3 (.int .i64 0)
  r3 : Boxed W (H + 3) 48 (.int .i64 0)
  c4 : W.heap[H + 4]? = some (.cells (cfA c) 46 (0, 0))
  l5 : ∃ p cap, Boxed W (H + 5) 47 (.slice p l.length cap) ∧ W.ownsRow (H + 9) 31 103 (.slice p l.length cap) l.length (l.flatMap ER.l) ∧ ∀ r ∈ l, r.At W ∧ Far r (H + 9) (.slice p l.length cap)
  s6 : Boxed W (H + 6) 4 (.bool b)
  n7 : Boxed W (H + 7) 3 (.int .i64 (n : Int))
theorem keep_row {S : Nat → Prop} {W W' : World} {H : Nat} (ht : Turns S W W') (hS : ∀ k, S k → H + 8 ≤ k ∨ ∃ o, W.heap[k]? = some o ∧ o.isCells = false) {k : Nat} (hk : k < H + 8) {A : Array Value} {t : TypeId} {fr : Nat × Nat} (h : W.heap[k]? = some (.cells A t fr)) : W'.heap[k]? = some (.cells A t fr) :=
  ht.keep h (fun hs => by
    rcases hS k hs with h1 | ⟨o, h1, h2⟩
    · omega
    · rw [h] at h1; cases h1; cases h2)
theorem sl_off {S : Nat → Prop} {W W' : World} {b : Nat} (ht : Turns S W W') (hS : ∀ k, S k → k < b ∨ ∃ o, W.heap[k]? = some o ∧ o.isCells = false) {p : Option Addr} {n c size : Nat} {vs : List Value} (h : Sl W p n c size vs) (hp : ∀ a, p = some a → 0 < vs.length → b ≤ a.block) : Sl W' p n c size vs :=
  ⟨h.len, h.le, h.max, h.nil0, fun a ha j u hu => by
    have hc := h.cell a ha j u hu
    refine ht.cell hc (fun hs => ?_)
    rw [addr_add_block] at hs
    rcases hS _ hs with h1 | ⟨o, h1, h2⟩
    · have := hp a ha (by have := (List.getElem?_eq_some_iff.1 hu).1; omega); omega
    · rw [World.cell?, addr_add_block, h1] at hc
      cases o <;> first | (cases hc; done) | cases h2⟩
theorem own_off {S : Nat → Prop} {W W' : World} {b : Nat} (ht : Turns S W W') (hS : ∀ k, S k → k < b ∨ ∃ o, W.heap[k]? = some o ∧ o.isCells = false) {e size n : Nat} {v : Value} {xs : List Value} (h : W.ownsRow (b) e size v n xs) : W'.ownsRow (b) e size v n xs :=
  own_touch h ht (fun k hk hs => by
    rcases hS k hs with h1 | ⟨o, h1, h2⟩
    · have := (h.lt k hk).1; omega
    · rcases h.2 with ⟨rfl, _⟩ | ⟨g, cap, cur, rfl, _, hg, _⟩
      · cases hk
      · simp only [Value.ownBlock, Option.some.injEq] at hk
        subst hk
        rw [hg] at h1; cases h1; cases h2)
theorem PS.turns {S : Nat → Prop} {H n : Nat} {c : Cf} {b : Bool} {l : List ER} {W W' : World} (h : PS H n c b l W) (ht : Turns S W W') (hS : ∀ k, S k → k = H + 8 ∨ ∃ o, W.heap[k]? = some o ∧ o.isCells = false) : PS H n c b l W' := by
  have h8 : ∀ k, S k → H + 8 ≤ k ∨ ∃ o, W.heap[k]? = some o ∧ o.isCells = false := fun k hk => (hS k hk).imp (fun e => by omega) id
  have h9 : ∀ k, S k → k < H + 9 ∨ ∃ o, W.heap[k]? = some o ∧ o.isCells = false := fun k hk => (hS k hk).imp (fun e => by omega) id
  obtain ⟨p, cap, l1, l2, l3⟩ := h.l5
  exact ⟨keep_row ht h8 (by omega) h.r0, keep_row ht h8 (by omega) h.r1, keep_row ht h8 (by omega) h.r2, keep_row ht h8 (by omega) h.r3, keep_row ht h8 (by omega) h.c4,
    ⟨p, cap, keep_row ht h8 (by omega) l1, own_off ht h9 l2, fun r hr => by
      obtain ⟨a1, a2⟩ := l3 r hr
      exact ⟨⟨a1.wf, sl_off ht h9 a1.bs (fun a ha h0 => (a2.pb a ha h0).1), ⟨sl_off ht h9 a1.ids.sl (fun a ha h0 => (a2.q a ha h0).1), a1.ids.each, a1.ids.count⟩⟩, a2⟩⟩,
    keep_row ht h8 (by omega) h.s6, keep_row ht h8 (by omega) h.n7⟩
/-- what stands behind some lines -/
structure PI (w : World) (LS : List (List UInt8)) (pre : List Nat) (W : World) : Prop where
  st : ∃ (st : Option (Cf × List Ev)) (l : List ER), runL none (LS.take pre.length) = some st ∧ evs l = (st.map (·.2)).getD [] ∧ l.length ≤ pre.length ∧ PS w.heap.size pre.length ((st.map (·.1)).getD Cf.zero) st.isSome l W
  low : Below w.heap.size w W
  big : w.heap.size + 9 ≤ W.heap.size
/-- what an error leaves -/
structure PX (w : World) (n : Int) (W : World) : Prop where
  r0 : W.heap[w.heap.size]? = some (.cells (cfA Cf.zero) 46 (0, 0))
  r1 : Boxed W (w.heap.size + 1) 47 (.slice none 0 0)
  r2 : Boxed W (w.heap.size + 2) 3 (.int .i64 n)
  r3 : Boxed W (w.heap.size + 3) 48 (.int .i64 4)
  low : Below w.heap.size w W
  big : w.heap.size + 9 ≤ W.heap.size
theorem grown_turns {A C : World} {row : Option Nat} (hg : A.grownBy C row) : Turns (fun k => row = some k) A C := Turns.grown hg (fun _ h => h)
theorem pi_own (w : World) (LS : List (List UInt8)) (B : Nat) (hB : w.heap.size ≤ B) : OwnFrom B (PI w LS) := fun s A C row hs hg hr => by
  obtain ⟨⟨st, l, h1, h2, h3, h4⟩, lo, bg⟩ := hs
  exact ⟨⟨st, l, h1, h2, h3, h4.turns (grown_turns hg) (fun k e => .inr (hr k e).2)⟩, lo.grown hg lo.size (fun k e => by have := (hr k e).1; omega), Nat.le_trans bg hg.size⟩
theorem px_own (w : World) (n : List Nat → Int → Prop) (B : Nat) (hB : w.heap.size + 9 ≤ B) : OwnFrom B (fun (s : List Nat) W => ∃ m, n s m ∧ PX w m W) := fun s A C row hs hg hr => by
  obtain ⟨m, hm, h0, h1, h2, h3, lo, bg⟩ := hs
  have ht := grown_turns hg
  have h8 : ∀ k, row = some k → w.heap.size + 8 ≤ k ∨ ∃ o, A.heap[k]? = some o ∧ o.isCells = false := fun k e => .inr (hr k e).2
  exact ⟨m, hm, keep_row ht h8 (by omega) h0, keep_row ht h8 (by omega) h1, keep_row ht h8 (by omega) h2, keep_row ht h8 (by omega) h3, lo.grown hg lo.size (fun k e => by have := (hr k e).1; omega), Nat.le_trans bg hg.size⟩
theorem PS.below {H n : Nat} {c : Cf} {b : Bool} {l : List ER} {W W' : World} (h : PS H n c b l W) (hb : Below W.heap.size W W') : PS H n c b l W' := h.turns (Turns.of_below (S := fun _ => False) hb) (fun _ h => h.elim)
theorem PS.upd {S : Nat → Prop} {H n n' : Nat} {c c' : Cf} {b b' : Bool} {l : List ER} {W W' : World} (h : PS H n c b l W) (ht : Turns S W W') (hS : ∀ k, S k → H + 4 ≤ k ∧ k < H + 8 ∧ ¬ k = H + 5)
    (c4 : W'.heap[H + 4]? = some (.cells (cfA c') 46 (0, 0))) (s6 : Boxed W' (H + 6) 4 (.bool b')) (n7 : Boxed W' (H + 7) 3 (.int .i64 (n' : Int))) : PS H n' c' b' l W' := by
  have k : ∀ i, i < 4 ∨ i = 5 → ¬ S (H + i) := fun i hi hs => by have := hS _ hs; omega
  have h9 : ∀ k, S k → k < H + 9 ∨ ∃ o, W.heap[k]? = some o ∧ o.isCells = false := fun k hk => .inl (by have := hS k hk; omega)
  obtain ⟨p, cap, l1, l2, l3⟩ := h.l5
  exact ⟨ht.keep h.r0 (k 0 (by omega)), ht.keep h.r1 (k 1 (by omega)), ht.keep h.r2 (k 2 (by omega)), ht.keep h.r3 (k 3 (by omega)), c4,
    ⟨p, cap, ht.keep l1 (k 5 (by omega)), own_off ht h9 l2, fun r hr => by
      obtain ⟨a1, a2⟩ := l3 r hr
      exact ⟨⟨a1.wf, sl_off ht h9 a1.bs (fun a ha h0 => (a2.pb a ha h0).1), ⟨sl_off ht h9 a1.ids.sl (fun a ha h0 => (a2.q a ha h0).1), a1.ids.each, a1.ids.count⟩⟩, a2⟩⟩,
    s6, n7⟩
theorem sl_away {S : Nat → Prop} {W W' : World} {b : Nat} {v : Value} (ht : Turns S W W') (hS : ∀ k, S k → k < b ∨ v.ownBlock = some k) {p : Option Addr} {n c size : Nat} {vs : List Value} (h : Sl W p n c size vs) (hp : Away vs p b v) : Sl W' p n c size vs :=
  ⟨h.len, h.le, h.max, h.nil0, fun a ha j u hu => by
    have hc := h.cell a ha j u hu
    refine ht.cell hc (fun hs => ?_)
    rw [addr_add_block] at hs
    obtain ⟨h1, h2⟩ := hp a ha (by have := (List.getElem?_eq_some_iff.1 hu).1; omega)
    rcases hS _ hs with h3 | h3
    · omega
    · exact h2 h3⟩
theorem away_next {W : World} {b m : Nat} {v v' : Value} (hm : W.heap.size ≤ m) (hn : ∀ k, v'.ownBlock = some k → v.ownBlock = some k ∨ k = m) {p : Option Addr} {n c size : Nat} {vs : List Value} (h : Sl W p n c size vs) (hp : Away vs p b v) : Away vs p b v' := fun a ha h0 => by
  obtain ⟨h1, h2⟩ := hp a ha h0
  refine ⟨h1, fun hk => ?_⟩
  rcases hn _ hk with h3 | h3
  · exact h2 h3
  · have hc := h.cell a ha 0 vs[0] (List.getElem?_eq_getElem h0)
    have := block_lt_of_cell hc
    rw [addr_add_block] at this
    omega
/-- the turn of a box below 'b' and of the row of v -/
theorem turns_push {W w9 : World} {tmp : Obj} {v v' : Value} {B : Nat} (hg : (W.alloc tmp).grownBy w9 v.ownBlock) : Turns (fun k => k = B ∨ v.ownBlock = some k) W (w9.setCell ⟨B, 0, none⟩ v') :=
  ((Turns.of_below (S := fun k => k = B ∨ v.ownBlock = some k) (Below.allocs W tmp)).trans (Turns.grown hg (fun _k h => .inr h)) (fun _ _ h => h)).setCell (p := ⟨B, 0, none⟩) (fun _ => .inl rfl) _
theorem PS.push {H n : Nat} {c : Cf} {b : Bool} {l : List ER} {W w9 : World} {tmp : Obj} {p p' : Option Addr} {cap cap' : Nat} {r : ER} (h : PS H n c b l W)
    (l1 : Boxed W (H + 5) 47 (.slice p l.length cap)) (l2 : W.ownsRow (H + 9) 31 103 (.slice p l.length cap) l.length (l.flatMap ER.l)) (l3 : ∀ r ∈ l, r.At W ∧ Far r (H + 9) (.slice p l.length cap)) (hr : r.At W ∧ Far r (H + 9) (.slice p l.length cap))
    (ho : w9.ownsRow (H + 9) 31 103 (.slice p' (l.length + 1) cap') (l.length + 1) (l.flatMap ER.l ++ r.l)) (hg : (W.alloc tmp).grownBy w9 (Value.slice p l.length cap).ownBlock)
    (hn : ∀ k, (Value.slice p' (l.length + 1) cap').ownBlock = some k → (Value.slice p l.length cap).ownBlock = some k ∨ k = (W.alloc tmp).heap.size) :
    PS H n c b (l ++ [r]) (w9.setCell ⟨H + 5, 0, none⟩ (.slice p' (l.length + 1) cap')) := by
  have hlow : ∀ k, (Value.slice p l.length cap).ownBlock = some k → H + 9 ≤ k := fun k hk => (l2.lt k hk).1
  have hb9 : Boxed w9 (H + 5) 47 (.slice p l.length cap) := (l1.alloc tmp).kept hg (fun e => by have := hlow _ e.symm; omega)
  have ht := turns_push (v' := .slice p' (l.length + 1) cap') (B := H + 5) hg
  have ne : ∀ i, i < 8 → ¬ i = 5 → ¬ (H + i = H + 5 ∨ (Value.slice p l.length cap).ownBlock = some (H + i)) := fun i hi h5 hh => by
    rcases hh with hh | hh
    · omega
    · have := hlow _ hh; omega
  have hsz : W.heap.size ≤ (W.alloc tmp).heap.size := by simp
  have hS : ∀ k, (k = H + 5 ∨ (Value.slice p l.length cap).ownBlock = some k) → k < H + 9 ∨ (Value.slice p l.length cap).ownBlock = some k := fun k hk => hk.imp (fun e => by omega) id
  refine ⟨ht.keep h.r0 (ne 0 (by omega) (by omega)), ht.keep h.r1 (ne 1 (by omega) (by omega)), ht.keep h.r2 (ne 2 (by omega) (by omega)), ht.keep h.r3 (ne 3 (by omega) (by omega)), ht.keep h.c4 (ne 4 (by omega) (by omega)),
    ⟨p', cap', ?_, ?_, fun x hx => ?_⟩, ht.keep h.s6 (ne 6 (by omega) (by omega)), ht.keep h.n7 (ne 7 (by omega) (by omega))⟩
  · rw [List.length_append]; exact hb9.set _
  · rw [List.length_append, List.flatMap_append]
    have := own_touch ho ((Turns.refl (fun k => k = H + 5) w9).setCell (p := ⟨H + 5, 0, none⟩) (fun _ => rfl) (.slice p' (l.length + 1) cap')) (fun k hk e => by have := (ho.lt k hk).1; omega)
    simpa using this
  · have hx : x.At W ∧ Far x (H + 9) (.slice p l.length cap) := by
      rcases List.mem_append.1 hx with hx | hx
      · exact l3 x hx
      · rw [List.mem_singleton] at hx; rw [hx]; exact hr
    obtain ⟨a1, a2⟩ := hx
    rw [List.length_append]
    exact ⟨⟨a1.wf, sl_away ht hS a1.bs a2.pb, ⟨sl_away ht hS a1.ids.sl a2.q, a1.ids.each, a1.ids.count⟩⟩, ⟨away_next hsz hn a1.bs a2.pb, away_next hsz hn a1.ids.sl a2.q⟩⟩
theorem kf_cells {S : Nat → Prop} {B : Nat} {W W' : World} (h : Turns S W W') (hS : ∀ k, S k → k < B ∨ ∃ A t f, W.heap[k]? = some (.cells A t f)) : KeepsFrom B W W' :=
  ⟨h.size, fun k o hB ho hc => h.keep ho (fun hk => by
    rcases hS k hk with h1 | ⟨A, t, f, h1⟩
    · omega
    · rw [ho] at h1; cases h1; cases hc)⟩
theorem own_cells {W : World} {base e size n : Nat} {v : Value} {xs : List Value} (h : W.ownsRow base e size v n xs) : ∀ k, v.ownBlock = some k → ∃ A t f, W.heap[k]? = some (.cells A t f) := fun k hk => by
  rcases h.2 with ⟨rfl, _⟩ | ⟨g, cap, cur, rfl, _, hg, _⟩
  · cases hk
  · simp only [Value.ownBlock, Option.some.injEq] at hk
    subst hk
    exact ⟨_, _, _, hg⟩
theorem turns_wide {S T : Nat → Prop} {W W' : World} (h : Turns S W W') (hST : ∀ k, S k → T k) : Turns T W W' := ⟨h.os, h.tape, h.output, h.size, fun i hi hn => h.block i hi (fun hs => hn (hST i hs))⟩
theorem start_six (w : World) : ∀ W, W = ((((((w.alloc (.cells (cfA Cf.zero) 46)).alloc (.cells #[.slice none 0 0] 47)).alloc (.cells #[.int .i64 0] 3)).alloc (.cells #[.int .i64 0] 48)).alloc (.cells (cfA Cf.zero) 46)).alloc (.cells #[.slice none 0 0] 47)) →
    W.heap[w.heap.size]? = some (.cells (cfA Cf.zero) 46 (0, 0)) ∧ Boxed W (w.heap.size + 1) 47 (.slice none 0 0) ∧ Boxed W (w.heap.size + 2) 3 (.int .i64 0) ∧ Boxed W (w.heap.size + 3) 48 (.int .i64 0) ∧ W.heap[w.heap.size + 4]? = some (.cells (cfA Cf.zero) 46 (0, 0)) ∧ Below w.heap.size w W := by
  rintro W rfl
  have L : ∀ (W : World) (o : Obj) (k : Nat), W.heap.size = k → (W.alloc o).heap[k]? = some o := by rintro W o _ rfl; exact heap_alloc_last W o
  have U : ∀ (W : World) (o o' : Obj) (k : Nat), W.heap[k]? = some o' → (W.alloc o).heap[k]? = some o' := fun W o o' k h => Below.keepOld (Below.allocs W o) h
  refine ⟨?_, ?_, ?_, ?_, ?_, ?_⟩
  case refine_6 => refine (((((((Below.refl _ w).alloc ?_ _).alloc ?_ _).alloc ?_ _).alloc ?_ _).alloc ?_ _).alloc ?_ _) <;> simp <;> omega
  all_goals (
    try unfold Boxed
    repeat (first
      | (refine L _ _ _ ?_; simp only [World.size_alloc]; done)
      | refine U _ _ _ _ ?_))
/-- how a round may turn -/
def PT (H : Nat) (v : Value) (k : Nat) : Prop := (H ≤ k ∧ k < H + 8) ∨ v.ownBlock = some k
theorem pt_end {H : Nat} {W W' : World} {p : Option Addr} {n cap e : Nat} {xs : List Value} (ho : W.ownsRow (H + 9) e 103 (.slice p n cap) n xs) (ht : Turns (PT H (.slice p n cap)) W W') : KeepsFrom (H + 9) W W' ∧ Turns (LT H (H + 8)) W W' := by
  refine ⟨kf_cells ht (fun k hk => ?_), turns_wide ht (fun k hk => ?_)⟩
  · rcases hk with hk | hk
    · exact .inl (by omega)
    · exact .inr (own_cells ho k hk)
  · rcases hk with hk | hk
    · exact ⟨hk.1, by omega⟩
    · have := (ho.lt k hk).1
      exact ⟨by omega, by omega⟩
theorem start_at (w : World) (s : List UInt8) : ∀ W, W = (((((((((w.alloc (.cells (cfA Cf.zero) 46)).alloc (.cells #[.slice none 0 0] 47)).alloc (.cells #[.int .i64 0] 3)).alloc (.cells #[.int .i64 0] 48)).alloc (.cells (cfA Cf.zero) 46)).alloc (.cells #[.slice none 0 0] 47)).alloc (.cells #[.bool false] 4)).alloc (.cells #[.int .i64 0] 3)).alloc (.cells #[.string (S s)] 9)) →
    PI w (linesL s) [] W ∧ W.heap.size = w.heap.size + 9 ∧ W.heap[w.heap.size + 8]? = some (.cells #[.string (S s)] 9 (0, 0)) := by
  rintro W rfl
  have hb : Below w.heap.size w (((((((((w.alloc (.cells (cfA Cf.zero) 46)).alloc (.cells #[.slice none 0 0] 47)).alloc (.cells #[.int .i64 0] 3)).alloc (.cells #[.int .i64 0] 48)).alloc (.cells (cfA Cf.zero) 46)).alloc (.cells #[.slice none 0 0] 47)).alloc (.cells #[.bool false] 4)).alloc (.cells #[.int .i64 0] 3)).alloc (.cells #[.string (S s)] 9)) := by
    refine ((((((((((Below.refl _ w).alloc ?_ _).alloc ?_ _).alloc ?_ _).alloc ?_ _).alloc ?_ _).alloc ?_ _).alloc ?_ _).alloc ?_ _).alloc ?_ _) <;> simp <;> omega
  have L : ∀ (W : World) (o : Obj) (k : Nat), W.heap.size = k → (W.alloc o).heap[k]? = some o := by rintro W o _ rfl; exact heap_alloc_last W o
  have U : ∀ (W : World) (o o' : Obj) (k : Nat), W.heap[k]? = some o' → (W.alloc o).heap[k]? = some o' := fun W o o' k h => Below.keepOld (Below.allocs W o) h
  refine ⟨⟨⟨none, [], rfl, rfl, Nat.le_refl _, ?_, ?_, ?_, ?_, ?_, ⟨none, 0, ?_, World.ownsRow_nil _ _ _ _, fun r hr => nomatch hr⟩, ?_, ?_⟩, hb, ?_⟩, ?_, ?_⟩
  all_goals first | (simp; done) | (
    try unfold Boxed
    repeat (first
      | (refine L _ _ _ ?_; simp only [World.size_alloc]; done)
      | refine U _ _ _ _ ?_))
theorem round_end {w W0 W W' : World} {LS : List (List UInt8)} {i : Nat} {p : Option Addr} {n cap : Nat} {xs : List Value} {st' : Option (Cf × List Ev)} {l' : List ER} (hz : W0.heap.size = w.heap.size + 9) (ho : W.ownsRow (w.heap.size + 9) 31 103 (.slice p n cap) n xs)
    (ht : Turns (PT w.heap.size (.slice p n cap)) W W') (hr : runL none (LS.take (i + 1)) = some st') (hev : evs l' = (st'.map (·.2)).getD []) (hl : l'.length ≤ i + 1) (hP : PS w.heap.size (i + 1) ((st'.map (·.1)).getD Cf.zero) st'.isSome l' W')
    (lo : Below w.heap.size w W) (bg : w.heap.size + 9 ≤ W.heap.size) : KeepsFrom W0.heap.size W W' ∧ Turns (LT w.heap.size (w.heap.size + 8)) W W' ∧ PI w LS (List.range i ++ [i]) W' := by
  have hln : (List.range i ++ [i]).length = i + 1 := by simp
  obtain ⟨h1, h2⟩ := pt_end ho ht
  rw [hz]
  refine ⟨h1, h2, ⟨st', l', by rw [hln]; exact hr, hev, by rw [hln]; exact hl, by rw [hln]; exact hP⟩, lo.trans (h2.below lo.size (fun k hk => hk.1)), Nat.le_trans bg ht.size⟩
theorem round_bad {w W0 W W' : World} {c : Code} {s : List UInt8} {m : Int} {p : Option Addr} {n cap : Nat} {xs : List Value} (hz : W0.heap.size = w.heap.size + 9) (ho : W.ownsRow (w.heap.size + 9) 31 103 (.slice p n cap) n xs)
    (ht : Turns (PT w.heap.size (.slice p n cap)) W W') (hb : parseB s = (Cf.zero, [], m, 4)) (hc : c = Code.ret) (hP : W'.heap[w.heap.size]? = some (.cells (cfA Cf.zero) 46 (0, 0)) ∧ Boxed W' (w.heap.size + 1) 47 (.slice none 0 0) ∧ Boxed W' (w.heap.size + 2) 3 (.int .i64 m) ∧ Boxed W' (w.heap.size + 3) 48 (.int .i64 4))
    (lo : Below w.heap.size w W) (bg : w.heap.size + 9 ≤ W.heap.size) : KeepsFrom W0.heap.size W W' ∧ ∃ m : Int, (c = Code.ret ∧ parseB s = (Cf.zero, [], m, 4)) ∧ PX w m W' := by
  obtain ⟨h1, h2⟩ := pt_end ho ht
  rw [hz]
  exact ⟨h1, m, ⟨hc, hb⟩, hP.1, hP.2.1, hP.2.2.1, hP.2.2.2, lo.trans (h2.below lo.size (fun k hk => hk.1)), Nat.le_trans bg ht.size⟩
theorem cells_set {W : World} {k B : Nat} {o : Obj} {v : Value} (h : W.heap[k]? = some o) (hne : ¬ k = B) : (W.setCell ⟨B, 0, none⟩ v).heap[k]? = some o := by
  rw [Below.heap_setCell _ _ _ _ hne]; exact h
theorem cells_setRow {W : World} {k B : Nat} {o : Obj} {A : Array Value} (h : W.heap[k]? = some o) (hne : ¬ k = B) : (W.setRow B A).heap[k]? = some o := (turns_setRow W B A).keep h hne
/-- the four results stored -/
theorem px_store {H : Nat} {W : World} {_m : Int} {A : Array Value} {v1 v2 v3 : Value} (r0 : W.heap[H]? = some (.cells A 46 (0, 0))) (r1 : Boxed W (H + 1) 47 v1) (r2 : Boxed W (H + 2) 3 v2) (r3 : Boxed W (H + 3) 48 v3) (C : Array Value) (u1 u2 u3 : Value) :
    ∃ X1 X2 X3 X4, X1 = W.setRow H C ∧ X2 = X1.setCell ⟨H + 1, 0, none⟩ u1 ∧ X3 = X2.setCell ⟨H + 2, 0, none⟩ u2 ∧ X4 = X3.setCell ⟨H + 3, 0, none⟩ u3 ∧
      Boxed X1 (H + 1) 47 v1 ∧ Boxed X2 (H + 2) 3 v2 ∧ Boxed X3 (H + 3) 48 v3 ∧
      (X4.heap[H]? = some (.cells C 46 (0, 0)) ∧ Boxed X4 (H + 1) 47 u1 ∧ Boxed X4 (H + 2) 3 u2 ∧ Boxed X4 (H + 3) 48 u3) ∧ Turns (fun k => H ≤ k ∧ k < H + 4) W X4 := by
  have a1 := setRow_heap _ _ _ C _ _ r0
  have b1 : Boxed (W.setRow H C) (H + 1) _ _ := cells_setRow r1 (by omega)
  have b2 : Boxed (W.setRow H C) (H + 2) _ _ := cells_setRow r2 (by omega)
  have b3 : Boxed (W.setRow H C) (H + 3) _ _ := cells_setRow r3 (by omega)
  have c1 := b1.set u1
  have c2 : Boxed ((W.setRow H C).setCell ⟨H + 1, 0, none⟩ u1) (H + 2) _ _ := cells_set b2 (by omega)
  have c3 : Boxed ((W.setRow H C).setCell ⟨H + 1, 0, none⟩ u1) (H + 3) _ _ := cells_set b3 (by omega)
  have d2 := c2.set u2
  have d3 : Boxed (((W.setRow H C).setCell ⟨H + 1, 0, none⟩ u1).setCell ⟨H + 2, 0, none⟩ u2) (H + 3) _ _ := cells_set c3 (by omega)
  have e3 := d3.set u3
  refine ⟨_, _, _, _, rfl, rfl, rfl, rfl, b1, c2, d3, ⟨?_, ?_, ?_, e3⟩, ?_⟩
  · exact cells_set (cells_set (cells_set a1 (by omega)) (by omega)) (by omega)
  · exact cells_set (cells_set c1 (by omega)) (by omega)
  · exact cells_set d2 (by omega)
  · exact ((((turns_wide (turns_setRow W H C) (T := fun k => H ≤ k ∧ k < H + 4) (fun k hk => by omega)).setCell (p := ⟨H + 1, 0, none⟩) (fun _ => by show H ≤ H + 1 ∧ H + 1 < H + 4; omega) u1).setCell (p := ⟨H + 2, 0, none⟩) (fun _ => by show H ≤ H + 2 ∧ H + 2 < H + 4; omega) u2).setCell (p := ⟨H + 3, 0, none⟩) (fun _ => by show H ≤ H + 3 ∧ H + 3 < H + 4; omega) u3)
theorem lv_sl (w : World) (g : Nat) (v : Value) (h : w.cell? ⟨g, 0, none⟩ = some v) : (loadVar 47 ⟨g, 0, none⟩).run Tryd.prog w = .ok v w := by
  have hu := Tryd.underlying47
  simp [loadVar, isAgg, run_underlying hu, h, go_sem]
theorem lv_int (w : World) (g : Nat) (v : Value) (h : w.cell? ⟨g, 0, none⟩ = some v) : (loadVar 3 ⟨g, 0, none⟩).run Tryd.prog w = .ok v w := by
  have hu := Tryd.underlying3
  simp [loadVar, isAgg, run_underlying hu, h, go_sem]
theorem lv_errno (w : World) (g : Nat) (v : Value) (h : w.cell? ⟨g, 0, none⟩ = some v) : (loadVar 48 ⟨g, 0, none⟩).run Tryd.prog w = .ok v w := by
  have hu := Tryd.underlying48
  simp [loadVar, isAgg, run_underlying hu, h, go_sem]
def ParseP (s : List UInt8) (w : World) (x : Ending) (w' : World) : Prop := ∃ (p : Option Addr) (cap : Nat) (l : List ER), evs l = (parseB s).2.1 ∧ x = .returned (.tuple #[.agg (cfA (parseB s).1), .slice p l.length cap, .int .i64 (parseB s).2.2.1, .int .i64 (parseB s).2.2.2]) ∧ Es w' p l.length cap l ∧ Below w.heap.size w w'
/-- the list that Parse made -/
def L5 (b : Nat) (l : List ER) (p : Option Addr) (cap : Nat) (W : World) : Prop := W.ownsRow (b) 31 103 (.slice p l.length cap) l.length (l.flatMap ER.l) ∧ ∀ r ∈ l, r.At W ∧ Far r (b) (.slice p l.length cap)
theorem L5.turns {S : Nat → Prop} {b : Nat} {l : List ER} {p : Option Addr} {cap : Nat} {W W' : World} (h : L5 b l p cap W) (ht : Turns S W W') (hS : ∀ k, S k → k < b ∨ ∃ o, W.heap[k]? = some o ∧ o.isCells = false) : L5 b l p cap W' :=
  ⟨own_off ht hS h.1, fun r hr => by
    obtain ⟨a1, a2⟩ := h.2 r hr
    exact ⟨⟨a1.wf, sl_off ht hS a1.bs (fun a ha h0 => (a2.pb a ha h0).1), ⟨sl_off ht hS a1.ids.sl (fun a ha h0 => (a2.q a ha h0).1), a1.ids.each, a1.ids.count⟩⟩, a2⟩⟩
theorem L5.es {b : Nat} {l : List ER} {p : Option Addr} {cap : Nat} {W : World} (h : L5 b l p cap W) : Es W p l.length cap l := by
  obtain ⟨p1, c1, he, hs⟩ := own_sl h.1
  cases he
  exact ⟨hs, fun r hr => (h.2 r hr).1, rfl⟩
theorem L5.nil (b : Nat) (W : World) : L5 b [] none 0 W := ⟨World.ownsRow_nil _ _ _ _, fun _r hr => nomatch hr⟩
theorem L5.push {b : Nat} {l : List ER} {W w9 : World} {tmp : Obj} {p p' : Option Addr} {cap cap' : Nat} {r : ER} (h : L5 b l p cap W) (hr : r.At W ∧ Far r b (.slice p l.length cap))
    (ho : w9.ownsRow b 31 103 (.slice p' (l.length + 1) cap') (l.length + 1) (l.flatMap ER.l ++ r.l)) (hg : (W.alloc tmp).grownBy w9 (Value.slice p l.length cap).ownBlock)
    (hn : ∀ k, (Value.slice p' (l.length + 1) cap').ownBlock = some k → (Value.slice p l.length cap).ownBlock = some k ∨ k = (W.alloc tmp).heap.size) : L5 b (l ++ [r]) p' cap' w9 := by
  have ht : Turns (fun k => (Value.slice p l.length cap).ownBlock = some k) W w9 := (Turns.of_below (S := fun k => (Value.slice p l.length cap).ownBlock = some k) (Below.allocs W tmp)).trans (Turns.grown hg (fun k h => h)) (fun _ _ h => h)
  have hS : ∀ k, (Value.slice p l.length cap).ownBlock = some k → k < b ∨ (Value.slice p l.length cap).ownBlock = some k := fun k hk => .inr hk
  refine ⟨by rw [List.length_append, List.flatMap_append]; simpa using ho, fun x hx => ?_⟩
  have hx : x.At W ∧ Far x b (.slice p l.length cap) := by
    rcases List.mem_append.1 hx with hx | hx
    · exact h.2 x hx
    · rw [List.mem_singleton] at hx; rw [hx]; exact hr
  obtain ⟨a1, a2⟩ := hx
  rw [List.length_append]
  exact ⟨⟨a1.wf, sl_away ht hS a1.bs a2.pb, ⟨sl_away ht hS a1.ids.sl a2.q, a1.ids.each, a1.ids.count⟩⟩, ⟨away_next (by simp) hn a1.bs a2.pb, away_next (by simp) hn a1.ids.sl a2.q⟩⟩
theorem L5.below {b : Nat} {l : List ER} {p : Option Addr} {cap : Nat} {W W' : World} (h : L5 b l p cap W) (hb : Below W.heap.size W W') : L5 b l p cap W' := h.turns (Turns.of_below (S := fun _ => False) hb) (fun _ h => h.elim)
theorem L5.far {b : Nat} {l : List ER} {p : Option Addr} {cap : Nat} {W : World} (h : L5 b l p cap W) {m : Nat} (hm : W.heap.size ≤ m) (hb : b ≤ m) {r : ER} (h1 : ∀ a, r.pb = some a → m ≤ a.block) (h2 : ∀ a, r.q = some a → m ≤ a.block) : Far r b (.slice p l.length cap) := by
  have key : ∀ a : Addr, m ≤ a.block → b ≤ a.block ∧ ¬ (Value.slice p l.length cap).ownBlock = some a.block := fun a ha => ⟨by omega, fun hk => by have := (h.1.lt _ hk).2; omega⟩
  exact ⟨fun a ha _ => key a (h1 a ha), fun a ha _ => key a (h2 a ha)⟩
theorem parse_fin {s : List UInt8} {w W : World} {D : Nat} {c : Cf} {l : List ER} {p : Option Addr} {cap : Nat} {m e : Int} {tmps : Array Value} (hK : W.heap[D]? = some (.deferred (some []))) (hD : w.heap.size + 9 ≤ D)
    (r : W.heap[w.heap.size]? = some (.cells (cfA c) 46 (0, 0)) ∧ Boxed W (w.heap.size + 1) 47 (.slice p l.length cap) ∧ Boxed W (w.heap.size + 2) 3 (.int .i64 m) ∧ Boxed W (w.heap.size + 3) 48 (.int .i64 e))
    (hpb : parseB s = (c, evs l, m, e)) (hL : L5 (w.heap.size + 9) l p cap W) (lo : Below w.heap.size w W)
    (t0 : tmps.getD 2 undef = .pointer (some ⟨w.heap.size, 0, none⟩)) (t1 : tmps.getD 3 undef = .pointer (some ⟨w.heap.size + 1, 0, none⟩)) (t2 : tmps.getD 4 undef = .pointer (some ⟨w.heap.size + 2, 0, none⟩)) (t3 : tmps.getD 5 undef = .pointer (some ⟨w.heap.size + 3, 0, none⟩)) :
    ∃ v, (results Tryd.f16 tmps).run Tryd.prog (W.putObj D (.deferred none)) = .ok v (W.putObj D (.deferred none)) ∧ ParseP s w (.returned v) (W.putObj D (.deferred none)) := by
  have ht : Turns (fun k => k = D) W (W.putObj D (.deferred none)) := Turns.grown (grownBy_putObj' W D _) (fun k e => by cases e; rfl)
  have hS : ∀ k, k = D → k < w.heap.size + 9 ∨ ∃ o, W.heap[k]? = some o ∧ o.isCells = false := fun k hk => .inr ⟨.deferred (some []), by rw [hk]; exact hK, rfl⟩
  obtain ⟨r0, r1, r2, r3⟩ := r
  have a0 := ht.keep r0 (by omega)
  have a1 : Boxed _ _ _ _ := ht.keep r1 (by omega)
  have a2 : Boxed _ _ _ _ := ht.keep r2 (by omega)
  have a3 : Boxed _ _ _ _ := ht.keep r3 (by omega)
  have hb : Below w.heap.size w (W.putObj D (.deferred none)) := lo.trans (ht.below lo.size (fun k hk => by omega))
  refine ⟨_, results_4c rfl _ _ _ _ _ _ _ _ _ _ t0 a0 Tryd.underlying46 rfl (infoCf _ rfl) t1 t2 t3 (lv_sl _ _ _ a1.cell) (lv_int _ _ _ a2.cell) (lv_errno _ _ _ a3.cell), p, cap, l, ?_, ?_, (hL.turns ht hS).es, hb⟩
  · rw [hpb]
  · rw [hpb]
theorem wpList_buildPtrs6 {ops : Array Oper} {rest : List Oper} {o : Oper} {a : Act} {w : World} {Q : Exit → Act → World → Prop} (hg : o.guard = none) (x0 x1 x2 x3 x4 x5 : Operand) (ho : o.op = .buildSlice 120 6 #[(0, x0), (1, x1), (2, x2), (3, x3), (4, x4), (5, x5)]) (p0 p1 p2 p3 p4 p5 : Option Addr) (h0 : a.eval x0 = .pointer p0) (h1 : a.eval x1 = .pointer p1) (h2 : a.eval x2 = .pointer p2) (h3 : a.eval x3 = .pointer p3) (h4 : a.eval x4 = .pointer p4) (h5 : a.eval x5 = .pointer p5)
    (h : wpList Tryd.prog ops Q rest (a.put o.dst (.slice (some ⟨w.heap.size, 0, none⟩) 6 6)) (w.alloc (.cells #[.pointer p0, .pointer p1, .pointer p2, .pointer p3, .pointer p4, .pointer p5] 107))) : wpList Tryd.prog ops Q (o :: rest) a w := by
  obtain ⟨i, hi, hiv⟩ := Option.map_eq_some_iff.1 infoPI
  have e1 : i.zero = some (.pointer none) := congrArg Prod.fst hiv
  have e2 : i.size = 1 := congrArg (fun z => z.2.1) hiv
  refine wpList_buildSlice hg 120 107 6 _ ho _ i _ Tryd.underlying120 hi e1 (by rw [e2]; omega) (by rw [e2]; omega) ?_ h
  have : (#[(0, x0), (1, x1), (2, x2), (3, x3), (4, x4), (5, x5)].map fun (p : Nat × Operand) => (p.1, a.eval p.2)).toList = [(0, .pointer p0), (1, .pointer p1), (2, .pointer p2), (3, .pointer p3), (4, .pointer p4), (5, .pointer p5)] := by simp [h0, h1, h2, h3, h4, h5]
  rw [this, e2, show Array.map (fun x => (Value.pointer none).cells[x % (Value.pointer none).cells.size]!) (Array.range (6 * 1)) = #[.pointer none, .pointer none, .pointer none, .pointer none, .pointer none, .pointer none] from by kernel_rfl]
  simp [Instr.fill, Value.cells]
/-! ### plain -/
theorem take_getD1 (LS : List (List UInt8)) (i : Nat) (h : i < LS.length) : LS.take (i + 1) = LS.take i ++ [LS.getD i []] := by
  rw [List.take_succ_eq_append_getElem h, List.getD_eq_getElem?_getD, List.getElem?_eq_getElem h]; rfl
theorem run_next {LS : List (List UInt8)} {i : Nat} {st : Option (Cf × List Ev)} (h : i < LS.length) (h1 : runL none (LS.take i) = some st) : runL none (LS.take (i + 1)) = stepL st (LS.getD i []) := by
  rw [take_getD1 LS i h, run_snoc, h1]; rfl
theorem parse_bad {LS : List (List UInt8)} {i : Nat} {st : Option (Cf × List Ev)} (h : i < LS.length) (h1 : runL none (LS.take i) = some st) (h2 : stepL st (LS.getD i []) = none) : goB none LS 0 = (Cf.zero, [], (i : Int) + 1, 4) := by
  have hL : LS = LS.take i ++ LS.getD i [] :: LS.drop (i + 1) := by
    rw [← List.singleton_append, ← List.append_assoc, ← take_getD1 LS i h, List.take_append_drop]
  have := go_run (LS.take i) (LS.getD i [] :: LS.drop (i + 1)) none st 0 h1
  rw [← hL, go_cons, h2, List.length_take, Nat.min_eq_left (by omega)] at this
  rw [this]
  show (Cf.zero, [], ((0 + i + 1 : Nat) : Int), (4 : Int)) = _
  rw [show ((0 + i + 1 : Nat) : Int) = (i : Int) + 1 by omega]
theorem parse_end {LS : List (List UInt8)} {st : Option (Cf × List Ev)} (h1 : runL none LS = some st) : goB none LS 0 = match st with
    | none => (Cf.zero, [], (LS.length : Int) + 1, 4)
    | some (c, l) => (c, l, 0, 0) := by
  have := go_run LS [] none st 0 h1
  rw [List.append_nil] at this
  rw [this]
  cases st with
  | none =>
    show (Cf.zero, [], ((0 + LS.length + 1 : Nat) : Int), (4 : Int)) = _
    rw [show ((0 + LS.length + 1 : Nat) : Int) = (LS.length : Int) + 1 by omega]
  | some st => rfl
end Go.Proofs.YtcddgbobbogpgaaDoor.Scr
