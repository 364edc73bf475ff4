/- LAYER 9: whatever is read, in any order, is as the reference says. Conditions: the laid cell of errors.errorType. -/
import Derived.Test.YtbfddfmglkhimaaDoorRdStep
import Derived.Test.YtbfddfmglkhimaaDoorRow
namespace Go.Proofs.YtbfddfmglkhimaaDoor.RR
open Go.RowKit Go.Mir Go.Mir.Parts Rdr

def o9V (o : Int × Int × Int) : List Value := [.int .i64 o.1, .int .i64 o.2.1, .int .i64 o.2.2]
structure Ops9 (w : World) (p : Option Addr) (n c : Nat) (os : List (Int × Int × Int)) : Prop where
  rs : Rs w p n c 3 (os.map o9V)
  bd : ∀ o ∈ os, (-9223372036854775808 ≤ o.2.1 ∧ o.2.1 ≤ 9223372036854775807) ∧ (-9223372036854775808 ≤ o.2.2 ∧ o.2.2 ≤ 9223372036854775807)
theorem built_rr (p : Option Addr) (n c : Nat) : Tryd.prog.built 39 [(0, .slice p n c)] = some #[.slice p n c, .int .i64 0, .int .i64 0] := by kernel_rfl
theorem sizeO9 (a b c : Value) : (Tryd.prog.info? 41).map (·.size) = some (#[a, b, c] : Array Value).size := by kernel_rfl
set_option maxRecDepth 100000 in
set_option maxHeartbeats 6400000 in
theorem law_reads (w : World) (hE : EType w) (p : Option Addr) (n c : Nat) (b : List UInt8) (hB : Bs w p n c b) (po : Option Addr) (no co : Nat) (os : List (Int × Int × Int)) (hO : Ops9 w po no co os) :
    Calls Tryd.prog 5 #[.agg #[.slice p n c, .slice po no co]] w fun e w' => e = .returned (.bool true) ∧ Below w.heap.size w w' := by
  have HB1 := Lib.hid (Below.allocs w (.cells #[.slice p n c, .slice po no co] 37))
  have HE1 := Lib.hid (hE.below HB1.out hE.lt)
  have HE := Lib.hid hE
  have HBS := Lib.hid hB
  have HOS := Lib.hid hO
  have hle := hB.le
  have hmax := hB.max
  have hle2 := hO.rs.sl.le
  have hmax2 := hO.rs.sl.max
  have HN := Lib.hid hB.length
  have HM : Hid (os.length = no) := by have := hO.rs.count; show _ = _; simpa using this
  clear hE hB hO
  by_cases hbig : 2000 < n
  · have hd : decide ((2000 : Int) < (n : Int)) = true := decide_eq_true (by omega)
    go_enter Tryd.func5, Tryd.ntmps5
    go_wp2_with fail
    refine (alive9_any _ HE1.out).mono ?_
    rintro e w' ⟨rfl, hb⟩
    have HB := Lib.hid (HB1.out.trans (hb.mono HB1.out.size))
    clear hb
    go_wp2_with fail
    go_ret
    exact ⟨rfl, HB.out⟩
  by_cases hbig2 : 200 < no
  · have hd : decide ((2000 : Int) < (n : Int)) = false := decide_eq_false (by omega)
    have hd2 : decide ((200 : Int) < (no : Int)) = true := decide_eq_true (by omega)
    go_enter Tryd.func5, Tryd.ntmps5
    go_wp2_with fail
    refine (alive9_any _ HE1.out).mono ?_
    rintro e w' ⟨rfl, hb⟩
    have HB := Lib.hid (HB1.out.trans (hb.mono HB1.out.size))
    clear hb
    go_wp2_with fail
    go_ret
    exact ⟨rfl, HB.out⟩
  have hd : decide ((2000 : Int) < (n : Int)) = false := decide_eq_false (by omega)
  have hd2 : decide ((200 : Int) < (no : Int)) = false := decide_eq_false (by omega)
  have HR1 : Hid ((w.alloc (.cells #[.slice p n c, .slice po no co] 37)).heap[w.heap.size]? = some (.cells #[.slice p n c, .slice po no co] 37 (0, 0))) := heap_alloc_last _ _
  have HBS1 := Lib.hid (HBS.out.below HB1.out)
  go_enter Tryd.func5, Tryd.ntmps5
  go_wp2_with fail
  have HS1 : Hid ((w.alloc (.cells #[.slice p n c, .slice po no co] 37)).heap.size = w.heap.size + 1) := by show _ = _; simp
  generalize w.alloc (.cells #[.slice p n c, .slice po no co] 37) = w1 at *
  refine (new_any w1 _ _ _ _ HBS1.out (by omega)).mono ?_
  rintro e w2 ⟨rb, rfl, hr2, hb2⟩
  have HR2 := Lib.hid hr2
  have HC2 := Lib.hid (Below.keepOld hb2 HR1.out)
  have HB2 := Lib.hid (HB1.out.trans (hb2.mono HB1.out.size))
  have HS2 := Lib.hid hb2.size
  have hcb : w2.cell? ⟨w.heap.size, 0, none⟩ = some (.slice p n c) := by rw [cell_of_row _ _ _ _ _ _ HC2.out]; rfl
  have hco : w2.cell? ⟨w.heap.size, 1, none⟩ = some (.slice po no co) := by rw [cell_of_row _ _ _ _ _ _ HC2.out]; rfl
  have hbr := built_rr p n c
  clear hr2 hb2
  go_upto_region 5 with (refine wpList_build rfl 39 _ rfl [(0, .slice p n c)] rfl _ hbr ?_)
  have HX3 : Hid ((w2.alloc (.cells #[.slice p n c, .int .i64 0, .int .i64 0] 39)).heap[w2.heap.size]? = some (.cells #[.slice p n c, .int .i64 ((RD.new b).pos : Int), .int .i64 (RD.new b).err] 39 (0, 0))) := heap_alloc_last _ _
  have HR3 := Lib.hid (HR2.out.below (Below.allocs w2 (.cells #[.slice p n c, .int .i64 0, .int .i64 0] 39)))
  have HC3 := Lib.hid (Below.keepOld (Below.allocs w2 (.cells #[.slice p n c, .int .i64 0, .int .i64 0] 39)) HC2.out)
  have HB3 := Lib.hid (HB2.out.trans ((Below.allocs w2 (.cells #[.slice p n c, .int .i64 0, .int .i64 0] 39)).mono HB2.out.size))
  generalize w2.alloc (.cells #[.slice p n c, .int .i64 0, .int .i64 0] 39) = w3 at *
  clear hcb hco
  have hco : w3.cell? ⟨w.heap.size, 1, none⟩ = some (.slice po no co) := by rw [cell_of_row _ _ _ _ _ _ HC3.out]; rfl
  have HRX : Hid (rb < w2.heap.size) := by
    obtain ⟨v, bv, h⟩ := HR2.out
    exact h.lt
  have HXB : Hid (w.heap.size + 1 ≤ w2.heap.size) := by have h1 := HS1.out; have h2 := HS2.out; show _ ≤ _; omega
  clear HR2 HS2 HC2 hbr
  generalize w2.heap.size = xb at *
  have HBA := HS1
  clear HS1
  generalize w1.heap.size = base at *
  go_wp2_with fail
  go_loopw [29] (fun j wr => ∃ (k : Nat) (s : RD), k ≤ no ∧ j = .int .i64 k ∧ s.l = b ∧ RAt wr base rb s ∧ wr.heap[xb]? = some (.cells #[.slice p n c, .int .i64 (s.pos : Int), .int .i64 s.err] 39 (0, 0)) ∧ wr.heap[w.heap.size]? = some (.cells #[.slice p n c, .slice po no co] 37 (0, 0)) ∧ Below w.heap.size w wr) (fun j _ => no - (intOf j).toNat)
  case atStart => exact ⟨0, RD.new b, by omega, rfl, rfl, HR3.out, HX3.out, HC3.out, HB3.out⟩
  case round =>
    obtain ⟨k, s, hk, rfl, hsl, hra, hxr, hcr, hbw⟩ := hrel
    have HSL := Lib.hid hsl
    have HRA := Lib.hid hra
    have HXR := Lib.hid hxr
    have HCR := Lib.hid hcr
    have HBW := Lib.hid hbw
    clear hsl hra hxr hcr hbw
    by_cases hlt : k < no
    · have hdk : decide ((k : Int) < (no : Int)) = true := decide_eq_true (by omega)
      have hOW : Ops9 wr po no co os := ⟨HOS.out.rs.below HBW.out, HOS.out.bd⟩
      obtain ⟨ob, oo, rfl⟩ := hOW.rs.sl.addr (by omega) (by omega)
      have hrow := hOW.rs.row k (by rw [List.length_map, HM.out]; exact hlt)
      have hbd := hOW.bd _ (List.getElem_mem (show k < os.length by rw [HM.out]; exact hlt))
      rw [List.getElem_map] at hrow
      generalize os[k]'(by rw [HM.out]; exact hlt) = o at *
      obtain ⟨kind, oa, obb⟩ := o
      have HROW : Hid (wr.rangeAt ob (oo + k * 3) (#[.int .i64 kind, .int .i64 oa, .int .i64 obb] : Array Value).toList) := hrow
      have HBD := Lib.hid hbd
      clear hOW hrow hbd
      have hbal := Below.allocs wr (.cells #[.int .i64 kind, .int .i64 oa, .int .i64 obb] 41)
      have HRB := Lib.hid (HRA.out.below hbal)
      have HBB := Lib.hid ((HBS.out.below HBW.out).below hbal)
      have HXB4 := Lib.hid (Below.keepOld hbal HXR.out)
      have HO4 : Hid ((wr.alloc (.cells #[.int .i64 kind, .int .i64 oa, .int .i64 obb] 41)).heap[wr.heap.size]? = some (.cells #[.int .i64 kind, .int .i64 oa, .int .i64 obb] 41 (0, 0))) := heap_alloc_last _ _
      have HC4 := Lib.hid (Below.keepOld hbal HCR.out)
      have HW4 := Lib.hid (HBW.out.trans (hbal.mono HBW.out.size))
      clear hbal
      go_upto_region 8 with (refine wpList_load_mid rfl 41 _ rfl ob (oo + k * 3) rfl (#[.int .i64 kind, .int .i64 oa, .int .i64 obb] : Array Value).toList _ HROW.out Tryd.underlying41 rfl (sizeO9 _ _ _) ?_)
      generalize wr.alloc (.cells #[.int .i64 kind, .int .i64 oa, .int .i64 obb] 41) = w4 at *
      obtain ⟨c40, c41, c42, f40, f41, f42⟩ := row3 HXB4.out
      obtain ⟨c50, c51, c52, f50, f51, f52⟩ := row3 HO4.out
      go_wp2_with fail
      refine (step_any p n c kind oa obb w4 HRB.out (by rw [HSL.out]; exact HBB.out) (fun hn a ha => by
        obtain ⟨b9, o9, hp9⟩ := HBS.out.addr hn (by omega)
        have h9 := Bs.byte (hp9 ▸ HBS.out) (j := 0) (by rw [HN.out]; exact hn)
        have h8 := block_lt_of_cell h9
        have h7 := HBA.out
        rw [hp9] at ha
        obtain rfl := Option.some.inj ha
        show b9 < base
        have h6 : b9 < w.heap.size := h8
        omega) HBD.out.1 HBD.out.2).mono ?_
      rintro e w5 ⟨rfl, hl⟩
      have hl5 : (stepD s kind oa obb).l = b := by rw [stepD_l]; exact HSL.out
      generalize stepD s kind oa obb = s5 at *
      have HL5 := Lib.hid hl5
      have HLR := Lib.hid hl
      have e5 := hl.turn.keep HXB4.out (by have := HRX.out; omega)
      have hc5 := hl.turn.keep HC4.out (by have h1 := HBA.out; obtain ⟨v, bv, h⟩ := HRB.out; have := h.low; omega)
      have hb5 : Below w.heap.size w w5 := HW4.out.trans (hl.belowB HRB.out (by have := HBA.out; omega))
      have hal := Below.allocs w5 (.cells #[.slice p n c, .int .i64 (s5.pos : Int), .int .i64 s5.err] 39)
      have e6 := Below.keepOld hal e5
      have hr6 := hl.there.below hal
      have hw6 := set3_below (hb5.trans (hal.mono hb5.size)) (b := xb) (by have := HXB.out; omega) (.slice p n c) (.int .i64 (s5.pos : Int)) (.int .i64 s5.err)
      have HX6 := Lib.hid (set3 rfl e6 (.slice p n c) (.int .i64 (s5.pos : Int)) (.int .i64 s5.err))
      have hc6 : ((((w5.alloc (.cells #[.slice p n c, .int .i64 (s5.pos : Int), .int .i64 s5.err] 39)).setCell ⟨xb, 0, none⟩ (.slice p n c)).setCell ⟨xb, 1, none⟩ (.int .i64 (s5.pos : Int))).setCell ⟨xb, 2, none⟩ (.int .i64 s5.err)).heap[w.heap.size]? = some (.cells #[.slice p n c, .slice (some ⟨ob, oo, none⟩) no co] 37 (0, 0)) := by
        rw [set3_other (by have := HXB.out; omega)]
        exact Below.keepOld hal hc5
      have hra6 : RAt ((((w5.alloc (.cells #[.slice p n c, .int .i64 (s5.pos : Int), .int .i64 s5.err] 39)).setCell ⟨xb, 0, none⟩ (.slice p n c)).setCell ⟨xb, 1, none⟩ (.int .i64 (s5.pos : Int))).setCell ⟨xb, 2, none⟩ (.int .i64 s5.err)) base rb s5 := by
        refine hr6.touch ((((Turns.refl (fun k => k = xb) _).setCell (p := ⟨xb, 0, none⟩) (fun _ => rfl) _).setCell (p := ⟨xb, 1, none⟩) (fun _ => rfl) _).setCell (p := ⟨xb, 2, none⟩) (fun _ => rfl) _) (fun k M t fr hk h2 h3 => ?_)
        subst h3
        rw [e6] at hk
        injection hk with e1
        injection e1 with _ e2
        subst e2
        revert h2
        decide
      have HC6 := Lib.hid hc6
      have HRA6 := Lib.hid hra6
      have HW6 := Lib.hid hw6
      clear hl hl5 hc5 hb5 hal hr6 hw6 hc6 hra6 c50 c51 c52 f50 f51 f52 c40 c41 c42 f40 f41 f42
      obtain ⟨c40, c41, c42, f40, f41, f42⟩ := row3 e6
      clear e5 e6
      go_upto_region 9 with fail
      generalize hw5 : w5.alloc (.cells #[.slice p n c, .int .i64 (s5.pos : Int), .int .i64 s5.err] 39) = w5a at *
      have hc7 : w5a.cell? ⟨w5.heap.size, 0, none⟩ = some (.slice p n c) ∧ w5a.cell? ⟨w5.heap.size, 1, none⟩ = some (.int .i64 (s5.pos : Int)) ∧ w5a.cell? ⟨w5.heap.size, 2, none⟩ = some (.int .i64 s5.err) := by
        obtain ⟨a0, a1, a2, _⟩ := row3 (heap_alloc_last w5 (.cells #[.slice p n c, .int .i64 (s5.pos : Int), .int .i64 s5.err] 39))
        rw [hw5] at a0 a1 a2
        exact ⟨a0, a1, a2⟩
      obtain ⟨c70, c71, c72⟩ := hc7
      clear hw5
      go_upto_region 10 with fail
      generalize ((w5a.setCell ⟨xb, 0, none⟩ (.slice p n c)).setCell ⟨xb, 1, none⟩ (.int .i64 (s5.pos : Int))).setCell ⟨xb, 2, none⟩ (.int .i64 s5.err) = w6 at *
      obtain ⟨c40, c41, c42, f40, f41, f42⟩ := row3 HX6.out
      have HOK := Lib.hid (Rdr_ok HRA6.out)
      have hps : s5.pos ≤ n := by have := HOK.out.2.1; rw [HL5.out, HN.out] at this; exact this
      obtain ⟨q, hq⟩ : ∃ q, n - s5.pos = q := ⟨_, rfl⟩
      have HQ : Hid (s5.l.length - s5.pos = q) := by show _ = _; rw [HL5.out, HN.out]; exact hq
      have hsub : (n : Int) - (s5.pos : Int) = (q : Int) := by omega
      have hw1 : IntKind.i64.wrap ((n : Int) - (s5.pos : Int)) = (q : Int) := by rw [hsub]; exact IntWalk.i64_in _ (by omega)
      have hw2 : IntKind.i64.wrap (q : Int) = (q : Int) := IntWalk.i64_in _ (by omega)
      clear hsub
      have HE6 := Lib.hid (HE.out.below HW6.out HE.out.lt)
      have HBS6 := Lib.hid (HBS.out.below HW6.out)
      clear hq
      refine wp_region_eager [(0, true), (1, true), (2, true), (3, true), (5, true), (6, true), (4, false), (7, true), (8, true), (9, true), (10, true), (12, true), (13, true), (14, true), (15, true), (16, true), (17, true), (11, false), (18, true), (19, true), (20, true), (21, true), (23, true), (24, true), (22, false), (25, true), (26, true), (27, true), (28, true), (30, true), (29, false), (31, false), (32, true), (33, true)] (by kernel_rfl) (by kernel_rfl) (eagerOpen rfl ?_)
      have hy0 : Below w6.heap.size w6 w6.drew := below_drew1 _ _
      have HK : Hid (∀ w', Below w6.heap.size w6 w' → w'.cell? ⟨xb, 1, none⟩ = some (.int .i64 (s5.pos : Int)) ∧ w'.cell? ⟨xb, 2, none⟩ = some (.int .i64 s5.err) ∧ w'.cell? ⟨w.heap.size, 0, none⟩ = some (.slice p n c)) := fun w' hb =>
        ⟨(row3 (Below.keepOld hb HX6.out)).2.1, (row3 (Below.keepOld hb HX6.out)).2.2.1, by rw [cell_of_row _ _ _ _ _ _ (Below.keepOld hb HC6.out)]; rfl⟩
      have HKR : Hid (∀ w', Below w6.heap.size w6 w' → w'.rangeAt xb 0 (#[.slice p n c, .int .i64 (s5.pos : Int), .int .i64 s5.err] : Array Value).toList) := fun w' hb j v hv => by rw [cell_of_row _ _ _ _ _ _ (Below.keepOld hb HX6.out), ← Array.getElem?_toList, Nat.zero_add]; exact hv
      repeat (first
        | ((with_reducible refine eagerLoadAt 4 ?_); refine wpEager_load (by rfl) 39 _ rfl xb 0 rfl #[.slice p n c, .int .i64 (s5.pos : Int), .int .i64 s5.err] _ (fun w' hb => HKR.out w' hb) Tryd.underlying39 rfl sizeR ?_; (try simp only [Act.put, List.setIfInBounds_toArray, List.set_cons_zero, List.set_cons_succ]); (try refine eagerOpen rfl ?_))
        | (first | (apply wpEager_take; (· rfl); (· (intro w' hb'; go_simp; try with_reducible rfl)); (try simp only [Act.put, List.setIfInBounds_toArray, List.set_cons_zero, List.set_cons_succ]); (try refine eagerOpen rfl ?_)) | (refine wpEager_skip (by rfl) ?_; (try simp only [Act.put, List.setIfInBounds_toArray, List.set_cons_zero, List.set_cons_succ]); (try refine eagerOpen rfl ?_)) | (refine wpEager_off (by rfl) ?_; (try simp only [Act.put, List.setIfInBounds_toArray, List.set_cons_zero, List.set_cons_succ]); (try refine eagerOpen rfl ?_)))
        | (apply wpEager_take; (· rfl); (· (intro w' hb'; have hk' := (HK.out) w' hb'; go_split_ands; go_simp; try with_reducible rfl)); (try simp only [Act.put, List.setIfInBounds_toArray, List.set_cons_zero, List.set_cons_succ]); (try refine eagerOpen rfl ?_)))
      (refine wpEager_op (by rfl) (fun K hK => ?_); go_simp; (refine (at_any _ (HRA6.out.below hy0)).mono ?_; rintro e y ⟨rfl, rfl⟩); refine Shut.out hK _ _ (by assumption) ?_; clear hK K; (try simp only [Act.put, List.setIfInBounds_toArray, List.set_cons_zero, List.set_cons_succ]); (try refine eagerOpen rfl ?_))
      repeat (first
        | ((with_reducible refine eagerLoadAt 4 ?_); refine wpEager_load (by rfl) 39 _ rfl xb 0 rfl #[.slice p n c, .int .i64 (s5.pos : Int), .int .i64 s5.err] _ (fun w' hb => HKR.out w' hb) Tryd.underlying39 rfl sizeR ?_; (try simp only [Act.put, List.setIfInBounds_toArray, List.set_cons_zero, List.set_cons_succ]); (try refine eagerOpen rfl ?_))
        | (first | (apply wpEager_take; (· rfl); (· (intro w' hb'; go_simp; try with_reducible rfl)); (try simp only [Act.put, List.setIfInBounds_toArray, List.set_cons_zero, List.set_cons_succ]); (try refine eagerOpen rfl ?_)) | (refine wpEager_skip (by rfl) ?_; (try simp only [Act.put, List.setIfInBounds_toArray, List.set_cons_zero, List.set_cons_succ]); (try refine eagerOpen rfl ?_)) | (refine wpEager_off (by rfl) ?_; (try simp only [Act.put, List.setIfInBounds_toArray, List.set_cons_zero, List.set_cons_succ]); (try refine eagerOpen rfl ?_)))
        | (apply wpEager_take; (· rfl); (· (intro w' hb'; have hk' := (HK.out) w' hb'; go_split_ands; go_simp; try with_reducible rfl)); (try simp only [Act.put, List.setIfInBounds_toArray, List.set_cons_zero, List.set_cons_succ]); (try refine eagerOpen rfl ?_)))
      (refine wpEager_op (by rfl) (fun K hK => ?_); go_simp; (refine (left_any _ (HRA6.out.below hy0)).mono ?_; rintro e y1 ⟨rfl, hb1⟩; have hy1 := hy0.trans hb1; rw [HQ.out]; have HY1 := Lib.hid hy1; clear hb1); refine Shut.out hK _ _ (by assumption) ?_; clear hK K; (try simp only [Act.put, List.setIfInBounds_toArray, List.set_cons_zero, List.set_cons_succ]); (try refine eagerOpen rfl ?_))
      repeat (first
        | ((with_reducible refine eagerLoadAt 4 ?_); refine wpEager_load (by rfl) 39 _ rfl xb 0 rfl #[.slice p n c, .int .i64 (s5.pos : Int), .int .i64 s5.err] _ (fun w' hb => HKR.out w' hb) Tryd.underlying39 rfl sizeR ?_; (try simp only [Act.put, List.setIfInBounds_toArray, List.set_cons_zero, List.set_cons_succ]); (try refine eagerOpen rfl ?_))
        | (first | (apply wpEager_take; (· rfl); (· (intro w' hb'; go_simp; try with_reducible rfl)); (try simp only [Act.put, List.setIfInBounds_toArray, List.set_cons_zero, List.set_cons_succ]); (try refine eagerOpen rfl ?_)) | (refine wpEager_skip (by rfl) ?_; (try simp only [Act.put, List.setIfInBounds_toArray, List.set_cons_zero, List.set_cons_succ]); (try refine eagerOpen rfl ?_)) | (refine wpEager_off (by rfl) ?_; (try simp only [Act.put, List.setIfInBounds_toArray, List.set_cons_zero, List.set_cons_succ]); (try refine eagerOpen rfl ?_)))
        | (apply wpEager_take; (· rfl); (· (intro w' hb'; have hk' := (HK.out) w' hb'; go_split_ands; go_simp; try with_reducible rfl)); (try simp only [Act.put, List.setIfInBounds_toArray, List.set_cons_zero, List.set_cons_succ]); (try refine eagerOpen rfl ?_)))
      (refine wpEager_op (by rfl) (fun K hK => ?_); go_simp; (refine (err_any _ (HRA6.out.below hy1) (HE6.out.below hy1 HE6.out.lt)).mono ?_; rintro e y2 ⟨rfl, hb2⟩; have hy2 := hy1.trans (hb2.mono hy1.size); clear hb2); refine Shut.out hK _ _ (by assumption) ?_; clear hK K; (try simp only [Act.put, List.setIfInBounds_toArray, List.set_cons_zero, List.set_cons_succ]); (try refine eagerOpen rfl ?_))
      repeat (first
        | ((with_reducible refine eagerLoadAt 4 ?_); refine wpEager_load (by rfl) 39 _ rfl xb 0 rfl #[.slice p n c, .int .i64 (s5.pos : Int), .int .i64 s5.err] _ (fun w' hb => HKR.out w' hb) Tryd.underlying39 rfl sizeR ?_; (try simp only [Act.put, List.setIfInBounds_toArray, List.set_cons_zero, List.set_cons_succ]); (try refine eagerOpen rfl ?_))
        | (first | (apply wpEager_take; (· rfl); (· (intro w' hb'; go_simp; try with_reducible rfl)); (try simp only [Act.put, List.setIfInBounds_toArray, List.set_cons_zero, List.set_cons_succ]); (try refine eagerOpen rfl ?_)) | (refine wpEager_skip (by rfl) ?_; (try simp only [Act.put, List.setIfInBounds_toArray, List.set_cons_zero, List.set_cons_succ]); (try refine eagerOpen rfl ?_)) | (refine wpEager_off (by rfl) ?_; (try simp only [Act.put, List.setIfInBounds_toArray, List.set_cons_zero, List.set_cons_succ]); (try refine eagerOpen rfl ?_)))
        | (apply wpEager_take; (· rfl); (· (intro w' hb'; have hk' := (HK.out) w' hb'; go_split_ands; go_simp; try with_reducible rfl)); (try simp only [Act.put, List.setIfInBounds_toArray, List.set_cons_zero, List.set_cons_succ]); (try refine eagerOpen rfl ?_)))
      (refine wpEager_op (by rfl) (fun K hK => ?_); go_simp; (refine (Rdr.done_any _ (HRA6.out.below hy2) (HE6.out.below hy2 HE6.out.lt)).mono ?_; rintro e y3 ⟨rfl, hb3⟩; have hy3 := hy2.trans (hb3.mono hy2.size); clear hb3); refine Shut.out hK _ _ (by assumption) ?_; clear hK K; (try simp only [Act.put, List.setIfInBounds_toArray, List.set_cons_zero, List.set_cons_succ]); (try refine eagerOpen rfl ?_))
      (refine wpEager_op (by rfl) (fun K hK => ?_); go_simp; (refine (RR.done_any p n c s5 _ HOK.out (by rw [HL5.out, HN.out]) (by omega)).mono ?_; rintro e y4 ⟨rfl, hb4⟩; have hy4 := hy3.trans (hb4.mono hy3.size); clear hb4); refine Shut.out hK _ _ (by assumption) ?_; clear hK K; (try simp only [Act.put, List.setIfInBounds_toArray, List.set_cons_zero, List.set_cons_succ]); (try refine eagerOpen rfl ?_))
      repeat (first
        | ((with_reducible refine eagerLoadAt 4 ?_); refine wpEager_load (by rfl) 39 _ rfl xb 0 rfl #[.slice p n c, .int .i64 (s5.pos : Int), .int .i64 s5.err] _ (fun w' hb => HKR.out w' hb) Tryd.underlying39 rfl sizeR ?_; (try simp only [Act.put, List.setIfInBounds_toArray, List.set_cons_zero, List.set_cons_succ]); (try refine eagerOpen rfl ?_))
        | (first | (apply wpEager_take; (· rfl); (· (intro w' hb'; go_simp; try with_reducible rfl)); (try simp only [Act.put, List.setIfInBounds_toArray, List.set_cons_zero, List.set_cons_succ]); (try refine eagerOpen rfl ?_)) | (refine wpEager_skip (by rfl) ?_; (try simp only [Act.put, List.setIfInBounds_toArray, List.set_cons_zero, List.set_cons_succ]); (try refine eagerOpen rfl ?_)) | (refine wpEager_off (by rfl) ?_; (try simp only [Act.put, List.setIfInBounds_toArray, List.set_cons_zero, List.set_cons_succ]); (try refine eagerOpen rfl ?_)))
        | (apply wpEager_take; (· rfl); (· (intro w' hb'; have hk' := (HK.out) w' hb'; go_split_ands; go_simp; try with_reducible rfl)); (try simp only [Act.put, List.setIfInBounds_toArray, List.set_cons_zero, List.set_cons_succ]); (try refine eagerOpen rfl ?_)))
      refine eagerEnd ?_
      have HY4 := Lib.hid hy4
      clear hy0 hy1 hy2 hy3 hy4
      go_wp2_with fail
      go_roundw
      case rel => exact ⟨k + 1, s5, by omega, by go_num, HL5.out, HRA6.out.below HY4.out, Below.keepOld HY4.out HX6.out, Below.keepOld HY4.out HC6.out, HW6.out.trans (HY4.out.mono HW6.out.size)⟩
      case measure => simp [intOf]; omega
    · obtain rfl : k = no := by omega
      have hdk : decide ((k : Int) < (k : Int)) = false := by simp
      have HEW := Lib.hid (HE.out.below HBW.out HE.out.lt)
      go_wp2_with fail
      refine (alive9_any _ HEW.out).mono ?_
      rintro e w' ⟨rfl, hb⟩
      have HB := Lib.hid (HBW.out.trans (hb.mono HBW.out.size))
      clear hb
      go_wp2_with fail
      go_ret
      exact ⟨rfl, HB.out⟩
end Go.Proofs.YtbfddfmglkhimaaDoor.RR
