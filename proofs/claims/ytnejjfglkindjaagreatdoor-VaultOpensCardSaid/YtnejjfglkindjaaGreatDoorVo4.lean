/- PARTS, JOINED: FRAMES: the reference: Bytes. Conditions: at most 70000 bytes. FRAMES: the reference: Encode. Conditions: at most 4000 bytes. SLICES OF BYTES, CUT: b[k:k+m], b[:m], b[k:]. Conditions: none. A REGION THAT DRAWS ITS ORDER, WALKED IN ONE ORDER, WHERE A CALL MAY TELL MORE OF THE WORLD THAN WAS KNOWN AT THE START (the condition may grow behind each operation that runs in its turn). No program is named. Conditions: none. FRAMES: the reference: One. Conditions: at most 2^40 bytes. FRAMES: One. Conditions: the laid cell of errors.errorType; at most 2^40 bytes. A [][]byte THAT THE CALL OWNS, each element a slice of bytes that it does not overwrite. Conditions: none. FRAMES: all frames one behind the other, plain; the reference's Scan. Conditions: at most 4000 bytes. A RANGE OVER A FUNCTION WHOSE ROUNDS ARE HANDED MEMORY THAT THE ITERATOR HAS LAID: the iterator tells of each element what it knows of the world ('G'). No program is named. Conditions: none. FRAMES: All, and its function. Conditions: the laid cell of errors.errorType; at most 4000 bytes. FRAMES: Scan. Conditions: the laid cell of errors.errorType; at most 4000 bytes. FRAMES: the reference's Same: are lists of bytes the same? Conditions: none. CRC: the walk of the statement CrcTurned. FRAMES, plain: there and back, torn, turned, one behind the other. Conditions: none. PLAIN PART OF THE ROLL: what it does to a disk of one file, and what a crash leaves. Conditions: none. A DISK BESIDE OTHER MEMORY: what its calls leave, and what they leave alone. Conditions: none. PLAIN PART OF SLOTS: what a file tells, which file is current, what a snapshot put does to a disk. Conditions: none. SLOTS BESIDE OTHER MEMORY: their row, what their calls leave. Conditions: none. -/
import Derived.Test.YtnejjfglkindjaaGreatDoorVo1
import Derived.Test.YtnejjfglkindjaaGreatDoorVo2
import Derived.Test.YtnejjfglkindjaaGreatDoorVo3
import Derived.Test.YtnejjfglkindjaaGreatDoorChecked
import Derived.RangeFuncNested
import Derived.RangeFuncBound
import Derived.RangeFuncCalls
import Derived.RangeFuncLeaves
import Derived.RangeFuncBox
import Derived.Shelf.Abstract
import Derived.Shelf.RegionOpen
import Derived.WalkKit
import Derived.OwnWalkIn
import Derived.TacticsInMore
import Derived.LoopNIn
import Derived.LoopIn
import Derived.Maps.AppendAt
import Derived.BigRegion
import Derived.Laws.ShiftsVar
namespace Go.Proofs.YtnejjfglkindjaaGreatDoor.Frm
open Go.RowKit Go.Mir Go.Mir.Parts Wr Cod
theorem info8b : (Tryz.prog.info? 5).map (fun i => (i.zero, i.size, i.bytes)) = some (some (.int .u8 0), 1, 1) := by kernel_rfl
theorem number4 (w : World) (n : Nat) (hn : n < 18446744073709551616) :
  Calls Tryz.prog 22 #[.int .u64 (n : Int), .int .i64 4] w fun e w' => ∃ p c, e = .returned (.slice p 4 c) ∧ w'.ownsRow w.heap.size 5 1 (.slice p 4 c) 4 (bytesV (be n 4)) ∧ Below w.heap.size w w' := by
 refine (Rdr.number_any w n 4 hn (by omega)).mono ?_
 rintro e w' ⟨p, c, he, ho, hb⟩
 rw [← be_numB _ _ (by omega), be_length] at he ho
 exact ⟨p, c, he, ho, hb⟩
set_option maxRecDepth 100000 in
set_option maxHeartbeats 1600000 in
theorem rbytes_any (p : Option Addr) (n c : Nat) (l : List UInt8) (w : World) (hB : Bs w p n c l) (hn : n ≤ 70000) :
  Calls Tryz.prog 26 #[.slice p n c] w fun e w' => ∃ p' c', e = .returned (.slice p' (frame l).length c') ∧ w'.ownsRow w.heap.size 5 1 (.slice p' (frame l).length c') (frame l).length (bytesV (frame l)) ∧ Below w.heap.size w w' := by
 have HB := Lib.hid hB
 have HN := Lib.hid hB.length
 have hle := hB.le
 have hmax := hB.max
 clear hB
 have hw1 : IntKind.u64.wrap (n : Int) = (n : Int) := by rw [IntKind.wrap_u64]; omega
 go_enter Tryz.func26, Tryz.ntmps26
 go_wp2_with fail
 refine (number4 w n (by omega)).mono ?_
 rintro e w1 ⟨p1, c1, rfl, ho1, hb1⟩
 have HO1 := Lib.hid ho1
 have HB1 := Lib.hid hb1
 have hs1 : Bs w1 p1 4 c1 (be n 4) := by
  obtain ⟨p9, c9, e9, h9⟩ := own_sl ho1
  cases e9
  exact h9
 have HS1 := Lib.hid hs1
 clear ho1 hb1 hs1
 go_upto_region 2 with fail
 have HO : Hid ((w1.alloc (.cells #[] 5)).ownsRow w1.heap.size 5 1 (.slice (some ⟨w1.heap.size, 0, none⟩) 0 0) 0 []) := ⟨rfl, .inr ⟨w1.heap.size, 0, _, rfl, Nat.le_refl _, heap_alloc_last _ _, Nat.le_refl _, by simp [maxLen], rfl, rfl⟩⟩
 have HBX : Hid (Below w1.heap.size w1 (w1.alloc (.cells #[] 5))) := Below.allocs _ _
 have HSX := Lib.hid (HS1.out.below HBX.out)
 have hlx := HSX.out.le
 have hmx := HSX.out.max
 go_wp2_with (at_builtin; refine wpList_append_nx rfl _ _ 22 rfl (base := w1.heap.size) Tryz.underlying22 info8b rfl (by omega) rfl HO.out rfl HSX.out (bytesV_one _) ⟨by omega, by omega⟩ HBX.out.size ?_)
 intro p5 c5 x5 ho5 hg5 _ _
 have hb5 := HBX.out.grown hg5 HBX.out.size (fun k hk => (HO.out.lt k hk).1)
 clear HO HSX HBX hg5 hlx hmx
 have HO := Lib.hid ho5
 have HBX := Lib.hid hb5
 have HSX := Lib.hid (HB.out.below (HB1.out.trans (hb5.mono HB1.out.size)))
 clear ho5 hb5
 have hlx := HSX.out.le
 have hmx := HSX.out.max
 go_wp2_with (at_builtin; refine wpList_append_nx rfl _ _ 22 rfl (base := w1.heap.size) Tryz.underlying22 info8b rfl (by omega) rfl HO.out rfl HSX.out (bytesV_one _) ⟨by omega, by omega⟩ HBX.out.size ?_)
 intro p6 c6 x6 ho6 hg6 _ _
 have hb6 := HBX.out.grown hg6 HBX.out.size (fun k hk => (HO.out.lt k hk).1)
 rw [← bytesV_append] at ho6
 have hs6 : Bs x6 p6 (4 + n) c6 (be n 4 ++ l) := by
  obtain ⟨p9, c9, e9, h9⟩ := own_sl ho6
  cases e9
  exact h9
 have HS6 := Lib.hid hs6
 have HB6 := Lib.hid (HB1.out.trans (hb6.mono HB1.out.size))
 have HO6 := Lib.hid (own_touch HO1.out (Turns.of_below (S := fun _ => False) hb6) (fun _ _ h => h))
 clear HO HBX HSX hg6 hlx hmx ho6 hb6 hs6 HO1 HS1 HB1
 have hcl := (Crc.more 0#32 (be n 4 ++ l)).isLt
 have hrof := CrcW.refOf_any p6 (4 + n) c6 (be n 4 ++ l) x6 HS6.out
 obtain ⟨C, hC⟩ : ∃ C, (Crc.more 0#32 (be n 4 ++ l)).toNat = C := ⟨_, rfl⟩
 rw [hC] at hcl hrof
 have HR := Lib.hid hrof
 have HC := Lib.hid hC
 clear hrof hC
 have hcw : IntKind.u64.wrap (C : Int) = (C : Int) := by rw [IntKind.wrap_u64]; omega
 go_wp2_with fail
 refine HR.out.mono ?_
 rintro e x7 ⟨rfl, rfl⟩
 go_wp2_with fail
 refine (number4 x6 C (by omega)).mono ?_
 rintro e x8 ⟨p8, c8, rfl, ho8, hb8⟩
 have HBX := Lib.hid (HB6.out.trans (hb8.mono HB6.out.size))
 have HO := Lib.hid (own_touch HO6.out (Turns.of_below (S := fun _ => False) hb8) (fun _ _ h => h))
 have hs8 : Bs x8 p8 4 c8 (be C 4) := by
  obtain ⟨p9, c9, e9, h9⟩ := own_sl ho8
  cases e9
  exact h9
 have HSX := Lib.hid hs8
 clear hb8 ho8 hs8 HO6 HB6 HR HS6
 have hlx := HSX.out.le
 have hmx := HSX.out.max
 go_wp2_with (at_builtin; refine wpList_append_nx rfl _ _ 22 rfl (base := w.heap.size) Tryz.underlying22 info8b rfl (by omega) rfl HO.out rfl HSX.out (bytesV_one _) ⟨by omega, by omega⟩ HBX.out.size ?_)
 intro p10 c10 x10 ho10 hg10 _ _
 have hb10 := HBX.out.grown hg10 HBX.out.size (fun k hk => (HO.out.lt k hk).1)
 rw [← bytesV_append] at ho10
 clear HO HSX HBX hg10 hlx hmx
 have HO := Lib.hid ho10
 have HBX := Lib.hid hb10
 have HSX := Lib.hid (HB.out.below hb10)
 clear ho10 hb10
 have hlx := HSX.out.le
 have hmx := HSX.out.max
 go_wp2_with (at_builtin; refine wpList_append_nx rfl _ _ 22 rfl (base := w.heap.size) Tryz.underlying22 info8b rfl (by omega) rfl HO.out rfl HSX.out (bytesV_one _) ⟨by omega, by omega⟩ HBX.out.size ?_)
 intro p11 c11 x11 ho11 hg11 _ _
 have hb11 := HBX.out.grown hg11 HBX.out.size (fun k hk => (HO.out.lt k hk).1)
 rw [← bytesV_append] at ho11
 have hfr : be n 4 ++ be C 4 ++ l = frame l := by
  unfold frame
  rw [HN.out, ← HC.out]
  simp
 rw [hfr] at ho11
 have hfl : (frame l).length = 8 + n := by rw [← hfr]; simp only [List.length_append, be_length, HN.out]
 have HO11 := Lib.hid ho11
 have HB11 := Lib.hid hb11
 have HFL := Lib.hid hfl
 clear HO HSX HBX hg11 hlx hmx ho11 hb11 hfr hfl
 go_wp2_with fail
 go_ret
 rw [HFL.out]
 exact ⟨p11, c11, rfl, HO11.out, HB11.out⟩
end Go.Proofs.YtnejjfglkindjaaGreatDoor.Frm
namespace Go.Proofs.YtnejjfglkindjaaGreatDoor.Frm
open Go.RowKit Go.Mir Go.Mir.Parts Wr Cod
set_option maxRecDepth 100000 in
theorem rencode_any (p : Option Addr) (n c : Nat) (l : List UInt8) (w : World) (hB : Bs w p n c l) (hn : n ≤ 4000) :
  Calls Tryz.prog 23 #[.slice p n c] w fun e w' => ∃ p' c', e = .returned (.tuple #[.slice p' (enc l).1.length c', .int .i64 (enc l).2]) ∧ w'.ownsRow w.heap.size 5 1 (.slice p' (enc l).1.length c') (enc l).1.length (bytesV (enc l).1) ∧ Below w.heap.size w w' := by
 have HC := Lib.hid (rbytes_any p n c l w hB (by omega))
 have HN := Lib.hid hB.length
 clear hB
 by_cases h0 : n = 0
 ·have d1 : decide ((n : Int) < 1) = true := decide_eq_true (by omega)
  have HE : Hid (enc l = ([], 1)) := by show _ = _; unfold enc; rw [if_pos (by rw [HN.out]; exact h0)]
  clear h0
  go_enter Tryz.func23, Tryz.ntmps23
  go_wp2_with fail
  go_ret2
  exact ⟨none, 0, by rw [HE.out]; rfl, by rw [HE.out]; exact ⟨rfl, .inl ⟨rfl, rfl⟩⟩, Below.refl _ _⟩
 ·have d1 : decide ((n : Int) < 1) = false := decide_eq_false (by omega)
  have d2 : decide ((65536 : Int) < (n : Int)) = false := decide_eq_false (by omega)
  have HE : Hid (enc l = (frame l, 0)) := by show _ = _; unfold enc; rw [if_neg (by rw [HN.out]; exact h0)]
  clear h0
  go_enter Tryz.func23, Tryz.ntmps23
  go_wp2_with fail
  refine HC.out.mono ?_
  rintro e w1 ⟨p1, c1, rfl, ho1, hb1⟩
  have HO1 := Lib.hid ho1
  have HB1 := Lib.hid hb1
  clear ho1 hb1
  go_wp2_with fail
  go_ret2
  exact ⟨p1, c1, by rw [HE.out]; rfl, by rw [HE.out]; exact HO1.out, HB1.out⟩
end Go.Proofs.YtnejjfglkindjaaGreatDoor.Frm
namespace Go.Proofs.YtnejjfglkindjaaGreatDoor.Cut
open Go.RowKit Go.Mir Go.Mir.Parts
def cutQ (p : Option Addr) (c k : Nat) : Option Addr := if c = k then p else p.map (·.add k)
theorem bs_cut {w : World} {p : Option Addr} {L c : Nat} {l : List UInt8} (h : Bs w p L c l) (k m : Nat) (hk : k + m ≤ L) : Bs w (cutQ p c k) m (c - k) ((l.drop k).take m) := by
 have hle := h.le
 have hmax := h.max
 have hl := h.length
 unfold cutQ
 by_cases hc : c = k
 ·have hm : m = 0 := by omega
  subst hm
  rw [if_pos hc, hc, Nat.sub_self, List.take_zero]
  exact ⟨by simp [bytesV], Nat.le_refl _, by omega, fun _ => rfl, fun a ha j u hu => by simp [bytesV] at hu⟩
 ·rw [if_neg hc]
  refine ⟨by rw [bytesV_length, List.length_take, List.length_drop, Nat.mul_one]; omega, by omega, by omega, fun hq => ?_, fun a ha j u hu => ?_⟩
  ·cases p with
   | none => have := h.nil0 rfl; omega
   | some a => cases hq
  ·cases p with
   | none => cases ha
   | some a0 =>
    have hj : j < m := by
     have := (List.getElem?_eq_some_iff.1 hu).1
     rw [bytesV_length, List.length_take] at this
     omega
    obtain ⟨b, o, hbo⟩ := h.addr (by omega) (by omega)
    obtain rfl := Option.some.inj hbo
    obtain rfl := Option.some.inj ha
    have h1 : (bytesV l)[k + j]? = some u := by
     rw [bytesV, List.getElem?_map] at hu ⊢
     rw [List.getElem?_take, if_pos hj, List.getElem?_drop] at hu
     exact hu
    have h2 := h.cell _ rfl (k + j) u h1
    rw [add_none] at h2
    show w.cell? (((⟨b, o, none⟩ : Addr).add k).add j) = some u
    rw [add_none, add_none, Nat.add_assoc]
    exact h2
theorem bs_drop {w : World} {p : Option Addr} {L c : Nat} {l : List UInt8} (h : Bs w p L c l) (k : Nat) (hk : k ≤ L) : Bs w (cutQ p c k) (L - k) (c - k) (l.drop k) := by
 have := bs_cut h k (L - k) (by omega)
 rwa [List.take_of_length_le (by rw [List.length_drop, h.length]; omega)] at this
theorem bs_take {w : World} {p : Option Addr} {n c k : Nat} {l : List UInt8} (h : Bs w p n c l) (hk : k ≤ n) : Bs w p k c (l.take k) :=
 ⟨by rw [bytesV_length, List.length_take, h.length, Nat.mul_one]; exact Nat.min_eq_left hk, Nat.le_trans hk h.le, h.max, h.nil0, fun a ha j u hu => by
  rw [show bytesV (l.take k) = (bytesV l).take k by simp [bytesV, List.map_take], List.getElem?_take] at hu
  split at hu
  ·exact h.cell a ha j u hu
  ·cases hu⟩
theorem cut3 {w : World} {p : Option Addr} {L c : Nat} {l : List UInt8} (h : Bs w p L c l) (k m : Nat) (lo hi : Int) (hlo : lo = (k : Int)) (hhi : hi = ((k + m : Nat) : Int)) (hk : k + m ≤ L) :
  ∀ w0, (Instr.sliceAt 22 (.slice p L c) (some (.int .i64 lo)) (some (.int .i64 hi)) none).run Tryz.prog w0 = .ok (.slice (cutQ p c k) m (c - k)) w0 := by
 subst hlo hhi
 have hle := h.le
 have hmax := h.max
 have hsz : (Tryz.prog.info? 5).map (·.size) = some 1 := by kernel_rfl
 obtain ⟨i, hi, hi1⟩ := Option.map_eq_some_iff.1 hsz
 have e1 : ((k : Int) + (m : Int)).toNat = k + m := by omega
 intro w0
 have hb1 : (0 : Int) ≤ (k : Int) + (m : Int) ∧ (k : Int) + (m : Int) ≤ (c : Int) := by omega
 have hb3 : (0 : Int) ≤ (k : Int) ∧ (k : Int) ≤ ((k + m : Nat) : Int) := by omega
 simp [Instr.sliceAt, Instr.slice, cutQ, run_underlying Tryz.underlying22, Instr.sliceBounds, Instr.sliceBound, asIntOf, sizeOf, typeInfo, hi, hi1, e1, hb1, hb3]
 try omega
theorem cut0 {w : World} {p : Option Addr} {L c : Nat} {l : List UInt8} (h : Bs w p L c l) (m : Nat) (hi : Int) (hhi : hi = (m : Int)) (hk : m ≤ L) :
  ∀ w0, (Instr.sliceAt 22 (.slice p L c) none (some (.int .i64 hi)) none).run Tryz.prog w0 = .ok (.slice p m c) w0 := by
 subst hhi
 have hle := h.le
 have hmax := h.max
 have hsz : (Tryz.prog.info? 5).map (·.size) = some 1 := by kernel_rfl
 obtain ⟨i, hi, hi1⟩ := Option.map_eq_some_iff.1 hsz
 intro w0
 have hb1 : (0 : Int) ≤ (m : Int) ∧ (m : Int) ≤ (c : Int) := by omega
 have hp : p.map (fun a => a.add 0) = p := by cases p <;> rfl
 simp [Instr.sliceAt, Instr.slice, run_underlying Tryz.underlying22, Instr.sliceBounds, Instr.sliceBound, asIntOf, sizeOf, typeInfo, hi, hb1, hp]
 try omega
theorem cutR {w : World} {p : Option Addr} {L c : Nat} {l : List UInt8} (h : Bs w p L c l) (k : Nat) (lo : Int) (hlo : lo = (k : Int)) (hk : k ≤ L) :
  ∀ w0, (Instr.sliceAt 22 (.slice p L c) (some (.int .i64 lo)) none none).run Tryz.prog w0 = .ok (.slice (cutQ p c k) (L - k) (c - k)) w0 := by
 subst hlo
 have hle := h.le
 have hmax := h.max
 have hsz : (Tryz.prog.info? 5).map (·.size) = some 1 := by kernel_rfl
 obtain ⟨i, hi, hi1⟩ := Option.map_eq_some_iff.1 hsz
 intro w0
 have hb1 : (0 : Int) ≤ (L : Int) ∧ (L : Int) ≤ (c : Int) := by omega
 have hb3 : (0 : Int) ≤ (k : Int) ∧ (k : Int) ≤ (L : Int) := by omega
 simp [Instr.sliceAt, Instr.slice, cutQ, run_underlying Tryz.underlying22, Instr.sliceBounds, Instr.sliceBound, asIntOf, sizeOf, typeInfo, hi, hi1, hb3]
 try omega
theorem bconv {w : World} {p : Option Addr} {n c : Nat} {l : List UInt8} (h : Bs w p n c l) : (convert 22 9 (.slice p n c)).run Tryz.prog w = .ok (.string (S l)) w :=
 run_conv (P := Tryz.prog) 22 9 5 Tryz.underlying22 Tryz.underlying5 Tryz.underlying9 h
theorem own_bs {w : World} {base n : Nat} {p : Option Addr} {c : Nat} {l : List UInt8} (h : w.ownsRow base 5 1 (.slice p n c) n (bytesV l)) : Bs w p n c l := by
 obtain ⟨p9, c9, e9, h9⟩ := own_sl h
 cases e9
 exact h9
theorem bs_zero {w w' : World} {p : Option Addr} {n c : Nat} {l : List UInt8} (h : Bs w p n c l) (hn : n = 0) : Bs w' p n c l := by
 subst hn
 have hl : l = [] := List.length_eq_zero_iff.1 h.length
 subst hl
 exact ⟨h.len, h.le, h.max, h.nil0, fun a ha j u hu => by simp [bytesV] at hu⟩
theorem bs_touch {S : Nat → Prop} {w w' : World} {p : Option Addr} {n c : Nat} {l : List UInt8} (h : Bs w p n c l) (ht : Turns S w w') (ho : 0 < n → ∀ a, p = some a → ¬ S a.block) : Bs w' p n c l := by
 by_cases h0 : 0 < n
 ·exact h.touch ht (fun a ha _ => ho h0 a ha)
 ·exact bs_zero h (by omega)
end Go.Proofs.YtnejjfglkindjaaGreatDoor.Cut
namespace Go.Mir
open Go.RowKit
theorem wpAnyH_mono {P : Program} {md : Region.Mode} {ops : Array Oper} {Q : Exit → Act → World → Prop} {S S' : World → Prop} (hs : ∀ x, S' x → S x) :
  ∀ (n : Nat) (listed : Array Bool) (a : Act) (w : World), wpAnyH P md ops Q S' n listed a w → wpAnyH P md ops Q S n listed a w
 | 0, _, _, _, h => h
 | n + 1, _, _, _, h => ⟨h.1, fun i hi => wpOp_mono (fun a' w' h' => ⟨hs _ h'.1, wpAnyH_mono hs n _ a' w' h'.2⟩) (h.2 i hi)⟩
def wpEagerX (P : Program) (ops : Array Oper) (Q : Exit → Act → World → Prop) : List (Oper × Bool) → (World → Prop) → Act → World → Prop
 | [], _, a, w => Q .normal a w
 | (o, true) :: r, S, a, w => ∃ v, YieldsIf P ops S o v a ∧ wpEagerX P ops Q r S (a.put o.dst v) w
 | (o, false) :: r, S, a, w => if Region.wanted o (yielded ops a.tmps) then o.wp P a w (fun a' w' => ∃ S' : World → Prop, (∀ x, S' x → S x) ∧ S' w' ∧ wpEagerX P ops Q r S' a' w') Q else wpEagerX P ops Q r S (a.put o.dst undef) w
theorem wpAnyH_eagerX {P : Program} {l : List Oper} {ops : Array Oper} (hl : l.toArray = ops) {Q : Exit → Act → World → Prop} (hs : Region.noSelect ops = true) (hQ : ∀ c a d v w, Q (.panic c) (a.put d v) w → Q (.panic c) a w) :
  ∀ (π : List (Nat × Bool)) (listed : Array Bool) (S : World → Prop) (a : Act) (w : World), planB ops π listed = true → S w → wpEagerX P ops Q (planOps l π) S a w → wpAnyH P .any ops Q S π.length listed a w
 | [], listed, S, a, w, hp, _, h => by
  refine wpAnyH_done ?_ h _
  simpa [planB, List.isEmpty_iff] using hp
 | (i, true) :: r, listed, S, a, w, hp, hS, h => by
  simp only [planB, Bool.and_eq_true] at hp
  obtain ⟨⟨⟨h1, h2⟩, h3⟩, h4⟩ := hp
  obtain ⟨o, ho⟩ := Option.isSome_iff_exists.1 h1
  have hn : nthO l i = some o := by rw [← nthO_eq, hl]; exact ho
  simp only [planOps, hn, wpEagerX] at h
  obtain ⟨v, hy, h⟩ := h
  exact wpAnyH_take ho hs h2 h3 (fun c a w => hQ c a _ _ w) hy hS (wpAnyH_eagerX hl hs hQ r _ S _ _ h4 hS h)
 | (i, false) :: r, listed, S, a, w, hp, hS, h => by
  simp only [planB, Bool.and_eq_true, beq_iff_eq] at hp
  obtain ⟨⟨h1, h2⟩, h4⟩ := hp
  obtain ⟨o, ho⟩ := Option.isSome_iff_exists.1 h1
  have hn : nthO l i = some o := by rw [← nthO_eq, hl]; exact ho
  simp only [planOps, hn, wpEagerX] at h
  refine wpAnyH_all h2 (by simp) fun j hj => ?_
  rw [List.mem_singleton] at hj
  subst hj
  unfold wpOp
  simp only [ho]
  split at h
  ·rename_i hw
   rw [if_pos hw]
   exact .inl (Oper.wp_mono (fun a' w' ⟨S', h5, h6, h7⟩ => ⟨h5 _ h6, wpAnyH_mono h5 _ _ _ _ (wpAnyH_eagerX hl hs hQ r _ S' _ _ h4 h6 h7)⟩) h)
  ·rename_i hw
   rw [if_neg hw]
   exact ⟨hS, wpAnyH_eagerX hl hs hQ r _ S _ _ h4 hS h⟩
theorem wp_region_eager_x {P : Program} {id : Nat} {Q : Exit → Act → World → Prop} {a : Act} {w : World} {l : List Oper} (S : World → Prop) (π : List (Nat × Bool)) (hm : P.follows .mixedOrders = true)
  (hp : (planB l.toArray π (Array.replicate l.length false) && Region.noSelect l.toArray && π.length == l.length) = true) (hS : S w.drew)
  (h : wpEagerX P l.toArray (NoPanic Q) (planOps l π) S a w.drew) : (Code.region id l.toArray true).wp P Q a w := by
 refine wp_region_noPanic ?_
 simp only [Bool.and_eq_true, beq_iff_eq] at hp
 obtain ⟨⟨h1, h2⟩, h3⟩ := hp
 have := wpAnyH_eagerX (P := P) (Q := NoPanic Q) (l := l) rfl h2 (fun _ _ _ _ _ h => h) π (Array.replicate l.length false) S a w.drew h1 hS h
 refine wp_region_held hm (S := S) ?_
 rw [h3] at this
 have hz : l.toArray.size = l.length := List.size_toArray ..
 rw [hz]
 exact this
section
variable {P : Program} {ops : Array Oper} {S : World → Prop} {Q : Exit → Act → World → Prop}
theorem eagerXOpen {l : List Oper} {i : Nat} {b : Bool} {r : List (Nat × Bool)} {a : Act} {w : World} {o : Oper} (ho : nthO l i = some o)
  (h : wpEagerX P ops Q ((o, b) :: planOps l r) S a w) : wpEagerX P ops Q (planOps l ((i, b) :: r)) S a w := by
 unfold planOps; rw [ho]; exact h
theorem eagerXEnd {l : List Oper} {a : Act} {w : World} (h : Q .normal a w) : wpEagerX P ops (NoPanic Q) (planOps l []) S a w := h
theorem wpEagerX_take {o : Oper} {r : List (Oper × Bool)} {a : Act} {w : World} {v : Value} (hw : Region.wanted o (yielded ops a.tmps) = true)
  (hy : ∀ w', S w' → (execOp a.eval o).run P w' = .ok (.value v) w') (h : wpEagerX P ops Q r S (a.put o.dst v) w) : wpEagerX P ops Q ((o, true) :: r) S a w := ⟨v, .inl ⟨hw, hy⟩, h⟩
theorem wpEagerX_skip {o : Oper} {r : List (Oper × Bool)} {a : Act} {w : World} (hw : Region.wanted o (yielded ops a.tmps) = false)
  (h : wpEagerX P ops Q r S (a.put o.dst undef) w) : wpEagerX P ops Q ((o, true) :: r) S a w := ⟨undef, .inr ⟨hw, rfl⟩, h⟩
theorem wpEagerX_load {op : Oper} {r : List (Oper × Bool)} {a : Act} {w : World} (hw : Region.wanted op (yielded ops a.tmps) = true) (ty : TypeId) (x : Operand) (ho : op.op = .load ty x)
  (b o : Nat) (hx : a.eval x = .pointer (some ⟨b, o, none⟩)) (M : Array Value) (d : TypeDesc) (hc : ∀ w', S w' → w'.rangeAt b o M.toList)
  (hu : P.underlying ty = some d) (hd : d.isRow = true) (hi : (P.info? ty).map (·.size) = some M.size)
  (h : wpEagerX P ops Q r S (a.put op.dst (.agg M)) w) : wpEagerX P ops Q ((op, true) :: r) S a w := by
 refine wpEagerX_take hw (fun w' hb => ?_) h
 unfold execOp
 simp only [ho, hx, Instr.loadAt, Instr.sureAddr, Sem.run_bind, Sem.run_pure, Result.andThen_ok, run_loadVar_mid w' b o ty M.toList d (hc w' hb) hu hd (by simpa using hi)]
theorem wpEagerX_op {o : Oper} {r : List (Oper × Bool)} {a : Act} {w : World} (hw : Region.wanted o (yielded ops a.tmps) = true)
  (h : ∀ K : Act → World → Prop, Shut (∀ (S' : World → Prop) a w, (∀ x, S' x → S x) → S' w → wpEagerX P ops Q r S' a w → K a w) → Oper.wp P o a w K Q) : wpEagerX P ops Q ((o, false) :: r) S a w := by
 unfold wpEagerX; rw [if_pos hw]; exact h _ fun S' _ _ h0 h1 h2 => ⟨S', h0, h1, h2⟩
theorem eagerXLoadAt {r : List (Oper × Bool)} {a : Act} {w : World} (n : Nat) {d : Option Nat} {ty : TypeId} {t : TypeId} {p : String} {af : Array Edge} {g : Option (Nat × Bool)} {b : Bool}
  (h : wpEagerX P ops Q ((⟨d, .load ty (.tmp n), t, p, af, g⟩, b) :: r) S a w) : wpEagerX P ops Q ((⟨d, .load ty (.tmp n), t, p, af, g⟩, b) :: r) S a w := h
end
end Go.Mir
namespace Go.Proofs.YtnejjfglkindjaaGreatDoor.Frm
open Go.RowKit Go.Mir Go.Mir.Parts Wr Cod Cut
theorem results_tmp3 {P : Program} {fn : Func} {p q r : Tmp} (h : fn.results = #[.tmp p, .tmp q, .tmp r]) (tmps : Array Value) (w : World) :
  (results fn tmps).run P w = .ok (.tuple #[tmps.getD p undef, tmps.getD q undef, tmps.getD r undef]) w := by
 simp [results, h]
def one (l : List UInt8) : List UInt8 × Nat × Int :=
 if l.length < 4 then ([], 0, 2)
 else if Rdr.beN (l.take 4) < 1 ∨ 65536 < Rdr.beN (l.take 4) then ([], 0, 4)
 else if l.length < 8 + Rdr.beN (l.take 4) then ([], 0, 2)
 else if frame ((l.drop 8).take (Rdr.beN (l.take 4))) = l.take (8 + Rdr.beN (l.take 4)) then ((l.drop 8).take (Rdr.beN (l.take 4)), 8 + Rdr.beN (l.take 4), 0)
 else ([], 0, 9)
def OneP (l : List UInt8) (w : World) (e : Ending) (w' : World) : Prop := ∃ p' c', e = .returned (.tuple #[.slice p' (one l).1.length c', .int .i64 ((one l).2.1 : Int), .int .i64 (one l).2.2]) ∧ w'.ownsRow w.heap.size 5 1 (.slice p' (one l).1.length c') (one l).1.length (bytesV (one l).1) ∧ Below w.heap.size w w'
set_option maxRecDepth 100000 in
theorem rone_any (p : Option Addr) (n c : Nat) (l : List UInt8) (w : World) (hB : Bs w p n c l) (hn : n ≤ 1099511627776) :
  Calls Tryz.prog 122 #[.slice p n c] w (OneP l w) := by
 have HB := Lib.hid hB
 have HN := Lib.hid hB.length
 have hle := hB.le
 have hmax := hB.max
 clear hB
 have HF : Hid (∀ k, one l = ([], 0, k) → OneP l w (.returned (.tuple #[.slice none 0 0, .int .i64 0, .int .i64 k])) w) := fun k hk => by
  unfold OneP
  rw [hk]
  exact ⟨none, 0, rfl, ⟨rfl, .inl ⟨rfl, rfl⟩⟩, Below.refl _ _⟩
 by_cases h4 : n < 4
 ·have d1 : decide ((n : Int) < 4) = true := decide_eq_true (by omega)
  have HG := Lib.hid (HF.out 2 (by unfold one; rw [if_pos (by rw [HN.out]; exact h4)]))
  clear h4
  go_enter Tryz.func122, Tryz.ntmps122
  go_wp2_with fail
  refine bodyPost_ret (results_tmp3 rfl _ _) rfl ?_
  exact HG.out
 have d1 : decide ((n : Int) < 4) = false := decide_eq_false (by omega)
 have hrun := cut0 HB.out 4 4 rfl (by omega)
 have hV := Rdr.beN_lt_pow (l.take 4)
 rw [List.length_take, HN.out, Nat.min_eq_left (by omega)] at hV
 have hone : one l = if Rdr.beN (l.take 4) < 1 ∨ 65536 < Rdr.beN (l.take 4) then ([], 0, 4)
  else if l.length < 8 + Rdr.beN (l.take 4) then ([], 0, 2)
  else if frame ((l.drop 8).take (Rdr.beN (l.take 4))) = l.take (8 + Rdr.beN (l.take 4)) then ((l.drop 8).take (Rdr.beN (l.take 4)), 8 + Rdr.beN (l.take 4), 0)
  else ([], 0, 9) := by unfold one; rw [if_neg (by rw [HN.out]; omega)]
 have hval := value_any p 4 c (l.take 4) w (bs_take HB.out (by omega)) (by omega)
 rw [HN.out] at hone
 generalize Rdr.beN (l.take 4) = V at *
 have HVAL := Lib.hid hval
 have HONE := Lib.hid hone
 clear hval hone h4
 go_enter Tryz.func122, Tryz.ntmps122
 go_wp2_with fail
 refine HVAL.out.mono ?_
 rintro e w' ⟨rfl, rfl⟩
 clear HVAL hrun
 by_cases h1 : V < 1
 ·have e1 : decide ((V : Int) < 1) = true := decide_eq_true (by omega)
  have HG := Lib.hid (HF.out 4 (by rw [HONE.out, if_pos (.inl h1)]))
  clear h1
  go_wp2_with fail
  refine bodyPost_ret (results_tmp3 rfl _ _) rfl ?_
  exact HG.out
 have e1 : decide ((V : Int) < 1) = false := decide_eq_false (by omega)
 by_cases h2 : 65536 < V
 ·have e2 : decide ((65536 : Int) < (V : Int)) = true := decide_eq_true (by omega)
  have HG := Lib.hid (HF.out 4 (by rw [HONE.out, if_pos (.inr h2)]))
  clear h2
  go_wp2_with fail
  refine bodyPost_ret (results_tmp3 rfl _ _) rfl ?_
  exact HG.out
 have e2 : decide ((65536 : Int) < (V : Int)) = false := decide_eq_false (by omega)
 have q1 : IntKind.i64.wrap (8 + (V : Int)) = ((8 + V : Nat) : Int) := by rw [IntWalk.i64_in _ (by omega)]; omega
 by_cases h3 : n < 8 + V
 ·have e3 : decide ((n : Int) < ((8 + V : Nat) : Int)) = true := decide_eq_true (by omega)
  have e4 : decide ((n : Int) < 8 + (V : Int)) = true := decide_eq_true (by omega)
  have HG := Lib.hid (HF.out 2 (by rw [HONE.out, if_neg (by omega), if_pos h3]))
  clear h3
  go_wp2_with fail
  refine bodyPost_ret (results_tmp3 rfl _ _) rfl ?_
  exact HG.out
 have e3 : decide ((n : Int) < ((8 + V : Nat) : Int)) = false := decide_eq_false (by omega)
 have e4 : decide ((n : Int) < 8 + (V : Int)) = false := decide_eq_false (by omega)
 have hone := HONE.out
 rw [if_neg (by omega), if_neg h3] at hone
 have HON := Lib.hid hone
 clear hone HONE
 have hcut := cut3 HB.out 8 V 8 (8 + (V : Int)) rfl (by omega) (by omega)
 have HCB := Lib.hid (fun w' (hb : Below w.heap.size w w') => bs_cut (HB.out.below hb) 8 V (by omega))
 have HLB : Hid (((l.drop 8).take V).length = V) := by show _ = _; rw [List.length_take, List.length_drop, HN.out]; omega
 go_upto_region 8 with fail
 have HO : Hid ((w.alloc (.cells #[] 5)).ownsRow w.heap.size 5 1 (.slice (some ⟨w.heap.size, 0, none⟩) 0 0) 0 []) := ⟨rfl, .inr ⟨w.heap.size, 0, _, rfl, Nat.le_refl _, heap_alloc_last _ _, Nat.le_refl _, by simp [maxLen], rfl, rfl⟩⟩
 have HBX : Hid (Below w.heap.size w (w.alloc (.cells #[] 5))) := Below.allocs _ _
 have HSX := Lib.hid (HCB.out _ HBX.out)
 have hlx := HSX.out.le
 have hmx := HSX.out.max
 go_upto_region 9 with (at_builtin; refine wpList_append_nx rfl _ _ 22 rfl (base := w.heap.size) Tryz.underlying22 info8b rfl (by omega) rfl HO.out rfl HSX.out (bytesV_one _) ⟨by omega, by omega⟩ HBX.out.size ?_)
 intro p5 c5 x5 ho5 hg5 _ _
 have hb5 := HBX.out.grown hg5 HBX.out.size (fun k hk => (HO.out.lt k hk).1)
 try rw [Nat.zero_add] at ho5
 try rw [List.nil_append] at ho5
 clear HO HSX HBX hg5 hlx hmx hcut
 have hs5 : Bs x5 p5 V c5 ((l.drop 8).take V) := by
  obtain ⟨p9, c9, e9, h9⟩ := own_sl ho5
  cases e9
  exact h9
 have HO5 := Lib.hid ho5
 have HB5 := Lib.hid hb5
 have HS5 := Lib.hid hs5
 have HSL := Lib.hid (HB.out.below hb5)
 clear ho5 hb5 hs5
 have hcut := cut0 HSL.out (8 + V) (8 + (V : Int)) (by omega) (by omega)
 generalize hbody : (l.drop 8).take V = body at *
 go_upto_region 9 with fail
 have HC1 : Hid (∀ w', Below x5.heap.size x5 w' → (convert 22 9 (.slice p (8 + V) c)).run Tryz.prog w' = .ok (.string (S (l.take (8 + V)))) w') := fun w' hb => bconv (bs_take (HSL.out.below hb) (by omega))
 have hcut2 := cut0 HSL.out (8 + V) ((8 + V : Nat) : Int) rfl (by omega)
 clear HSL
 refine wp_region_eager_x (Below x5.heap.size x5) [(0, true), (3, true), (4, true), (5, true), (6, true), (7, true), (1, false), (2, true), (8, true)] (by kernel_rfl) (by kernel_rfl) ?_ (eagerXOpen rfl ?_)
 ·exact below_drew1 _ _
 have hy0 : Below x5.heap.size x5 x5.drew := below_drew1 _ _
 repeat (first
  | (apply wpEagerX_take; (· rfl); (· (intro w' hb'; have hk' := (fun w' hb => HC1.out w' hb) w' hb'; go_split_ands; go_simp; try with_reducible rfl)); (try simp only [Act.put, zA, zB, zC]); (try refine eagerXOpen rfl ?_))
  | ((first | (apply wpEagerX_take; (· rfl); (· (intro w' hb'; go_simp; try with_reducible rfl))) | refine wpEagerX_skip (by rfl) ?_ | refine wpEager_off (by rfl) ?_); (try simp only [Act.put, zA, zB, zC]); (try refine eagerXOpen rfl ?_)))
 (refine wpEagerX_op (by rfl) (fun K hK => ?_); go_simp; (refine (rbytes_any p5 V c5 body x5.drew (HS5.out.below hy0) (by omega)).mono ?_; rintro e y ⟨q2, d2, rfl, ho, hb⟩; have HO := Lib.hid (own_bs ho); have HY := Lib.hid (hy0.trans hb); have hsub : ∀ x, Below y.heap.size y x → Below x5.heap.size x5 x := fun x hx => HY.out.trans (hx.mono HY.out.size); have hy1 : Below y.heap.size y y := Below.refl _ _; clear hb ho); refine Shut.out hK _ _ _ hsub (by assumption) ?_; clear hK K hsub; (try simp only [Act.put, zA, zB, zC]); (try refine eagerXOpen rfl ?_))
 have HC2 : Hid (∀ w', Below y.heap.size y w' → (convert 22 9 (.slice q2 (frame body).length d2)).run Tryz.prog w' = .ok (.string (S (frame body))) w') := fun w' hb => bconv (HO.out.below hb)
 repeat (first
  | (apply wpEagerX_take; (· rfl); (· (intro w' hb'; have hk' := (fun w' hb => HC2.out w' hb) w' hb'; go_split_ands; go_simp; try with_reducible rfl)); (try simp only [Act.put, zA, zB, zC]); (try refine eagerXOpen rfl ?_))
  | ((first | (apply wpEagerX_take; (· rfl); (· (intro w' hb'; go_simp; try with_reducible rfl))) | refine wpEagerX_skip (by rfl) ?_ | refine wpEager_off (by rfl) ?_); (try simp only [Act.put, zA, zB, zC]); (try refine eagerXOpen rfl ?_)))
 refine eagerXEnd ?_
 clear HC2 HC1 hcut hcut2 hy0 hy1
 have HOF := Lib.hid (own_touch HO5.out (Turns.of_below (S := fun _ => False) HY.out) (fun _ _ h => h))
 have HBF := Lib.hid (HB5.out.trans (HY.out.mono HB5.out.size))
 by_cases hq : frame body = l.take (8 + V)
 ·have hqb : (frame body == List.take (8 + V) l) = true := beq_iff_eq.2 hq
  have HR : Hid (one l = (body, 8 + V, 0)) := by show _ = _; rw [HON.out, if_pos hq]
  clear hq
  rw [hqb]
  simp only [Bool.not_true]
  go_wp2_with fail
  refine bodyPost_ret (results_tmp3 rfl _ _) rfl ?_
  unfold OneP
  rw [HR.out]
  dsimp only
  rw [HLB.out]
  exact ⟨p5, c5, by rw [show ((8 + V : Nat) : Int) = 8 + (V : Int) by omega]; rfl, HOF.out, HBF.out⟩
 ·have hqb : (frame body == List.take (8 + V) l) = false := beq_eq_false_iff_ne.2 hq
  have HG : Hid (OneP l w (.returned (.tuple #[.slice none 0 0, .int .i64 0, .int .i64 9])) y) := by
   show OneP _ _ _ _
   unfold OneP
   rw [HON.out, if_neg hq]
   exact ⟨none, 0, rfl, ⟨rfl, .inl ⟨rfl, rfl⟩⟩, HBF.out⟩
  clear hq
  rw [hqb]
  simp only [Bool.not_false]
  go_wp2_with fail
  refine bodyPost_ret (results_tmp3 rfl _ _) rfl ?_
  exact HG.out
end Go.Proofs.YtnejjfglkindjaaGreatDoor.Frm
namespace Go.Proofs.YtnejjfglkindjaaGreatDoor.Frm
open Go.RowKit Go.Mir Go.Mir.Parts Wr Cod Cut Rdr
theorem num_short {l : List UInt8} (h : l.length < 4) : (RD.new l).numV 4 = 0 ∧ (RD.new l).numS 4 = ⟨l, 0, some 2⟩ := by
 unfold RD.numV RD.numS RD.new
 rw [show fitsW 4 = true by decide]
 unfold RD.takeB RD.takeS
 dsimp only
 constructor
 ·rw [if_neg (by omega)]; rfl
 ·rw [if_neg (by simp), if_neg (by simp), if_pos (by omega)]
theorem num_full {l : List UInt8} (h : 4 ≤ l.length) : (RD.new l).numV 4 = beN (l.take 4) ∧ (RD.new l).numS 4 = ⟨l, 4, none⟩ := by
 have hk := take_in (l := l) (pos := 0) (m := 4) (by omega)
 unfold RD.numV RD.numS RD.new
 rw [show fitsW 4 = true by decide]
 exact ⟨by rw [show ((4 : Nat) : Int) = (4 : Int) from rfl] at hk; rw [hk.1]; rfl, by rw [show ((4 : Nat) : Int) = (4 : Int) from rfl] at hk; rw [hk.2]⟩
def sec (l : List UInt8) (V : Nat) : RD := RD.new ((l.drop 4).take (min l.length (8 + V) - 4))
theorem sec_short {l : List UInt8} {V : Nat} (h4 : 4 ≤ l.length) (h : l.length < 8 + V) : (((sec l V).numS 4).takeS V true).err = 2 := by
 unfold sec
 rw [Nat.min_eq_left (by omega)]
 have hl : ((l.drop 4).take (l.length - 4)).length = l.length - 4 := by rw [List.length_take, List.length_drop]; omega
 by_cases h8 : l.length - 4 < 4
 ·rw [(num_short (by rw [hl]; exact h8)).2]; rfl
 ·rw [(num_full (by rw [hl]; omega)).2]
  unfold RD.takeS
  dsimp only
  rw [if_neg (by simp), if_neg (by simp), if_pos (by rw [hl]; omega)]
  rfl
theorem sec_full {l : List UInt8} {V : Nat} (h : 8 + V ≤ l.length) : (sec l V).numV 4 = beN ((l.drop 4).take 4) ∧ ((sec l V).numS 4).takeB V true = (l.drop 8).take V ∧ (((sec l V).numS 4).takeS V true).err = 0 := by
 unfold sec
 rw [Nat.min_eq_right (by omega)]
 have hl : ((l.drop 4).take (8 + V - 4)).length = 4 + V := by rw [List.length_take, List.length_drop]; omega
 obtain ⟨a, b⟩ := num_full (l := (l.drop 4).take (8 + V - 4)) (by rw [hl]; omega)
 have hk := take_in (l := (l.drop 4).take (8 + V - 4)) (pos := 4) (m := V) (by rw [hl]; omega)
 rw [a, b, hk.1, hk.2]
 refine ⟨by rw [List.take_take, Nat.min_eq_left (by omega)], ?_, rfl⟩
 rw [List.drop_take, List.drop_drop, List.take_take, Nat.min_eq_left (by omega)]
theorem crc_frame {l : List UInt8} {V : Nat} (h : 8 + V ≤ l.length) (hV : beN (l.take 4) = V) : (Crc.more 0#32 ([l.take 4, (l.drop 8).take V].flatten)).toNat = beN ((l.drop 4).take 4) ↔ frame ((l.drop 8).take V) = l.take (8 + V) := by
 have hlb : ((l.drop 8).take V).length = V := by rw [List.length_take, List.length_drop]; omega
 have h4 : (l.take 4).length = 4 := by rw [List.length_take]; omega
 have h44 : ((l.drop 4).take 4).length = 4 := by rw [List.length_take, List.length_drop]; omega
 have hbe : be V 4 = l.take 4 := by rw [← hV]; exact be_beN _ 4 h4 (by omega)
 have hsp : l.take (8 + V) = l.take 4 ++ (l.drop 4).take 4 ++ (l.drop 8).take V := by
  rw [show 8 + V = 4 + (4 + V) by omega, List.take_add, List.take_add, List.drop_drop, List.append_assoc]
 unfold frame
 rw [hlb, hbe, hsp]
 have hC := (Crc.more 0#32 ([l.take 4, (l.drop 8).take V].flatten)).isLt
 generalize (Crc.more 0#32 ([l.take 4, (l.drop 8).take V].flatten)).toNat = C at *
 constructor
 ·intro hc
  rw [hc, be_beN _ 4 h44 (by omega)]
 ·intro he
  have h1 := List.append_inj_left he (by simp [h4, h44, be_length])
  have h2 := List.append_inj_right h1 rfl
  rw [← h2, beN_be _ _ (by omega) (by omega)]
set_option maxRecDepth 100000 in
set_option maxHeartbeats 1600000 in
theorem one_any (p : Option Addr) (n c : Nat) (l : List UInt8) (w : World) (hE : EType w) (hB : Bs w p n c l) (hn : n ≤ 1099511627776) :
  Calls Tryz.prog 106 #[.slice p n c] w (OneP l w) := by
 have HB := Lib.hid hB
 have HN := Lib.hid hB.length
 have HE := Lib.hid hE
 have hle := hB.le
 have hmax := hB.max
 clear hB
 obtain ⟨m, hm⟩ : ∃ m, m = min n 4 := ⟨_, rfl⟩
 obtain ⟨V, hV⟩ : ∃ V, (RD.new (l.take m)).numV 4 = V := ⟨_, rfl⟩
 obtain ⟨s1, hs1⟩ : ∃ s1, (RD.new (l.take m)).numS 4 = s1 := ⟨_, rfl⟩
 have hV64 : V < 18446744073709551616 := by rw [← hV]; exact numV_lt _ _
 have HNO : Hid (¬ (1 ≤ V ∧ V ≤ 65536) → one l = ([], 0, (s1.fail 4).err) ∧ (s1.fail 4).err ≠ 0) := fun hno => by
  by_cases h4 : l.length < 4
  ·have hml : l.take m = l := List.take_of_length_le (by rw [hm, HN.out]; have := HN.out; omega)
   rw [hml, (num_short h4).2] at hs1
   subst hs1
   exact ⟨by unfold one; rw [if_pos h4]; rfl, by simp [RD.fail, RD.err]⟩
  ·have hml : m = 4 := by have := HN.out; omega
   have hl4 : 4 ≤ (l.take m).length := by rw [List.length_take]; omega
   rw [(num_full hl4).2] at hs1
   rw [(num_full hl4).1, hml, List.take_take] at hV
   subst hs1
   exact ⟨by unfold one; rw [if_neg h4, if_pos (by rw [show beN (l.take 4) = V from hV]; omega)]; rfl, by simp [RD.fail, RD.err]⟩
 have HYES : Hid (1 ≤ V ∧ V ≤ 65536 → 4 ≤ n ∧ V = beN (l.take 4) ∧ s1.err = 0) := fun hyes => by
  by_cases h4 : l.length < 4
  ·have hml : l.take m = l := List.take_of_length_le (by rw [hm, HN.out]; have := HN.out; omega)
   rw [hml, (num_short h4).1] at hV
   omega
  ·have hml : m = 4 := by have := HN.out; omega
   have hl4 : 4 ≤ (l.take m).length := by rw [List.length_take]; omega
   rw [(num_full hl4).2] at hs1
   rw [(num_full hl4).1, hml, List.take_take] at hV
   subst hs1
   exact ⟨by have := HN.out; omega, hV.symm, rfl⟩
 have HV := Lib.hid hV
 have HS1 := Lib.hid hs1
 clear hV hs1
 have hmi : (if (4 : Int) < (n : Int) then (4 : Int) else (n : Int)) = (m : Int) := by split <;> omega
 have hmi2 : (if 4 < n then (4 : Int) else (n : Int)) = (m : Int) := by split <;> omega
 have hcut := cut0 HB.out m (m : Int) rfl (by omega)
 have HG := Lib.hid hE.lt
 have HM := Lib.hid hm
 have HBM := Lib.hid (bs_take HB.out (k := m) (by omega))
 have hm4 : m ≤ 4 := by omega
 clear hE hm
 go_enter Tryz.func106, Tryz.ntmps106
 go_wp2_with fail
 refine (Rdr.new_any w p m c (l.take m) HBM.out (by omega)).mono ?_
 rintro e w1 ⟨rb, rfl, hr1, hb1⟩
 have HR1 := Lib.hid hr1
 have HB1 := Lib.hid hb1
 clear hr1 hb1 hcut hmi hmi2
 go_wp2_with fail
 refine (num_any _ HR1.out 4 (by omega)).mono ?_
 rintro e w2 ⟨rfl, hl2⟩
 have HB2 := Lib.hid (HB1.out.trans (hl2.turn.below HB1.out.size (fun i hi => by obtain ⟨v, bv, h⟩ := HR1.out; have := h.low; omega)))
 have HR2 := Lib.hid hl2.there
 clear hl2 HR1 HB1
 rw [HV.out]
 rw [HS1.out] at HR2
 have HE2 := Lib.hid (HE.out.below HB2.out HG.out)
 by_cases hfit : 1 ≤ V ∧ V ≤ 65536
 rotate_left
 ·have HFT : Hid (decide (1 ≤ V ∧ V ≤ 65536) = false) := decide_eq_false hfit
  obtain ⟨ho, hz⟩ := HNO.out hfit
  have HO := Lib.hid ho
  have hz1 : ((s1.fail 4).err != 0) = true := by rw [bne_iff_ne]; exact hz
  clear hfit ho hz
  go_wp2_with fail
  refine (fits_any V hV64 w2).mono ?_
  rintro e w3 ⟨rfl, rfl⟩
  rw [HFT.out]
  go_wp2_with fail
  refine (fail_any _ HR2.out 4 (by omega)).mono ?_
  rintro e w3 ⟨rfl, hl3⟩
  have HB3 := Lib.hid (HB2.out.trans (hl3.turn.below HB2.out.size (fun i hi => by obtain ⟨v, bv, h⟩ := HR2.out; have := h.low; omega)))
  have HR3 := Lib.hid hl3.there
  have HE3 := Lib.hid (HE.out.below HB3.out HG.out)
  clear hl3
  go_wp2_with fail
  refine (err_any _ HR3.out HE3.out).mono ?_
  rintro e w4 ⟨rfl, hb4⟩
  have HB4 := Lib.hid (HB3.out.trans (hb4.mono HB3.out.size))
  clear hb4
  generalize (s1.fail 4).err = E at *
  go_wp2_with fail
  refine bodyPost_ret (results_tmp3 rfl _ _) rfl ?_
  unfold OneP
  rw [HO.out]
  exact ⟨none, 0, rfl, ⟨rfl, .inl ⟨rfl, rfl⟩⟩, HB4.out⟩
 have HFT : Hid (decide (1 ≤ V ∧ V ≤ 65536) = true) := decide_eq_true hfit
 obtain ⟨h4, hVe, hs0⟩ := HYES.out hfit
 have HVE := Lib.hid hVe
 have HS0 := Lib.hid hs0
 obtain ⟨hf1, hf2⟩ := hfit
 clear hVe hs0 HNO HYES
 go_wp2_with fail
 refine (fits_any V hV64 w2).mono ?_
 rintro e w3 ⟨rfl, rfl⟩
 rw [HFT.out]
 go_wp2_with fail
 refine (err_any _ HR2.out HE2.out).mono ?_
 rintro e w3 ⟨rfl, hb3⟩
 have HB3 := Lib.hid (HB2.out.trans (hb3.mono HB2.out.size))
 clear hb3 HR2 HB2 HE2 HS1 HV HFT
 rw [HS0.out]
 clear HS0
 obtain ⟨M, hM⟩ : ∃ M, M = min n (8 + V) := ⟨_, rfl⟩
 have hw8 : IntKind.i64.wrap (V : Int) = (V : Int) := by rw [IntWalk.i64_in _ (by omega)]
 have hw9 : IntKind.i64.wrap (8 + (V : Int)) = 8 + (V : Int) := by rw [IntWalk.i64_in _ (by omega)]
 have hmi : (if (8 : Int) + (V : Int) < (n : Int) then (8 : Int) + (V : Int) else (n : Int)) = (M : Int) := by split <;> omega
 have hmi2 : (if 8 + V < n then (8 : Int) + (V : Int) else (n : Int)) = (M : Int) := by split <;> omega
 have hM4 : 4 ≤ M ∧ M ≤ n := by omega
 have HSL := Lib.hid (HB.out.below HB3.out)
 have hcut := cut3 HSL.out 4 (M - 4) 4 (M : Int) rfl (by omega) (by omega)
 have HSM := Lib.hid (bs_cut HSL.out 4 (M - 4) (by omega))
 have HMM := Lib.hid hM
 clear hM
 have hsec : RD.new ((l.drop 4).take (M - 4)) = sec l V := by unfold sec; rw [HMM.out, HN.out]
 go_wp2_with fail
 refine (Rdr.new_any w3 _ _ _ _ HSM.out (by omega)).mono ?_
 rintro e w4 ⟨r4, rfl, hr4, hb4⟩
 rw [hsec] at hr4
 have HR4 := Lib.hid hr4
 have HB4 := Lib.hid (HB3.out.trans (hb4.mono HB3.out.size))
 have HX4 := Lib.hid hb4
 clear hr4 hb4 hcut hmi hmi2 hsec
 go_wp2_with fail
 refine (num_any _ HR4.out 4 (by omega)).mono ?_
 rintro e w5 ⟨rfl, hl5⟩
 have HL5 := Lib.hid hl5
 clear hl5
 go_wp2_with fail
 refine (bytes_any _ HL5.out.there (V : Int) (by omega)).mono ?_
 rintro e w6 ⟨p6, c6, rfl, ho6, hl6⟩
 have hl46 := HL5.out.trans hl6
 have HB6 := Lib.hid (HB4.out.trans (hl46.turn.below HB4.out.size (fun i hi => by obtain ⟨v, bv, h⟩ := HR4.out; have := h.low; have := HB3.out.size; omega)))
 have HR6 := Lib.hid hl46.there
 have ho6' := own_base (base' := w.heap.size) ho6 (fun k hk => by have h1 := (ho6.lt k hk).1; have h2 := HB4.out.size; have h3 := HL5.out.turn.size; omega)
 have HO6 := Lib.hid ho6'
 have HE6 := Lib.hid (HE.out.below HB6.out HG.out)
 clear ho6 hl6 hl46 HL5 HR4 ho6'
 go_wp2_with fail
 refine (err_any _ HR6.out HE6.out).mono ?_
 rintro e w7 ⟨rfl, hb7⟩
 have HB7 := Lib.hid (HB6.out.trans (hb7.mono HB6.out.size))
 have ho7 := own_touch HO6.out (Turns.of_below (S := fun _ => False) hb7) (fun _ _ h => h)
 have HO7 := Lib.hid ho7
 clear hb7 HR6 HO6 HE6 ho7
 by_cases hful : 8 + V ≤ n
 rotate_left
 ·have hss := sec_short (l := l) (V := V) (by rw [HN.out]; exact h4) (by rw [HN.out]; omega)
  rw [hss]
  have HO : Hid (one l = ([], 0, 2)) := by
   show _ = _
   unfold one
   rw [if_neg (by rw [HN.out]; omega), if_neg (by rw [← HVE.out]; omega), if_pos (by rw [← HVE.out, HN.out]; omega)]
  clear hss hful
  generalize (sec l V).numV 4 = SUM at *
  generalize ((sec l V).numS 4).takeB (V : Int) true = BODY at *
  go_wp2_with fail
  refine bodyPost_ret (results_tmp3 rfl _ _) rfl ?_
  unfold OneP
  rw [HO.out]
  exact ⟨none, 0, rfl, ⟨rfl, .inl ⟨rfl, rfl⟩⟩, HB7.out⟩
 obtain ⟨f1, f2, f3⟩ := sec_full (l := l) (V := V) (by rw [HN.out]; exact hful)
 have HCF := Lib.hid (crc_frame (l := l) (V := V) (by rw [HN.out]; exact hful) HVE.out.symm)
 have HON : Hid (one l = if frame ((l.drop 8).take V) = l.take (8 + V) then ((l.drop 8).take V, 8 + V, 0) else ([], 0, 9)) := by
  show _ = _
  unfold one
  rw [if_neg (by rw [HN.out]; omega), if_neg (by rw [← HVE.out]; omega), if_neg (by rw [← HVE.out, HN.out]; omega), ← HVE.out]
 rw [f1, f2, f3]
 rw [f2] at HO7
 have HLB : Hid (((l.drop 8).take V).length = V) := by show _ = _; rw [List.length_take, List.length_drop, HN.out]; omega
 have hb4 := beN_lt_pow ((l.drop 4).take 4)
 rw [List.length_take, List.length_drop, HN.out, Nat.min_eq_left (by omega)] at hb4
 have HSL7 := Lib.hid (HB.out.below HB7.out)
 clear f1 f2 f3 HVE
 generalize hbody : (l.drop 8).take V = body at *
 generalize beN ((l.drop 4).take 4) = SUM at *
 have hw32 : IntKind.u32.wrap (SUM : Int) = (SUM : Int) := by rw [IntKind.wrap_u32]; omega
 have hcut := cut0 HSL7.out 4 4 rfl (by omega)
 rw [HLB.out] at HO7 ⊢
 have HP := Lib.hid (Pts.made2 (bs_take HSL7.out (k := 4) (by omega)) (own_bs HO7.out) 22 rfl)
 go_wp2_with fail
 refine (CrcW.of_any _ _ _ [l.take 4, body] _ HP.out).mono ?_
 rintro e w8 ⟨rfl, hb8⟩
 have hal : Below w7.heap.size w7 (w7.alloc (.cells #[.slice p 4 c, .slice p6 V c6] 22)) := Below.allocs _ _
 have hb78 := hal.trans (hb8.mono hal.size)
 have HB8 := Lib.hid (HB7.out.trans (hb78.mono HB7.out.size))
 have ho8 := own_touch HO7.out (Turns.of_below (S := fun _ => False) hb78) (fun _ _ h => h)
 have HO8 := Lib.hid ho8
 clear hb8 hal hb78 ho8 HO7 HP hcut HSL7
 obtain ⟨C, hC⟩ : ∃ C, (Crc.more 0#32 ([l.take 4, body].flatten)).toNat = C := ⟨_, rfl⟩
 rw [hC] at HCF ⊢
 clear hC
 by_cases hq : C = SUM
 ·have hqb : ((C : Int) != (SUM : Int)) = false := by rw [bne_eq_false_iff_eq]; omega
  have HR : Hid (one l = (body, 8 + V, 0)) := by show _ = _; rw [HON.out, if_pos (HCF.out.1 hq)]
  clear hq HCF HON hbody
  go_wp2_with fail
  refine (size_any p6 V c6 (by omega) _).mono ?_
  rintro e w9 ⟨rfl, rfl⟩
  go_wp2_with fail
  refine bodyPost_ret (results_tmp3 rfl _ _) rfl ?_
  unfold OneP
  rw [HR.out]
  dsimp only
  rw [HLB.out]
  exact ⟨p6, c6, rfl, HO8.out, HB8.out⟩
 ·have hqb : ((C : Int) != (SUM : Int)) = true := by rw [bne_iff_ne]; omega
  have HR : Hid (one l = ([], 0, 9)) := by show _ = _; rw [HON.out, if_neg (fun h => hq (HCF.out.2 h))]
  clear hq HCF HON hbody
  go_wp2_with fail
  refine bodyPost_ret (results_tmp3 rfl _ _) rfl ?_
  unfold OneP
  rw [HR.out]
  exact ⟨none, 0, rfl, ⟨rfl, .inl ⟨rfl, rfl⟩⟩, HB8.out⟩
end Go.Proofs.YtnejjfglkindjaaGreatDoor.Frm
namespace Go.Proofs.YtnejjfglkindjaaGreatDoor.Cut
open Go.RowKit Go.Mir Go.Mir.Parts
structure Ls (w : World) (base : Nat) (v : Value) (ls : List (List UInt8)) : Prop where
 all : ∃ hs : List Value, w.ownsRow base 22 1 v ls.length hs ∧ ∀ j (h : j < ls.length), ∃ q k, hs[j]? = some (.slice q ls[j].length k) ∧ Bs w q ls[j].length k ls[j] ∧ (∀ a, q = some a → 0 < ls[j].length → ¬ v.ownBlock = some a.block)
theorem Ls.nil (w : World) (base : Nat) : Ls w base (.slice none 0 0) [] := ⟨[], World.ownsRow_nil _ _ _ _, fun j h => by simp at h⟩
theorem Ls.below {w w' : World} {base : Nat} {v : Value} {ls : List (List UInt8)} (h : Ls w base v ls) (hb : Below w.heap.size w w') : Ls w' base v ls := by
 obtain ⟨hs, h1, h2⟩ := h.all
 exact ⟨hs, own_touch h1 (Turns.of_below (S := fun _ => False) hb) (fun _ _ h => h), fun j hj => by
  obtain ⟨q, k, a, b, c⟩ := h2 j hj
  exact ⟨q, k, a, b.below hb, c⟩⟩
theorem Ls.low {w : World} {base base' : Nat} {v : Value} {ls : List (List UInt8)} (h : Ls w base v ls) (hb : base' ≤ base) : Ls w base' v ls := by
 obtain ⟨hs, h1, h2⟩ := h.all
 exact ⟨hs, own_base h1 (fun k hk => by have := (h1.lt k hk).1; omega), h2⟩
theorem Ls.sl {w : World} {base : Nat} {v : Value} {ls : List (List UInt8)} (h : Ls w base v ls) : ∃ p c, v = .slice p ls.length c ∧ Pts w p ls.length c ls := by
 obtain ⟨hs, h1, h2⟩ := h.all
 obtain ⟨p, c, rfl, hS⟩ := own_sl h1
 refine ⟨p, c, rfl, rfl, hS.le, hS.max, hS.nil0, fun a ha j hj => ?_⟩
 obtain ⟨q, k, e1, e2, _⟩ := h2 j hj
 exact ⟨q, _, k, hS.cell a ha j _ e1, e2⟩
theorem no_own {w : World} {base : Nat} {v : Value} {n : Nat} {hs : List Value} (h1 : w.ownsRow base 22 1 v n hs) {b2 m c : Nat} {q : Option Addr} {ys : List Value} (h2 : w.ownsRow b2 5 1 (.slice q m c) m ys) : ∀ a, q = some a → ¬ v.ownBlock = some a.block := fun a ha hv => by
 subst ha
 rcases h1.2 with ⟨rfl, _⟩ | ⟨g, cap, cur, rfl, _, hg, _⟩
 ·cases hv
 ·rcases h2.2 with ⟨hx, _⟩ | ⟨g2, cap2, cur2, hx, _, hg2, _⟩
  ·cases hx
  ·cases hx
   simp only [Value.ownBlock, Option.some.injEq] at hv
   rw [← hv, hg] at hg2
   injection hg2 with e1
   injection e1 with _ e2
   revert e2
   decide
theorem Ls.push {w w0 w1 : World} {base : Nat} {v : Value} {ls : List (List UInt8)} {hs : List Value} {p' : Option Addr} {c' : Nat} {q : Option Addr} {k : Nat} {x : List UInt8}
  (h1 : w.ownsRow base 22 1 v ls.length hs) (h2 : ∀ j (h : j < ls.length), ∃ q k, hs[j]? = some (.slice q ls[j].length k) ∧ Bs w q ls[j].length k ls[j] ∧ (∀ a, q = some a → 0 < ls[j].length → ¬ v.ownBlock = some a.block))
  (hb : Below w.heap.size w w0) (hx : Bs w q x.length k x) (hq : ∀ a, q = some a → 0 < x.length → ¬ v.ownBlock = some a.block)
  (ho : w1.ownsRow base 22 1 (.slice p' (ls.length + 1) c') (ls.length + 1) (hs ++ [.slice q x.length k])) (hg : w0.grownBy w1 v.ownBlock)
  (hn : ∀ i, (Value.slice p' (ls.length + 1) c').ownBlock = some i → v.ownBlock = some i ∨ i = w0.heap.size) : Ls w1 base (.slice p' (ls.length + 1) c') (ls ++ [x]) := by
 have hl : hs.length = ls.length := by have := h1.1; simpa using this
 have ht : Turns (fun i => v.ownBlock = some i) w0 w1 := Turns.grown hg (fun k hk => hk)
 have key : ∀ (q : Option Addr) (k : Nat) (y : List UInt8), Bs w q y.length k y → (∀ a, q = some a → 0 < y.length → ¬ v.ownBlock = some a.block) → Bs w1 q y.length k y ∧ (∀ a, q = some a → 0 < y.length → ¬ (Value.slice p' (ls.length + 1) c').ownBlock = some a.block) := fun q k y hB hne => by
  by_cases hy : 0 < y.length
  ·obtain ⟨b, o, rfl⟩ := hB.addr hy (by omega)
   have hlt : b < w.heap.size := block_lt_of_cell (Bs.byte hB (j := 0) hy)
   refine ⟨(hB.below hb).touch ht (fun a ha _ => hne a ha hy), fun a ha hy he => ?_⟩
   rcases hn _ he with h | h
   ·exact hne a ha hy h
   ·obtain rfl := Option.some.inj ha
    have := hb.size
    simp only at h
    omega
  ·have hy0 : y = [] := List.length_eq_zero_iff.1 (by omega)
   subst hy0
   exact ⟨⟨rfl, hB.le, hB.max, hB.nil0, fun a ha j u hu => by simp [bytesV] at hu⟩, fun a ha h => by simp at h⟩
 refine ⟨_, by rw [List.length_append]; exact ho, fun j hj => ?_⟩
 rw [List.length_append, List.length_singleton] at hj
 by_cases hj2 : j < ls.length
 ·obtain ⟨q1, k1, e1, e2, e3⟩ := h2 j hj2
  have := key q1 k1 _ e2 e3
  refine ⟨q1, k1, ?_, ?_, ?_⟩
  ·rw [List.getElem?_append_left (by omega), List.getElem_append_left hj2]; exact e1
  ·rw [List.getElem_append_left hj2]; exact this.1
  ·rw [List.getElem_append_left hj2]; exact this.2
 ·obtain rfl : j = ls.length := by omega
  have := key q k x hx hq
  refine ⟨q, k, ?_, ?_, ?_⟩
  ·rw [List.getElem?_append_right (by omega), hl, Nat.sub_self]
   simp
  ·simpa using this.1
  ·simpa using this.2
theorem hdr_sl (w : World) (v : Value) (t : TypeId) (b : Nat) (hb : b = w.heap.size) : Sl (w.alloc (.cells #[v] t)) (some ⟨b, 0, none⟩) 1 1 1 [v] :=
 ⟨rfl, Nat.le_refl _, by omega, fun h => (by cases h), fun a ha j u hu => by
  obtain rfl := Option.some.inj ha
  rw [add_none, hb, cell_alloc_new]
  cases j with
  | zero => simpa using hu
  | succ j => simp at hu⟩
structure LsO (w : World) (base : Nat) (v : Value) (ls : List (List UInt8)) : Prop where
 all : ∃ hs : List Value, w.ownsRow base 22 1 v ls.length hs ∧ ∀ j (h : j < ls.length), ∃ q k, hs[j]? = some (.slice q ls[j].length k) ∧ w.ownsRow base 5 1 (.slice q ls[j].length k) ls[j].length (bytesV ls[j])
theorem LsO.nil (w : World) (base : Nat) : LsO w base (.slice none 0 0) [] := ⟨[], World.ownsRow_nil _ _ _ _, fun j h => by simp at h⟩
theorem LsO.ls {w : World} {base : Nat} {v : Value} {ls : List (List UInt8)} (h : LsO w base v ls) : Ls w base v ls := by
 obtain ⟨hs, h1, h2⟩ := h.all
 exact ⟨hs, h1, fun j hj => by
  obtain ⟨q, k, a, b⟩ := h2 j hj
  exact ⟨q, k, a, own_bs b, fun ad ha _ => no_own h1 b ad ha⟩⟩
theorem LsO.below {w w' : World} {base : Nat} {v : Value} {ls : List (List UInt8)} (h : LsO w base v ls) (hb : Below w.heap.size w w') : LsO w' base v ls := by
 obtain ⟨hs, h1, h2⟩ := h.all
 exact ⟨hs, own_touch h1 (Turns.of_below (S := fun _ => False) hb) (fun _ _ h => h), fun j hj => by
  obtain ⟨q, k, a, b⟩ := h2 j hj
  exact ⟨q, k, a, own_touch b (Turns.of_below (S := fun _ => False) hb) (fun _ _ h => h)⟩⟩
theorem LsO.push {w w1 : World} {base : Nat} {v v' : Value} {ls : List (List UInt8)} {hs : List Value} {q : Option Addr} {k : Nat} {x : List UInt8} {tmp : Obj}
  (h1 : w.ownsRow base 22 1 v ls.length hs) (h2 : ∀ j (h : j < ls.length), ∃ q k, hs[j]? = some (.slice q ls[j].length k) ∧ w.ownsRow base 5 1 (.slice q ls[j].length k) ls[j].length (bytesV ls[j]))
  (hx : w.ownsRow base 5 1 (.slice q x.length k) x.length (bytesV x))
  (ho : w1.ownsRow base 22 1 v' (ls.length + 1) (hs ++ [.slice q x.length k])) (hg : (w.alloc tmp).grownBy w1 v.ownBlock) : LsO w1 base v' (ls ++ [x]) := by
 have hl : hs.length = ls.length := by have := h1.1; simpa using this
 have ht : Turns (fun i => v.ownBlock = some i) w w1 := (Turns.of_below (Below.allocs w tmp)).trans (Turns.grown hg (fun k hk => hk)) (fun _ _ h => h)
 have key : ∀ (q : Option Addr) (k : Nat) (y : List UInt8), w.ownsRow base 5 1 (.slice q y.length k) y.length (bytesV y) → w1.ownsRow base 5 1 (.slice q y.length k) y.length (bytesV y) := fun q k y hy =>
  own_touch hy ht (fun i hi he => by
   cases q with
   | none => simp [Value.ownBlock] at hi
   | some a => simp only [Value.ownBlock, Option.some.injEq] at hi; exact no_own h1 hy a rfl (by rw [hi]; exact he))
 refine ⟨_, by rw [List.length_append]; exact ho, fun j hj => ?_⟩
 rw [List.length_append, List.length_singleton] at hj
 by_cases hj2 : j < ls.length
 ·obtain ⟨q1, k1, e1, e2⟩ := h2 j hj2
  refine ⟨q1, k1, ?_, ?_⟩
  ·rw [List.getElem?_append_left (by omega), List.getElem_append_left hj2]; exact e1
  ·rw [List.getElem_append_left hj2]; exact key q1 k1 _ e2
 ·obtain rfl : j = ls.length := by omega
  refine ⟨q, k, ?_, ?_⟩
  ·rw [List.getElem?_append_right (by omega), hl, Nat.sub_self]
   simp
  ·simpa using key q k x hx
theorem LsO.set {w : World} {base : Nat} {v : Value} {ls : List (List UInt8)} {B : Nat} {t : TypeId} {u : Value} (h : LsO w base v ls) (hb : w.heap[B]? = some (.cells #[u] t (0, 0))) (h1 : t ≠ 22) (h2 : t ≠ 5) (u' : Value) : LsO (w.setCell ⟨B, 0, none⟩ u') base v ls := by
 have ht : Turns (fun i => i = B) w (w.setCell ⟨B, 0, none⟩ u') := (Turns.refl (fun i => i = B) w).setCell (p := ⟨B, 0, none⟩) (fun _ => rfl) u'
 have ne : ∀ {n size e : Nat} {x : Value} {vs : List Value}, w.ownsRow base e size x n vs → t ≠ e → ∀ i, x.ownBlock = some i → ¬ i = B := fun {n size e x vs} ho hte i hi he => by
  subst he
  rcases ho.2 with ⟨rfl, _⟩ | ⟨g, cap, cur, rfl, _, hg, _⟩
  ·cases hi
  ·simp only [Value.ownBlock, Option.some.injEq] at hi
   rw [hi, hb] at hg
   injection hg with e1
   injection e1 with _ e2
   exact hte e2
 obtain ⟨hs, a, b⟩ := h.all
 exact ⟨hs, own_touch a ht (ne a h1), fun j hj => by
  obtain ⟨q, k, c, d⟩ := b j hj
  exact ⟨q, k, c, own_touch d ht (ne d h2)⟩⟩
theorem own_apart {w : World} {b1 b2 e1 e2 s1 s2 n1 n2 : Nat} {v1 v2 : Value} {x1 x2 : List Value} (h1 : w.ownsRow b1 e1 s1 v1 n1 x1) (h2 : w.ownsRow b2 e2 s2 v2 n2 x2) (he : e1 ≠ e2) : ∀ k, v1.ownBlock = some k → ¬ v2.ownBlock = some k := fun k hk hk2 => by
 rcases h1.2 with ⟨rfl, _⟩ | ⟨g, cap, cur, rfl, _, hg, _⟩
 ·cases hk
 ·rcases h2.2 with ⟨rfl, _⟩ | ⟨g2, cap2, cur2, rfl, _, hg2, _⟩
  ·cases hk2
  ·simp only [Value.ownBlock, Option.some.injEq] at hk hk2
   rw [hk] at hg
   rw [hk2, hg] at hg2
   injection hg2 with a
   injection a with _ b
   exact he b
structure LsA (w0 w : World) (base : Nat) (v : Value) (ls : List (List UInt8)) : Prop where
 all : ∃ hs : List Value, w.ownsRow base 22 1 v ls.length hs ∧ ∀ j (h : j < ls.length), ∃ q k, hs[j]? = some (.slice q ls[j].length k) ∧ Bs w0 q ls[j].length k ls[j]
theorem LsA.nil (w0 w : World) (base : Nat) : LsA w0 w base (.slice none 0 0) [] := ⟨[], World.ownsRow_nil _ _ _ _, fun j h => by simp at h⟩
theorem LsA.touch {S : Nat → Prop} {w0 w w' : World} {base : Nat} {v : Value} {ls : List (List UInt8)} (h : LsA w0 w base v ls) (ht : Turns S w w') (hv : ∀ k, v.ownBlock = some k → ¬ S k) : LsA w0 w' base v ls := by
 obtain ⟨hs, h1, h2⟩ := h.all
 exact ⟨hs, own_touch h1 ht hv, h2⟩
theorem LsA.below {w0 w w' : World} {base : Nat} {v : Value} {ls : List (List UInt8)} (h : LsA w0 w base v ls) (hb : Below w.heap.size w w') : LsA w0 w' base v ls := h.touch (Turns.of_below (S := fun _ => False) hb) (fun _ _ h => h)
theorem LsA.push {w0 w w1 : World} {base : Nat} {v v' : Value} {ls : List (List UInt8)} {hs : List Value} {q : Option Addr} {k : Nat} {x : List UInt8}
  (h1 : w.ownsRow base 22 1 v ls.length hs) (h2 : ∀ j (h : j < ls.length), ∃ q k, hs[j]? = some (.slice q ls[j].length k) ∧ Bs w0 q ls[j].length k ls[j]) (hx : Bs w0 q x.length k x)
  (ho : w1.ownsRow base 22 1 v' (ls.length + 1) (hs ++ [.slice q x.length k])) : LsA w0 w1 base v' (ls ++ [x]) := by
 have hl : hs.length = ls.length := by have := h1.1; simpa using this
 refine ⟨_, by rw [List.length_append]; exact ho, fun j hj => ?_⟩
 rw [List.length_append, List.length_singleton] at hj
 by_cases hj2 : j < ls.length
 ·obtain ⟨q1, k1, e1, e2⟩ := h2 j hj2
  refine ⟨q1, k1, ?_, ?_⟩
  ·rw [List.getElem?_append_left (by omega), List.getElem_append_left hj2]; exact e1
  ·rw [List.getElem_append_left hj2]; exact e2
 ·obtain rfl : j = ls.length := by omega
  refine ⟨q, k, ?_, ?_⟩
  ·rw [List.getElem?_append_right (by omega), hl, Nat.sub_self]
   simp
  ·simpa using hx
theorem LsA.sl {w0 w : World} {base : Nat} {v : Value} {ls : List (List UInt8)} (h : LsA w0 w base v ls) (hb : Below w0.heap.size w0 w) : ∃ p c, v = .slice p ls.length c ∧ Pts w p ls.length c ls := by
 obtain ⟨hs, h1, h2⟩ := h.all
 obtain ⟨p, c, rfl, hS⟩ := own_sl h1
 refine ⟨p, c, rfl, rfl, hS.le, hS.max, hS.nil0, fun a ha j hj => ?_⟩
 obtain ⟨q, k, e1, e2⟩ := h2 j hj
 exact ⟨q, _, k, hS.cell a ha j _ e1, e2.below hb⟩
end Go.Proofs.YtnejjfglkindjaaGreatDoor.Cut
namespace Go.Proofs.YtnejjfglkindjaaGreatDoor.Frm
open Go.RowKit Go.Mir Go.Mir.Parts Wr Cod Cut
theorem one_ok {l : List UInt8} (h : (one l).2.2 = 0) : 9 ≤ (one l).2.1 ∧ (one l).2.1 ≤ l.length ∧ (one l).2.1 = 8 + (one l).1.length ∧ frame (one l).1 = l.take (one l).2.1 ∧ 1 ≤ (one l).1.length ∧ (one l).1.length ≤ 65536 := by
 unfold one at h ⊢
 split at h
 ·simp at h
 rename_i h1
 rw [if_neg h1]
 split at h
 ·simp at h
 rename_i h2
 rw [if_neg h2]
 split at h
 ·simp at h
 rename_i h3
 rw [if_neg h3]
 split at h
 ·rename_i h4
  rw [if_pos h4]
  have hl : ((l.drop 8).take (Rdr.beN (l.take 4))).length = Rdr.beN (l.take 4) := by rw [List.length_take, List.length_drop]; omega
  refine ⟨by dsimp only; omega, by dsimp only; omega, by dsimp only; rw [hl], h4, by dsimp only; omega, by dsimp only; omega⟩
 ·simp at h
def scan (l : List UInt8) : List (List UInt8) × Nat :=
 if _h : (one l).2.2 = 0 then ((one l).1 :: (scan (l.drop (one l).2.1)).1, (one l).2.1 + (scan (l.drop (one l).2.1)).2) else ([], 0)
termination_by l.length
decreasing_by all_goals (have := one_ok _h; rw [List.length_drop]; omega)
theorem scan_ok {l : List UInt8} (h : (one l).2.2 = 0) : scan l = ((one l).1 :: (scan (l.drop (one l).2.1)).1, (one l).2.1 + (scan (l.drop (one l).2.1)).2) := by rw [scan, dif_pos h]
theorem scan_no {l : List UInt8} (h : ¬ (one l).2.2 = 0) : scan l = ([], 0) := by rw [scan, dif_neg h]
def sumF (pre : List (List UInt8)) : Nat := (pre.map fun x => 8 + x.length).sum
theorem sumF_snoc (pre : List (List UInt8)) (x : List UInt8) : sumF (pre ++ [x]) = sumF pre + (8 + x.length) := by simp [sumF]
def At (l : List UInt8) (pre : List (List UInt8)) (at_ : Nat) : Prop := at_ ≤ l.length ∧ (9 * pre.length ≤ at_ ∧ at_ = sumF pre) ∧ scan l = (pre ++ (scan (l.drop at_)).1, at_ + (scan (l.drop at_)).2)
theorem At.zero (l : List UInt8) : At l [] 0 := ⟨by omega, ⟨by simp, rfl⟩, by simp⟩
theorem At.next {l : List UInt8} {pre : List (List UInt8)} {k : Nat} (h : At l pre k) (ho : (one (l.drop k)).2.2 = 0) : At l (pre ++ [(one (l.drop k)).1]) (k + (one (l.drop k)).2.1) := by
 obtain ⟨h1, ⟨h2, h2'⟩, h3⟩ := h
 obtain ⟨o1, o2, o3, _⟩ := one_ok ho
 rw [List.length_drop] at o2
 refine ⟨by omega, ⟨by rw [List.length_append, List.length_singleton]; omega, by rw [sumF_snoc, ← h2', o3]⟩, ?_⟩
 rw [h3, scan_ok ho, List.drop_drop]
 simp only [List.append_assoc, List.singleton_append, Prod.mk.injEq, true_and]
 omega
theorem At.end {l : List UInt8} {pre : List (List UInt8)} {k : Nat} (h : At l pre k) (ho : ¬ (one (l.drop k)).2.2 = 0) : scan l = (pre, k) := by
 rw [h.2.2, scan_no ho]; simp
theorem At.last {l : List UInt8} {pre : List (List UInt8)} {k k1 : Nat} (h : At l pre k) (ho : ¬ (one (l.drop k)).2.2 = 0) (h1 : At l pre k1) : scan l = (pre, k1) := by
 have he := h.end ho
 have h3 := h1.2.2
 rw [he] at h3
 by_cases hb : (one (l.drop k1)).2.2 = 0
 ·rw [scan_ok hb] at h3
  have := congrArg List.length (congrArg Prod.fst h3)
  simp at this
 ·exact h1.end hb
def RScanO (l : List UInt8) (w : World) (e : Ending) (w' : World) : Prop := ∃ v, e = .returned (.tuple #[v, .int .i64 ((scan l).2 : Int)]) ∧ LsO w' w.heap.size v (scan l).1 ∧ Below w.heap.size w w'
set_option maxRecDepth 100000 in
set_option maxHeartbeats 1600000 in
theorem rscanO_any (p : Option Addr) (n c : Nat) (l : List UInt8) (w : World) (hB : Bs w p n c l) (hn : n ≤ 1000000) :
  Calls Tryz.prog 102 #[.slice p n c] w (RScanO l w) := by
 have HB := Lib.hid hB
 have HN := Lib.hid hB.length
 have hle := hB.le
 have hmax := hB.max
 clear hB
 go_enter Tryz.func102, Tryz.ntmps102
 go_wp2_with fail
 go_loopw [4, 5] (fun x j wr => ∃ (k : Nat) (pre : List (List UInt8)), j = .int .i64 k ∧ LsO wr w.heap.size x pre ∧ At l pre k ∧ Below w.heap.size w wr) (fun _ j _ => n - (intOf j).toNat)
 case atStart => exact ⟨0, [], rfl, LsO.nil _ _, At.zero l, Below.refl _ _⟩
 case round =>
  obtain ⟨k, pre, rfl, hls, hat, hbl⟩ := hrel
  have hk : k ≤ n := by rw [← HN.out]; exact hat.1
  have hpre : 9 * pre.length ≤ k := hat.2.1.1
  have HAT := Lib.hid hat
  have HLS := Lib.hid hls
  have HBL := Lib.hid hbl
  have hcut := cutR (HB.out.below hbl) k (k : Int) rfl hk
  have hone := rone_any _ _ _ _ wr (bs_drop (HB.out.below hbl) k hk) (by omega)
  have HONE := Lib.hid hone
  clear hat hls hbl hone
  go_wp2_with fail
  refine HONE.out.mono ?_
  rintro e w1 ⟨p1, c1, rfl, ho1, hb1⟩
  have HB1 := Lib.hid (HBL.out.trans (hb1.mono HBL.out.size))
  have HL1 := Lib.hid (HLS.out.below hb1)
  have HO1 := Lib.hid ho1
  have HBW := Lib.hid hb1
  clear ho1 hb1 HONE HLS hcut
  obtain ⟨body, m, ev, hoe⟩ : ∃ body m ev, one (l.drop k) = (body, m, ev) := ⟨_, _, _, rfl⟩
  rw [hoe] at HO1 ⊢
  have HOE := Lib.hid hoe
  clear hoe
  by_cases hev : ev = 0
  ·subst hev
   have hok := one_ok (l := l.drop k) (by rw [HOE.out])
   have hnx := HAT.out.next (by rw [HOE.out])
   rw [HOE.out] at hok hnx
   rw [List.length_drop, HN.out] at hok
   dsimp only at hok hnx
   obtain ⟨ok1, ok2, ok3, _⟩ := hok
   clear ok3
   have hw : IntKind.i64.wrap ((k : Int) + (m : Int)) = ((k + m : Nat) : Int) := by rw [IntWalk.i64_in _ (by omega)]; omega
   have hw2 : IntKind.i64.wrap ((k : Int) + (m : Int)) = (k : Int) + (m : Int) := by rw [IntWalk.i64_in _ (by omega)]
   obtain ⟨hs, hh1, hh2⟩ := HL1.out.all
   have HH1 := Lib.hid hh1
   have HH2 := Lib.hid hh2
   have HNX := Lib.hid hnx
   clear hh1 hh2 hnx HOE HAT
   have hbd : Hid (pre.length + 1 ≤ 9223372036854775807 ∧ (pre.length + 1) * 24 ≤ 140737488355328) := by show _ ∧ _; omega
   have hal : Below w1.heap.size w1 (w1.alloc (.cells #[.slice p1 body.length c1] 22)) := Below.allocs _ _
   have HAL := Lib.hid hal
   have hnew := hdr_sl w1 (.slice p1 body.length c1) 22 w1.heap.size rfl
   have HNEW := Lib.hid hnew
   have HOW := Lib.hid (own_touch HH1.out (Turns.of_below (S := fun _ => False) hal) (fun _ _ h => h))
   clear hal hnew
   go_upto_region 7 with (at_builtin; refine wpList_append_nx rfl _ _ 31 rfl (base := w.heap.size) Tryz.underlying31 infoS rfl (by omega) rfl HOW.out rfl HNEW.out (by simp [Value.oneCell']) hbd.out (by have := HB1.out.size; have := HAL.out.size; omega) ?_)
   intro p' c' w2 hown hg hnx _
   have hpush := LsO.push HH1.out HH2.out (own_base HO1.out (fun i hi => by have := (HO1.out.lt i hi).1; have := HBL.out.size; omega)) hown hg
   have hb2 := (HB1.out.trans (HAL.out.mono HB1.out.size)).grown hg (by have := HB1.out.size; have := HAL.out.size; omega) (fun i hi => (HH1.out.lt i hi).1)
   have HPU := Lib.hid hpush
   have HB2 := Lib.hid hb2
   clear hpush hb2 hown hg hnx HOW HNEW HAL hbd HH1 HH2 HL1 HO1 HB1
   go_wp2_with fail
   go_roundw
   case rel => exact ⟨k + m, _, by go_num, HPU.out, HNX.out, HB2.out⟩
   case measure => simp [intOf]; omega
  ·have hz : (ev != 0) = true := by rw [bne_iff_ne]; exact hev
   have hend := HAT.out.end (by rw [HOE.out]; exact hev)
   have HEND := Lib.hid hend
   clear hend hev HOE HAT
   go_wp2_with fail
   go_ret2
   exact ⟨_, by rw [HEND.out]; rfl, by rw [HEND.out]; exact HL1.out, HB1.out⟩
end Go.Proofs.YtnejjfglkindjaaGreatDoor.Frm
namespace Go.Mir
open Go.RowKit
theorem grown_of_below {A B : World} (h : Below A.heap.size A B) (row : Option Nat) : A.grownBy B row := ⟨h.os, h.tape, h.output, h.size, fun k hk _ => h.block k hk⟩
theorem ownFrom_grow {β : Type} {b : Nat} {I : β → World → Prop} (h : OwnFrom b I) {s : β} {A B : World} (hs : I s A) (hb : Below A.heap.size A B) : I s B :=
 h s A B none hs (grown_of_below hb none) (fun r e => by cases e)
def SeqG {α : Type} (P : Program) (n : Nat) (gf : Nat) (lb : Array Value) (encs : α → Array Value) (T : Nat → Prop) (G : List α → α → World → Prop) (S Sp : List α → Prop) (w : World) : Prop :=
 ∀ (l : Nat) (J Jx : List α → World → Prop) (W : World), Below w.heap.size w W → (∀ s A B, J s A → Below A.heap.size A B → J s B) → (∀ s A B, Jx s A → Below A.heap.size A B → Jx s B) →
  (∀ pre x W1, J pre W1 → G pre x W1 → YieldAt Fence.wide (n - 1) P l (encs x) W1 fun e W' => (e = .returned (.bool true) ∧ J (pre ++ [x]) W' ∧ Turns T W1 W') ∨ (e = .returned (.bool false) ∧ Jx (pre ++ [x]) W')) →
  J [] W → CallsIn Fence.wide n P gf (#[.func (.yield l) #[] #[]] ++ lb) W fun e W' => (∃ v, e = .returned v) ∧ ((∃ xs, S xs ∧ J xs W') ∨ ∃ pre, Sp pre ∧ Jx pre W')
def roundEnd {α : Type} (B : Nat) (T : Nat → Prop) (I : List α → World → Prop) (Ix : Code → List α → World → Prop) (xs : List α) (W : World) : Exit → Act → World → Prop
 | .normal, _, W' => KeepsFrom B W W' ∧ Turns T W W' ∧ I xs W'
 | .ret, _, W' => KeepsFrom B W W' ∧ Ix .ret xs W'
 | .exit id, _, W' => KeepsFrom B W W' ∧ Ix (.exit id) xs W'
 | .goto t, _, W' => KeepsFrom B W W' ∧ Ix (.goto t) xs W'
 | .panic _, _, _ => False
 | .outgrown, _, _ => False
structure LoopAt (b : Nat) (r : Loop) (W : World) : Prop where
 loop : W.heap[b + 1]? = some (.loop r)
 calls : W.heap[b]? = some (.deferred (some []))
theorem LoopAt.lt {b : Nat} {r : Loop} {W : World} (h : LoopAt b r W) : b + 1 < W.heap.size := (Array.getElem?_eq_some_iff.1 h.loop).1
theorem LoopAt.keep {b : Nat} {r : Loop} {W W' : World} (h : LoopAt b r W) (hk : KeepsFrom b W W') : LoopAt b r W' := ⟨hk.same _ _ (by omega) h.loop rfl, hk.same _ _ (Nat.le_refl _) h.calls rfl⟩
theorem LoopAt.set {b : Nat} {r : Loop} {W : World} (h : LoopAt b r W) (r' : Loop) : LoopAt b r' (W.putObj (b + 1) (.loop r')) := ⟨World.putObj_heap_same h.lt, (World.putObj_heap_other (by omega)).trans h.calls⟩
theorem LoopAt.below {b : Nat} {r : Loop} {W W' : World} (h : LoopAt b r W) (hb : Below W.heap.size W W') : LoopAt b r W' := ⟨Below.keepOld hb h.loop, Below.keepOld hb h.calls⟩
variable {P : Program}
theorem rangeG {α : Type} {g : Operand} {ps : Array Tmp} {assign body : Code} {Q : Exit → Act → World → Prop} {a : Act} {w w0 : World} {n : Nat} (_h1 : 1 ≤ n)
  {gf : Nat} {lb : Array Value} (hg : a.eval g = .func (.func gf) #[] lb) (eg : ∀ args w, (callFunc gf args).run P w = .ok (.enter gf args) w)
  {encs : α → Array Value} {T : Nat → Prop} {G : List α → α → World → Prop} {S Sp : List α → Prop} (hseq : SeqG P (n - 1) gf lb encs T G S Sp w0) (hT : ∀ k, w.heap.size ≤ k → T k) (hb0 : Below w0.heap.size w0 w) (hps : ∀ x, (encs x).size = ps.size)
  (hG : OwnFrom w.heap.size (fun (s : List α × α) W => G s.1 s.2 W)) (I : List α → World → Prop) (Ix : Code → List α → World → Prop) (hI : OwnFrom w.heap.size I) (hIx : ∀ c, OwnFrom w.heap.size (Ix c)) (h0 : I [] w) (a₁ : α → Act)
  (hassign : ∀ (l : Nat) (x : α) (W : World) (K : Act → World → Prop), K (a₁ x) W →
   assign.wpIn (Fence.wide.inRound l) (n - 1 - 1) P (Exit.then K (fun _ _ _ => False)) { tmps := (ps.zip (encs x)).foldl (fun t (p, v) => t.setIfInBounds p v) a.tmps, defers := [] } W)
  (hbody : ∀ (l : Nat) (pre : List α) (x : α) (W : World), I pre W → G pre x W → body.wpIn (Fence.wide.inRound l) (n - 1 - 1) P (roundEnd w.heap.size T I Ix (pre ++ [x]) W) (a₁ x) W)
  (hdone : ∀ (D : Nat) (xs : List α) (W : World), w.heap.size ≤ D → S xs → I xs W → W.heap[D]? = some (.deferred (some [])) → Q .normal { a with defers := { target := .collected D, args := #[] } :: a.defers } W)
  (hstop : ∀ (D : Nat) (c : Code) (pre : List α) (W : World), w.heap.size ≤ D → Sp pre → Ix c pre W → W.heap[D]? = some (.deferred (some [])) → c.wpIn Fence.wide n P Q { a with defers := { target := .collected D, args := #[] } :: a.defers } W) :
  (Code.rangeFunc g ps assign body).wpIn Fence.wide n P Q a w := by
 refine wpIn_rangeFunc fun fn hfn => ?_
 obtain ⟨b, hb⟩ : ∃ b, w.heap.size = b := ⟨_, rfl⟩
 let rec' : LoopState → Option Code → Loop := fun st pe => { state := st, pending := pe, fn, tmps := a.tmps, params := ps, assign, body, defers := b }
 obtain ⟨W1, hW1⟩ : ∃ W1, W1 = (w.alloc (.deferred (some []))).alloc (.loop (rec' .ready none)) := ⟨_, rfl⟩
 have hsz : W1.heap.size = b + 2 := by rw [hW1]; simp [hb]
 have hL1 : LoopAt b (rec' .ready none) W1 := by
  rw [hW1, ← hb]
  exact ⟨by have := World.alloc_heap_new (w.alloc (.deferred (some []))) (.loop (rec' .ready none)); rwa [World.size_alloc] at this, (Below.heap_alloc _ _ _ (by simp)).trans (World.alloc_heap_new w _)⟩
 have hww : Below w.heap.size w W1 := by rw [hW1]; exact ((Below.refl _ w).alloc (Nat.le_refl _) _).alloc (by simp) _
 rw [hb] at hI hIx hG hT hbody hdone hstop
 have turn : ∀ {s : List α} {W : World} {r : Loop} (r' : Loop), I s W → LoopAt b r W → I s (W.putObj (b + 1) (.loop r')) := fun r' hi hl => hI.putObj _ hi (by omega) hl.loop rfl
 have turnB : ∀ {W : World} {r : Loop} (r' : Loop), LoopAt b r W → Turns T W (W.putObj (b + 1) (.loop r')) := fun {W} {r} r' hl =>
  Turns.grown (grownBy_putObj' W (b + 1) _) (fun k e => by cases e; exact hT _ (by omega))
 refine ⟨b + 1, [{ target := .collected b, args := #[] }], W1, { target := .fn (.func gf) lb, args := #[.func (.yield (b + 1)) #[] #[]] }, W1, gf, #[.func (.yield (b + 1)) #[] #[]] ++ lb, W1, ?_, ?_, fun _ _ => trivial, ?_, fun h => by simp [Fence.wide] at h, ?_⟩
 ·have := run_enterLoop_outer (P := P) (w := w) fn a.tmps ps assign body
  rw [hb] at this
  rw [hW1]
  exact this
 ·simp only [resolve, hg]
  simp [go_sem]
 ·simp [invoke, go_sem, eg]
 refine (hseq (b + 1) (fun pre W => I pre W ∧ LoopAt b (rec' .ready none) W) (fun pre W => ∃ c, Ix c pre W ∧ LoopAt b (rec' .done (some c)) W) W1
  (hb0.trans (hww.mono hb0.size)) (fun s A B hs hbl => ⟨ownFrom_grow hI hs.1 hbl, hs.2.below hbl⟩) (fun s A B ⟨c, hc, hl⟩ hbl => ⟨c, ownFrom_grow (hIx c) hc hbl, hl.below hbl⟩) ?_ ⟨ownFrom_grow hI h0 hww, hL1⟩).mono ?_
 ·rintro pre x W ⟨hi, hl⟩ hx
  refine ⟨fn, _, assign, body, run_yield (P := P) (args := encs x) hl.loop (hps x), roundIn_of_wpIn hfn (hassign _ x W _ ⟨_, run_beginRound hl.loop rfl, ?_⟩)⟩
  have hx2 : G pre x (W.putObj (b + 1) (.loop { rec' .ready none with state := .busy })) := hG.putObj (s := (pre, x)) _ hx (by omega) hl.loop rfl
  refine wpIn_mono (hbody _ pre x _ (turn _ hi hl) hx2) ?_
  have hl2 := hl.set { rec' .ready none with state := .busy }
  have leave : ∀ (c : Code) (W3 : World), KeepsFrom b (W.putObj (b + 1) (.loop { rec' .ready none with state := .busy })) W3 → Ix c (pre ++ [x]) W3 →
    ∃ v w', (Instr.endRound (b + 1) (some c)).run P W3 = .ok v w' ∧ (fun (e : Ending) (W' : World) => (e = .returned (.bool true) ∧ (I (pre ++ [x]) W' ∧ LoopAt b (rec' .ready none) W') ∧ Turns T W W') ∨ (e = .returned (.bool false) ∧ ∃ c, Ix c (pre ++ [x]) W' ∧ LoopAt b (rec' .done (some c)) W')) (.returned v) w' := fun c W3 hk hc => by
   have hl3 := hl2.keep hk
   exact ⟨_, _, run_endRound (P := P) (some c) hl3.loop, .inr ⟨rfl, c, (hIx c).putObj _ hc (by omega) hl3.loop rfl, hl3.set _⟩⟩
  rintro e a3 W3 hp
  cases e with
  | normal =>
   have hl3 := hl2.keep hp.1
   exact ⟨_, _, run_endRound (P := P) none hl3.loop, .inl ⟨rfl, ⟨turn _ hp.2.2 hl3, hl3.set _⟩, ((turnB _ hl).trans hp.2.1 (fun _ _ h => h)).trans (turnB _ hl3) (fun _ _ h => h)⟩⟩
  | ret => exact leave .ret W3 hp.1 hp.2
  | exit id => exact leave (.exit id) W3 hp.1 hp.2
  | goto t => exact leave (.goto t) W3 hp.1 hp.2
  | panic ch => exact hp.elim
  | outgrown => exact hp.elim
 ·rintro e W2 ⟨⟨v, rfl⟩, ⟨xs, hS, hi, hl⟩ | ⟨pre, hS, c, hi, hl⟩⟩
  ·exact ⟨none, _, run_endLoop (P := P) hl.loop (by simp [rec']), hdone _ xs _ (Nat.le_refl _) hS (turn _ hi hl) (hl.set _).calls⟩
  ·exact ⟨some c, _, run_endLoop (P := P) hl.loop (by simp [rec']), hstop _ c pre _ (Nat.le_refl _) hS ((hIx c).putObj _ hi (by omega) hl.loop rfl) (hl.set _).calls⟩
end Go.Mir
namespace Go.Proofs.YtnejjfglkindjaaGreatDoor.Frm
open Go.RowKit Go.Mir Go.Mir.Parts Go.Shelf Wr Cod Cut Rdr
attribute [local go_sem] Oper.semAt_some
theorem all_any (p : Option Addr) (n c : Nat) (w : World) :
  Calls Tryz.prog 126 #[.slice p n c] w fun e w' => e = .returned (.func (.func 131) #[] #[.pointer (some ⟨w.heap.size, 0, none⟩)]) ∧ w' = w.alloc (.cells #[.slice p n c] 22) := by
 go_enter Tryz.func126, Tryz.ntmps126
 go_wp2_with fail
 go_ret
 exact ⟨rfl, rfl⟩
structure FX where
 at_ : Nat
 p : Option Addr
 c : Nat
 body : List UInt8
def FX.enc (x : FX) : Array Value := #[.int .i64 (x.at_ : Int), .slice x.p x.body.length x.c]
def bodies (xs : List FX) : List (List UInt8) := xs.map (·.body)
theorem bodies_snoc (xs : List FX) (x : FX) : bodies (xs ++ [x]) = bodies xs ++ [x.body] := by simp [bodies]
def FG (l : List UInt8) (n₀ : Nat) (pre : List FX) (x : FX) (W : World) : Prop := (At l (bodies pre) x.at_ ∧ (one (l.drop x.at_)).2.2 = 0 ∧ x.body = (one (l.drop x.at_)).1) ∧ W.ownsRow n₀ 5 1 (.slice x.p x.body.length x.c) x.body.length (bytesV x.body)
theorem own_own {β : Type} (n₀ e size : Nat) (v : β → Value) (k : β → Nat) (f : β → List Value) : Own (fun s W => W.ownsRow n₀ e size (v s) (k s) (f s)) := by
 rintro s X Y row hr hg hrow
 refine hr.kept hg ?_
 rcases hr.2 with ⟨h0, _⟩ | ⟨g, cap, cur, hv, _, hgb, _⟩
 ·exact .inl (by rw [h0]; rfl)
 ·refine .inr fun e' => ?_
  rw [hv] at e'
  obtain ⟨o, ho, hc⟩ := hrow g (by simpa [Value.ownBlock] using e'.symm)
  rw [hgb] at ho; cases ho; cases hc
theorem fg_own (l : List UInt8) (n₀ B : Nat) : OwnFrom B (fun (s : List FX × FX) W => FG l n₀ s.1 s.2 W) :=
 fun s A C row hs hg hr => ⟨hs.1, (own_own (β := List FX × FX) n₀ 5 1 (fun s => .slice s.2.p s.2.body.length s.2.c) (fun s => s.2.body.length) (fun s => bytesV s.2.body)) s A C row hs.2 hg (fun r e => (hr r e).2)⟩
def FT (n₀ Bn : Nat) (k : Nat) : Prop := n₀ ≤ k ∧ ¬ k = Bn
set_option maxRecDepth 100000 in
set_option maxHeartbeats 2000000 in
theorem all1_seq (m : Nat) (hm : 1 ≤ m) (Bn n₀ b₀ : Nat) (p : Option Addr) (n c : Nat) (l : List UInt8) (w : World) (hE : EType w) (hE0 : 0 < n₀) (hn0 : b₀ ≤ w.heap.size) (hc : w.cell? ⟨Bn, 0, none⟩ = some (.slice p n c)) (hB : ∀ W', Turns (FT n₀ Bn) w W' → Bs W' p n c l) (hn : n ≤ 1000000) :
  SeqG Tryz.prog m 131 #[.pointer (some ⟨Bn, 0, none⟩)] FX.enc (FT n₀ Bn) (FG l b₀) (fun xs => ∃ k, At l (bodies xs) k ∧ ¬ (one (l.drop k)).2.2 = 0) (fun _ => True) w := by
 intro y J Jx W hW hJ hJx hY h0
 have HB := Lib.hid hB
 have hb0 := hB w (Turns.refl _ _)
 have HN := Lib.hid hb0.length
 have hle := hb0.le
 have hmax := hb0.max
 have HE := Lib.hid hE
 have HW := Lib.hid (Turns.of_below (S := FT n₀ Bn) hW)
 have HY := Lib.hid hY
 clear hB hb0 hE hW hY
 refine callsIn_of_wp Tryz.func131 rfl trivial ?_ rfl
 simp only [Tryz.ntmps131, List.size_toArray, List.length_cons, List.length_nil, Nat.reduceAdd, Nat.reduceSub, Array.replicate_succ, Array.replicate_zero, List.push_toArray, List.append_toArray, List.nil_append, List.cons_append]
 gi_wp2
 gi_loopw [3] (fun i wr => ∃ (k : Nat) (pre : List FX), i = .int .i64 k ∧ At l (bodies pre) k ∧ J pre wr ∧ Turns (FT n₀ Bn) w wr) (fun i _ => n - (intOf i).toNat)
 case atStart => exact ⟨0, [], rfl, At.zero l, h0, HW.out⟩
 case round =>
  obtain ⟨k, pre, rfl, hat, hJp, htu⟩ := hrel
  have hk : k ≤ n := by rw [← HN.out]; exact hat.1
  have HAT := Lib.hid hat
  have HJ := Lib.hid hJp
  have HT := Lib.hid htu
  have hcc := htu.cell hc (fun h => h.2 rfl)
  have hbs := HB.out wr htu
  have hcut := cutR hbs k (k : Int) rfl hk
  have hE1 : EType wr := htu.cell HE.out (fun h => Nat.not_le_of_lt hE0 h.1)
  have hone := one_any _ _ _ _ wr hE1 (bs_drop hbs k hk) (by omega)
  have HONE := Lib.hid hone
  clear hat hJp htu hbs hone hE1
  gi_wp2_with fail
  refine ⟨trivial, ?_⟩
  refine (callsIn_wide.2 HONE.out).mono ?_
  rintro e w1 ⟨p1, c1, rfl, ho1, hb1⟩
  have HJ1 := Lib.hid (hJ _ _ _ HJ.out hb1)
  have HT1 := Lib.hid (HT.out.trans (Turns.of_below (S := FT n₀ Bn) hb1) (fun _ _ h => h))
  have HSZ := Lib.hid HT.out.size
  have HO1 := Lib.hid ho1
  obtain ⟨body, mm, ev, hoe⟩ : ∃ body mm ev, one (l.drop k) = (body, mm, ev) := ⟨_, _, _, rfl⟩
  clear ho1 hb1 HONE HJ HT hcut
  rw [hoe] at HO1 ⊢
  have HOE := Lib.hid hoe
  clear hoe
  by_cases hev : ev = 0
  ·subst hev
   have hok := one_ok (l := l.drop k) (by rw [HOE.out])
   have hnx := HAT.out.next (by rw [HOE.out])
   rw [HOE.out] at hok hnx
   rw [List.length_drop, HN.out] at hok
   dsimp only at hok hnx
   have HOK := Lib.hid hok
   obtain ⟨ok1, ok2, _⟩ := hok
   have hx : FG l b₀ pre ⟨k, p1, c1, body⟩ w1 := ⟨⟨HAT.out, by rw [HOE.out], by rw [HOE.out]⟩, own_base HO1.out (fun i hi => by have h1 := (HO1.out.lt i hi).1; have h2 := HSZ.out; omega)⟩
   obtain ⟨fn, tmps, assign, bod, hy, hR⟩ := HY.out pre ⟨k, p1, c1, body⟩ w1 HJ1.out hx
   dsimp only [FX.enc] at hy
   have HR := Lib.hid hR
   have HNX := Lib.hid hnx
   have hw : IntKind.i64.wrap ((k : Int) + (mm : Int)) = ((k + mm : Nat) : Int) := by rw [IntWalk.i64_in _ (by omega)]; omega
   clear hnx HOE HAT hR hx
   gi_wp2_with fail
   refine HR.out.mono ?_
   rintro e w2 (⟨rfl, hJ2, hk2⟩ | ⟨rfl, hJ2⟩)
   ·have HT2 := Lib.hid (HT1.out.trans hk2 (fun _ _ h => h))
    have HJ2 := Lib.hid hJ2
    clear hJ2 hk2 HJ1 HT1 HR
    gi_wp2
    go_roundw
    case rel => exact ⟨k + mm, _, by go_num, by rw [bodies_snoc]; exact HNX.out, HJ2.out, HT2.out⟩
    case measure => simp [intOf]; omega
   ·have HJ2 := Lib.hid hJ2
    clear hJ2 HJ1 HT1 HR
    gi_wp2
    refine bodyPost_ret (results_none rfl _ _ _) rfl ?_
    exact ⟨⟨_, rfl⟩, .inr ⟨_, trivial, HJ2.out⟩⟩
  ·have hz : (ev != 0) = true := by rw [bne_iff_ne]; exact hev
   have HS : Hid (∃ k, At l (bodies pre) k ∧ ¬ (one (l.drop k)).2.2 = 0) := ⟨k, HAT.out, by rw [HOE.out]; exact hev⟩
   clear hev HOE HAT
   gi_wp2_with fail
   refine ⟨fun _ h => (by cases h), ?_⟩
   gi_wp2
   refine bodyPost_ret (results_none rfl _ _ _) rfl ?_
   exact ⟨⟨_, rfl⟩, .inl ⟨pre, HS.out, HJ1.out⟩⟩
end Go.Proofs.YtnejjfglkindjaaGreatDoor.Frm
namespace Go.Proofs.YtnejjfglkindjaaGreatDoor.Frm
open Go.RowKit Go.Mir Go.Mir.Parts Go.Shelf Wr Cod Cut Rdr
attribute [local go_sem] Oper.semAt_some
theorem own_kept {w w' : World} {base e size n : Nat} {v : Value} {vs : List Value} (h : w.ownsRow base e size v n vs) {row : Option Nat} (hg : w.grownBy w' row) (hr : ∀ r, row = some r → ∃ o : Obj, w.heap[r]? = some o ∧ o.isCells = false) : w'.ownsRow base e size v n vs :=
 (own_own (β := Unit) base e size (fun _ => v) (fun _ => n) (fun _ => vs)) () _ _ row h hg hr
theorem ls_kept {w w' : World} {base : Nat} {v : Value} {ls : List (List UInt8)} (h : LsO w base v ls) {row : Option Nat} (hg : w.grownBy w' row) (hr : ∀ r, row = some r → ∃ o : Obj, w.heap[r]? = some o ∧ o.isCells = false) : LsO w' base v ls := by
 obtain ⟨hs, h1, h2⟩ := h.all
 refine ⟨hs, own_kept h1 hg hr, fun j hj => ?_⟩
 obtain ⟨q, k, a, b⟩ := h2 j hj
 exact ⟨q, k, a, own_kept b hg hr⟩
theorem boxed_kept {w w' : World} {B : Nat} {t : TypeId} {v : Value} (h : Boxed w B t v) {row : Option Nat} (hg : w.grownBy w' row) (hr : ∀ r, row = some r → ∃ o : Obj, w.heap[r]? = some o ∧ o.isCells = false) : Boxed w' B t v :=
 h.kept hg (fun e => by
  obtain ⟨o, ho, hc⟩ := hr B e.symm
  rw [show w.heap[B]? = _ from h] at ho; cases ho; cases hc)
structure SI (w : World) (l : List UInt8) (pre : List FX) (W : World) : Prop where
 out : ∃ v, Boxed W w.heap.size 31 v ∧ LsO W (w.heap.size + 3) v (bodies pre)
 stop : ∃ k : Nat, Boxed W (w.heap.size + 1) 3 (.int .i64 (k : Int)) ∧ At l (bodies pre) k
 low : Below w.heap.size w W
 big : w.heap.size + 3 ≤ W.heap.size
theorem si_own (w : World) (l : List UInt8) (B : Nat) (hB : w.heap.size ≤ B) : OwnFrom B (SI w l) := fun s A C row hs hg hr => by
 have hr' : ∀ r, row = some r → ∃ o : Obj, A.heap[r]? = some o ∧ o.isCells = false := fun r e => (hr r e).2
 obtain ⟨⟨v, b1, l1⟩, ⟨k, b2, a2⟩, lo, bg⟩ := hs
 exact ⟨⟨v, boxed_kept b1 hg hr', ls_kept l1 hg hr'⟩, ⟨k, boxed_kept b2 hg hr', a2⟩, lo.grown hg lo.size (fun k e => by have := (hr k e).1; omega), Nat.le_trans bg hg.size⟩
def ScanO (l : List UInt8) (w : World) (e : Ending) (w' : World) : Prop := ∃ v, e = .returned (.tuple #[v, .int .i64 ((scan l).2 : Int)]) ∧ LsO w' w.heap.size v (scan l).1 ∧ Below w.heap.size w w'
theorem LsO.low {w : World} {base base' : Nat} {v : Value} {ls : List (List UInt8)} (h : LsO w base v ls) (hb : base' ≤ base) : LsO w base' v ls := by
 obtain ⟨hs, h1, h2⟩ := h.all
 exact ⟨hs, own_base h1 (fun k hk => by have := (h1.lt k hk).1; omega), fun j hj => by
  obtain ⟨q, k, a, b⟩ := h2 j hj
  exact ⟨q, k, a, own_base b (fun i hi => by have := (b.lt i hi).1; omega)⟩⟩
set_option maxRecDepth 100000 in
set_option maxHeartbeats 2000000 in
theorem scanO_any (p : Option Addr) (n c : Nat) (l : List UInt8) (w : World) (hE : EType w) (hB : Bs w p n c l) (hpb : 0 < n → ∀ a, p = some a → a.block < w.heap.size) (hn : n ≤ 1000000) :
  Calls Tryz.prog 112 #[.slice p n c] w (ScanO l w) := by
 have HB := Lib.hid hB
 have HN := Lib.hid hB.length
 have hle := hB.le
 have hmax := hB.max
 refine (callsIn_wide (n := 9)).1 ?_
 refine callsIn_of_wp_marks Tryz.func112 rfl trivial ?_ rfl
 simp only [Tryz.ntmps112, List.size_toArray, List.length_cons, List.length_nil, Nat.reduceAdd, Nat.reduceSub, Array.replicate_succ, Array.replicate_zero, List.push_toArray, List.append_toArray, List.nil_append, List.cons_append]
 gi_wp2_with (refine ⟨trivial, ?_⟩; gi_at_call 126; refine (callsIn_wide.2 (all_any p n c _)).mono ?_; rintro e w' ⟨rfl, rfl⟩)
 have bO := Boxed.new w 31 (.slice none 0 0)
 have bE := Boxed.new (w.alloc (.cells #[.slice none 0 0] 31)) 3 (.int .i64 0)
 have bN := Boxed.new ((w.alloc (.cells #[.slice none 0 0] 31)).alloc (.cells #[.int .i64 0] 3)) 22 (.slice p n c)
 rw [World.size_alloc] at bE
 rw [World.size_alloc, World.size_alloc] at bN
 have hB0 : Below w.heap.size w (((w.alloc (.cells #[.slice none 0 0] 31)).alloc (.cells #[.int .i64 0] 3)).alloc (.cells #[.slice p n c] 22)) := (((Below.refl _ w).alloc (Nat.le_refl _) _).alloc (by simp) _).alloc (by simp; omega) _
 have hs0 : (((w.alloc (.cells #[.slice none 0 0] 31)).alloc (.cells #[.int .i64 0] 3)).alloc (.cells #[.slice p n c] 22)).heap.size = w.heap.size + 3 := by simp
 have bO := (bO.alloc (.cells #[.int .i64 0] 3)).alloc (.cells #[.slice p n c] 22)
 have bE := bE.alloc (.cells #[.slice p n c] 22)
 generalize ((w.alloc (.cells #[.slice none 0 0] 31)).alloc (.cells #[.int .i64 0] 3)).alloc (.cells #[.slice p n c] 22) = W0 at *
 have hE0 := hE.lt
 have hseq := all1_seq 8 (by omega) (w.heap.size + 2) w.heap.size (w.heap.size + 3) p n c l W0 (hE.below hB0 hE0) hE0 (by omega) bN.cell (fun W' ht => bs_touch (hB.below hB0) ht (fun h0 a ha h => by have := hpb h0 a ha; have := h.1; omega)) hn
 have HSI : Hid (SI w l [] W0) := ⟨⟨_, bO, LsO.nil _ _⟩, ⟨0, bE, At.zero l⟩, hB0, by omega⟩
 refine rangeG (by omega) rfl (enters_of Tryz.func131 (by kernel_rfl) rfl) hseq (fun k hk => ⟨by omega, by omega⟩) (Below.refl _ _) (fun _ => rfl) (fg_own l _ _) (SI w l) (fun _ _ _ => False) (si_own w l _ (by omega)) (fun _ _ _ _ _ hs _ _ => hs) HSI.out
  (fun x => { tmps := #[.slice p n c, undef, .slice none 0 0, .int .i64 0, .pointer (some ⟨w.heap.size, 0, none⟩), .pointer (some ⟨w.heap.size + 1, 0, none⟩), .int .i64 (x.at_ : Int), .slice x.p x.body.length x.c, .slice p n c, .func (.func 131) #[] #[.pointer (some ⟨w.heap.size + 1 + 1, 0, none⟩)], .int .i64 (x.at_ : Int), .slice x.p x.body.length x.c, undef, undef, undef, undef, undef, undef, undef, undef, undef, undef], defers := [] }) ?assign ?body ?done ?stop
 case assign =>
  intro l x W K hK
  unfold FX.enc
  gi_wp2
  exact hK
 case body =>
  rintro L pre x W ⟨⟨v, b1, l1⟩, ⟨k, b2, a2⟩, lo, hWs⟩ ⟨⟨g1, g2, g3⟩, g4⟩
  have hc1 := b1.cell
  have hf1 := b1.frozen
  have hc2 := b2.cell
  have hf2 := b2.frozen
  obtain ⟨hs, h1, h2⟩ := l1.all
  obtain ⟨i0, hi, hz0, hz1, hz2⟩ := info_parts infoS
  have hpl : 9 * (bodies pre).length ≤ x.at_ ∧ x.at_ ≤ n := by have := g1.1; have := g1.2.1.1; have := hB.length; omega
  have hnx := g1.next g2
  rw [← g3, ← bodies_snoc] at hnx
  have hsz1 := one_ok g2
  rw [← g3] at hsz1
  obtain ⟨sz1, sz2, sz3, _⟩ := hsz1
  rw [sz3] at hnx
  rw [List.length_drop, hB.length] at sz2
  have hxl : x.body.length ≤ 1000000 := by omega
  have HNX := Lib.hid hnx
  clear hnx g1 g2 g3
  gi_wp2_with (first
   | (gi_at_builtin; refine wpListIn_append_own _ rfl _ _ 31 rfl (w.heap.size + 3) 22 i0 (.slice none 0 0) 1 24 Tryz.underlying31 hi hz0 hz1 hz2 rfl (by decide) _ _ _ rfl (h1.alloc _) ⟨W.heap.size, 0, none⟩ 1 1 [.slice x.p x.body.length x.c] rfl rfl (cell_one_new _ _ _) (by simp [Value.oneCell']) (by simp [maxLen]; omega) (by omega) (by simp; omega) ?_; intro v' w1 hown' hgrow _; obtain ⟨g', cap', rfl⟩ := ownsRow_succ hown'; obtain ⟨hv1, hv2, hr2, hk2, hb2⟩ := b1.appended (by decide) (own_base (base' := w.heap.size) h1 (fun i hi => by have := (h1.lt i hi).1; omega)) lo.size (Nat.le_refl _) (own_base (base' := w.heap.size) hown' (fun i hi => by have := (hown'.lt i hi).1; omega)) hgrow; have hc1 := hv1.cell; have hf1 := hv1.frozen; have bE2 := ((b2.alloc _).kept hgrow (b2.not_row (by decide) h1)).other (show w.heap.size + 1 ≠ w.heap.size by omega) (.slice (some ⟨g', 0, none⟩) ((bodies pre).length + 1) cap'); have hc3 := bE2.cell; have hf3 := bE2.frozen)
   | (refine ⟨trivial, ?_⟩; gi_at_call 116; refine (CallsIn.inRound L (callsIn_wide.2 (size_any _ _ _ (by omega) _))).mono ?_; rintro e w' ⟨rfl, rfl⟩))
  have hpu := (LsO.push h1 h2 g4 hown' hgrow).set hv1 (by decide) (by decide) (.slice (some ⟨g', 0, none⟩) ((bodies pre).length + 1) cap')
  rw [← bodies_snoc] at hpu
  have hcast : (x.at_ : Int) + (8 + (x.body.length : Int)) = ((x.at_ + (8 + x.body.length) : Nat) : Int) := by omega
  rw [hcast]
  refine ⟨(hk2.from _).trans ((KeepsOthers.setCell _ _ _).from _), ?_, ⟨_, hv2.other (by omega) _, hpu.set bE2 (by decide) (by decide) _⟩, ⟨_, bE2.set _, HNX.out⟩, (lo.trans hb2).setCell (p := ⟨w.heap.size + 1, 0, none⟩) (by simp) _, ?_⟩
  rotate_left
  ·have := hgrow.size; simp [World.setCell] at this ⊢; omega
  exact (((Turns.of_below (Below.allocs W _)).trans (Turns.grown hgrow (fun i hi => ⟨by have := (h1.lt i hi).1; omega, by have := (h1.lt i hi).1; omega⟩)) (fun _ _ h => h)).setCell (p := ⟨w.heap.size, 0, none⟩) (fun _ => ⟨Nat.le_refl _, by simp⟩) _).setCell (p := ⟨w.heap.size + 1, 0, none⟩) (fun _ => ⟨by simp, by simp⟩) _
 case done =>
  rintro D xs W hD ⟨k, hk, hk2⟩ ⟨⟨v, b1, l1⟩, ⟨k1, b2, a2⟩, lo, hWs⟩ hK
  have hc1 := b1.cell
  have hc2 := b2.cell
  have hsc := hk.last hk2 a2
  have HSC := Lib.hid hsc
  clear hsc hk hk2 a2
  gi_wp2
  refine wpIn_wide.2 ?_
  go_region
  gi_wp2
  refine ⟨by simp, .inl ⟨_, _, rfl, run_takeDeferred (w := W.drew) hK, ?_⟩⟩
  have hput : Below w.heap.size w (W.drew.putObj D (.deferred none)) := lo.drew.trans (belowK_b (w := w) (Nat.le_refl _) W.drew D _ _ (by omega) hK rfl rfl)
  have hl2 := ls_kept (w := W.drew) (l1.below (below_drew1 _ _)) (w' := W.drew.putObj D (.deferred none)) (row := some D) (grownBy_putObj' W.drew D (.deferred none)) (fun r e => by cases e; exact ⟨_, hK, rfl⟩)
  refine ⟨_, results_tmp2 rfl _ _ _, v, by rw [HSC.out]; rfl, ?_, hput⟩
  rw [HSC.out]
  exact LsO.low hl2 (by omega)
 case stop =>
  rintro D c pre W _ _ h _
  exact h.elim
end Go.Proofs.YtnejjfglkindjaaGreatDoor.Frm
namespace Go.Proofs.YtnejjfglkindjaaGreatDoor.Frm
open Go.RowKit Go.Mir Go.Mir.Parts Wr Cod Cut Rdr
theorem bs_block {w : World} {p : Option Addr} {n c : Nat} {l : List UInt8} (h : Bs w p n c l) : 0 < n → ∀ a, p = some a → a.block < w.heap.size := fun h0 a ha => by
 obtain ⟨b, o, rfl⟩ := h.addr h0 (by omega)
 obtain rfl := Option.some.inj ha
 exact block_lt_of_cell (Bs.byte h (j := 0) (by have := h.length; omega))
set_option maxRecDepth 100000 in
set_option maxHeartbeats 1600000 in
theorem same_any (p p2 : Option Addr) (n c n2 c2 : Nat) (la lb : List (List UInt8)) (w : World) (hA : Pts w p n c la) (hB : Pts w p2 n2 c2 lb) :
  Calls Tryz.prog 57 #[.slice p n c, .slice p2 n2 c2] w fun e w' => e = .returned (.bool (la == lb)) ∧ Below w.heap.size w w' := by
 have HA := Lib.hid hA
 have HB := Lib.hid hB
 have ha := hA.le
 have hb := hB.le
 have ham := hA.max
 have hbm := hB.max
 obtain rfl : la.length = n := hA.len
 obtain rfl : lb.length = n2 := hB.len
 clear hA hB
 by_cases hl : la.length = lb.length
 ·have hlen : ((la.length : Int) == (lb.length : Int)) = true := by rw [beq_iff_eq]; omega
  have hlen2 : ((la.length : Int) != (lb.length : Int)) = false := by rw [bne_eq_false_iff_eq]; omega
  have HL := Lib.hid hl
  clear hl
  go_enter Tryz.func57, Tryz.ntmps57
  go_wp2_with fail
  go_loopw [5] (fun j wr => ∃ k : Nat, k ≤ la.length ∧ j = .int .i64 k ∧ la.take k = lb.take k ∧ Below w.heap.size w wr) (fun j _ => la.length - (intOf j).toNat)
  case atStart => exact ⟨0, by omega, rfl, rfl, Below.refl _ _⟩
  case round =>
   obtain ⟨k, hk, rfl, heq, hbw⟩ := hrel
   have HEQ := Lib.hid heq
   have HBW := Lib.hid hbw
   clear heq hbw
   by_cases hlt : k < la.length
   ·have hlt2 : k < lb.length := by rw [← HL.out]; exact hlt
    obtain ⟨b, o, rfl⟩ := HA.out.addr (by omega)
    obtain ⟨b2, o2, rfl⟩ := HB.out.addr (by omega)
    obtain ⟨q, m, d, e1, f1⟩ := (HA.out.below HBW.out).cell _ rfl k hlt
    obtain ⟨q2, m2, d2, e2, f2⟩ := (HB.out.below HBW.out).cell _ rfl k hlt2
    rw [add_none] at e1 e2
    have HST : Hid (la[k]'hlt = lb[k]'hlt2 → la.take (k + 1) = lb.take (k + 1)) := fun e => by rw [take_snoc la k hlt, take_snoc lb k hlt2, HEQ.out, e]
    have HNE : Hid (¬ la[k]'hlt = lb[k]'hlt2 → (la == lb) = false) := fun h => by
     rw [beq_eq_false_iff_ne]; intro e; subst e; exact h rfl
    generalize la[k]'hlt = x at *
    generalize lb[k]'hlt2 = y at *
    have hd : decide ((k : Int) < (la.length : Int)) = true := decide_eq_true (by omega)
    have HE1 : Hid (∀ w', Below wr.heap.size wr w' → w'.cell? ⟨b, o + k, none⟩ = some (.slice q m d)) := fun w' hb => cell_below e1 hb
    have HE2 : Hid (∀ w', Below wr.heap.size wr w' → w'.cell? ⟨b2, o2 + k, none⟩ = some (.slice q2 m2 d2)) := fun w' hb => cell_below e2 hb
    have HC1 : Hid (∀ w', Below wr.heap.size wr w' → (convert 22 9 (.slice q m d)).run Tryz.prog w' = .ok (.string (S x)) w') := fun w' hb => bconv (f1.below hb)
    have HC2 : Hid (∀ w', Below wr.heap.size wr w' → (convert 22 9 (.slice q2 m2 d2)).run Tryz.prog w' = .ok (.string (S y)) w') := fun w' hb => bconv (f2.below hb)
    clear e1 e2 f1 f2
    go_wp2_with fail
    refine wp_region_eager [(0, true), (1, true), (2, true), (3, true), (4, true), (5, true), (6, true), (7, true), (8, true), (9, true), (10, true)] (by kernel_rfl) (by kernel_rfl) (eagerOpen rfl ?_)
    repeat (first
     | ((first | (apply wpEager_take; (· rfl); (· (intro w' hb'; go_simp; try with_reducible rfl))) | refine wpEager_skip (by rfl) ?_ | refine wpEager_off (by rfl) ?_); (try simp only [Act.put, zA, zB, zC]); (try refine eagerOpen rfl ?_))
     | (apply wpEager_take; (· rfl); (· (intro w' hb'; have hk' := (fun w' hb => HE1.out w' hb) w' hb'; go_split_ands; go_simp; try with_reducible rfl)); (try simp only [Act.put, zA, zB, zC]); (try refine eagerOpen rfl ?_))
     | (apply wpEager_take; (· rfl); (· (intro w' hb'; have hk' := (fun w' hb => HE2.out w' hb) w' hb'; go_split_ands; go_simp; try with_reducible rfl)); (try simp only [Act.put, zA, zB, zC]); (try refine eagerOpen rfl ?_))
     | (apply wpEager_take; (· rfl); (· (intro w' hb'; have hk' := (fun w' hb => HC1.out w' hb) w' hb'; go_split_ands; go_simp; try with_reducible rfl)); (try simp only [Act.put, zA, zB, zC]); (try refine eagerOpen rfl ?_))
     | (apply wpEager_take; (· rfl); (· (intro w' hb'; have hk' := (fun w' hb => HC2.out w' hb) w' hb'; go_split_ands; go_simp; try with_reducible rfl)); (try simp only [Act.put, zA, zB, zC]); (try refine eagerOpen rfl ?_)))
    refine eagerEnd ?_
    have HBD : Hid (Below w.heap.size w wr.drew) := HBW.out.trans ((below_drew1 _ _).mono HBW.out.size)
    clear HE1 HE2 HC1 HC2
    by_cases hxy : x = y
    ·have hbq : (x == y) = true := by rw [beq_iff_eq]; exact hxy
     have HN := Lib.hid (HST.out hxy)
     clear hxy
     rw [hbq]
     simp only [Bool.not_true]
     go_wp2_with fail
     go_roundw
     case rel => exact ⟨k + 1, by omega, by go_num, HN.out, HBD.out⟩
     case measure => simp [intOf]; omega
    ·have hbq : (x == y) = false := by rw [beq_eq_false_iff_ne]; exact hxy
     have HN := Lib.hid (HNE.out hxy)
     clear hxy
     rw [hbq]
     simp only [Bool.not_false]
     go_wp2_with fail
     go_ret
     exact ⟨by rw [HN.out]; rfl, HBD.out⟩
   ·have HR : Hid ((la == lb) = true) := by
     show _ = _
     have h1 := HEQ.out
     rw [List.take_of_length_le (by omega), List.take_of_length_le (by rw [← HL.out]; omega)] at h1
     rw [beq_iff_eq]; exact h1
    have hd : decide ((k : Int) < (la.length : Int)) = false := decide_eq_false (by omega)
    go_wp2_with fail
    go_ret
    exact ⟨by rw [HR.out]; rfl, HBW.out⟩
 ·have hlen : ((la.length : Int) == (lb.length : Int)) = false := by rw [beq_eq_false_iff_ne]; omega
  have HR : Hid ((la == lb) = false) := by
   show _ = _
   rw [beq_eq_false_iff_ne]; intro e; exact hl (by rw [e])
  clear hl
  go_enter Tryz.func57, Tryz.ntmps57
  go_wp2_with fail
  go_ret
  exact ⟨by rw [HR.out]; rfl, Below.refl _ _⟩
end Go.Proofs.YtnejjfglkindjaaGreatDoor.Frm
namespace Go.Proofs.YtnejjfglkindjaaGreatDoor.CrcW
open Go.RowKit Go.Mir
end Go.Proofs.YtnejjfglkindjaaGreatDoor.CrcW
namespace Go.Proofs.YtnejjfglkindjaaGreatDoor.Frm
open Go.RowKit Go.Mir Go.Mir.Parts Wr Cod Cut Rdr
theorem frame_length (l : List UInt8) : (frame l).length = 8 + l.length := by unfold frame; simp only [List.length_append, be_length]
theorem frame_four (l : List UInt8) (r : List UInt8) : (frame l ++ r).take 4 = be l.length 4 := by
 unfold frame
 rw [List.append_assoc, List.append_assoc, List.take_append_of_le_length (by rw [be_length]; omega), List.take_of_length_le (by rw [be_length]; omega)]
theorem frame_body (l r : List UInt8) : ((frame l ++ r).drop 8).take l.length = l := by
 unfold frame
 rw [List.append_assoc, List.drop_append_of_le_length (by simp [be_length]), List.drop_of_length_le (by simp [be_length]), List.nil_append, List.take_append_of_le_length (by omega), List.take_of_length_le (by omega)]
theorem frame_take (l r : List UInt8) : (frame l ++ r).take (8 + l.length) = frame l := by
 rw [← frame_length, List.take_append_of_le_length (Nat.le_refl _), List.take_of_length_le (Nat.le_refl _)]
theorem one_frame (l r : List UInt8) (h1 : 1 ≤ l.length) (h2 : l.length ≤ 65536) : one (frame l ++ r) = (l, 8 + l.length, 0) := by
 have hv : beN ((frame l ++ r).take 4) = l.length := by rw [frame_four, beN_be _ _ (by omega) (by omega)]
 have hl : (frame l ++ r).length = 8 + l.length + r.length := by rw [List.length_append, frame_length]
 unfold one
 rw [hv, if_neg (by omega), if_neg (by omega), if_neg (by omega), frame_body, frame_take, if_pos rfl]
theorem one_frame0 (l : List UInt8) (h1 : 1 ≤ l.length) (h2 : l.length ≤ 65536) : one (frame l) = (l, 8 + l.length, 0) := by
 have := one_frame l [] h1 h2
 rwa [List.append_nil] at this
theorem one_torn (l : List UInt8) (h1 : 1 ≤ l.length) (h2 : l.length ≤ 65536) (k : Nat) (hk : k < 8 + l.length) : one ((frame l).take k) = ([], 0, 2) := by
 have hl : ((frame l).take k).length = k := by rw [List.length_take, frame_length]; omega
 unfold one
 by_cases h4 : k < 4
 ·rw [if_pos (by omega)]
 ·have hv : beN (((frame l).take k).take 4) = l.length := by
   rw [List.take_take, Nat.min_eq_left (by omega)]
   have := frame_four l []
   rw [List.append_nil] at this
   rw [this, beN_be _ _ (by omega) (by omega)]
  rw [hv, if_neg (by omega), if_neg (by omega), if_pos (by omega)]
theorem scan_frames (t : List UInt8) (ht : ¬ (one t).2.2 = 0) : ∀ (ls : List (List UInt8)), (∀ x ∈ ls, 1 ≤ x.length ∧ x.length ≤ 65536) → scan (ls.flatMap frame ++ t) = (ls, (ls.flatMap frame).length)
 | [], _ => by rw [List.flatMap_nil, List.nil_append, scan_no ht]; rfl
 | x :: r, h => by
  have hx := h x (by simp)
  have ih := scan_frames t ht r (fun y hy => h y (by simp [hy]))
  have ho := one_frame x (r.flatMap frame ++ t) hx.1 hx.2
  rw [← List.append_assoc] at ho
  rw [List.flatMap_cons, scan_ok (by rw [ho]), ho]
  dsimp only
  have hd : ((frame x ++ r.flatMap frame ++ t)).drop (8 + x.length) = r.flatMap frame ++ t := by
   rw [List.append_assoc, ← frame_length, List.drop_append_of_le_length (Nat.le_refl _), List.drop_of_length_le (Nat.le_refl _), List.nil_append]
  rw [hd, ih, List.length_append, frame_length]
end Go.Proofs.YtnejjfglkindjaaGreatDoor.Frm
namespace Go.Proofs.YtnejjfglkindjaaGreatDoor.Rol
open Go.RowKit Go.Mir Dk
open Frm (frame scan one frame_length scan_frames scan_ok scan_no one_torn one_frame one_frame0)
theorem scan_len : ∀ (n : Nat) (l : List UInt8), l.length ≤ n → (scan l).2 ≤ l.length ∧ l.take (scan l).2 = (scan l).1.flatMap frame ∧ ∀ x ∈ (scan l).1, 1 ≤ x.length ∧ x.length ≤ 65536
 | 0, l, hn => by
  have hl : l = [] := List.length_eq_zero_iff.1 (by omega)
  subst hl
  rw [scan_no (by decide)]
  exact ⟨Nat.le_refl _, rfl, fun x hx => (nomatch hx)⟩
 | n + 1, l, hn => by
  by_cases ho : (one l).2.2 = 0
  ·obtain ⟨a1, a2, a3, a4, a5, a6⟩ := Frm.one_ok ho
   have hdl : (l.drop (one l).2.1).length = l.length - (one l).2.1 := List.length_drop
   obtain ⟨b1, b2, b3⟩ := scan_len n (l.drop (one l).2.1) (by omega)
   rw [scan_ok ho]
   dsimp only
   refine ⟨by omega, ?_, fun x hx => ?_⟩
   ·rw [List.flatMap_cons, a4, ← b2, List.take_add]
   ·rcases List.mem_cons.1 hx with hx | hx
    ·subst hx; exact ⟨a5, a6⟩
    ·exact b3 x hx
  ·rw [scan_no ho]
   exact ⟨Nat.zero_le _, by rw [List.take_zero]; rfl, fun x hx => (nomatch hx)⟩
theorem scan_le (l : List UInt8) : (scan l).2 ≤ l.length := (scan_len _ l (Nat.le_refl _)).1
def fD (d : DD) (i : Nat) : FD := (d.fs[i]?).getD FD.none
theorem fD_eq {d : DD} {i : Nat} (h : i < d.fs.length) : d.fs[i] = fD d i := by
 unfold fD; rw [List.getElem?_eq_getElem h]; rfl
def appD (d : DD) (i : Nat) (b : List UInt8) : DD :=
 if b.length = 0 then d else if doE d i (fD d i) (.put (frame b)) = 0 then syncD (doD d i (fD d i) (.put (frame b))) i (fD (doD d i (fD d i) (.put (frame b))) i) else doD d i (fD d i) (.put (frame b))
def appE (d : DD) (i : Nat) (b : List UInt8) : Int :=
 if b.length = 0 then 1 else if doE d i (fD d i) (.put (frame b)) = 0 then syncE (doD d i (fD d i) (.put (frame b))) else doE d i (fD d i) (.put (frame b))
def clrD (d : DD) (i m : Nat) : DD :=
 if doE d i (fD d i) (.cut m) = 0 then syncD (doD d i (fD d i) (.cut m)) i (fD (doD d i (fD d i) (.cut m)) i) else doD d i (fD d i) (.cut m)
def clrE (d : DD) (i m : Nat) : Int :=
 if doE d i (fD d i) (.cut m) = 0 then syncE (doD d i (fD d i) (.cut m)) else doE d i (fD d i) (.cut m)
def endD (d : DD) (i : Nat) : DD := if unitsAll (fD d i).steps = 0 then d else syncD d i (fD d i)
def endE (d : DD) (i : Nat) : Int := if unitsAll (fD d i).steps = 0 then 0 else syncE d
def mendD (d : DD) (i : Nat) : DD :=
 if (scan (fD d i).now).2 < (fD d i).now.length then (if doE d i (fD d i) (.cut (scan (fD d i).now).2) = 0 then endD (doD d i (fD d i) (.cut (scan (fD d i).now).2)) i else doD d i (fD d i) (.cut (scan (fD d i).now).2)) else endD d i
def mendE (d : DD) (i : Nat) : Int :=
 if (scan (fD d i).now).2 < (fD d i).now.length then (if doE d i (fD d i) (.cut (scan (fD d i).now).2) = 0 then endE (doD d i (fD d i) (.cut (scan (fD d i).now).2)) i else doE d i (fD d i) (.cut (scan (fD d i).now).2)) else endE d i
def fS (x : List UInt8) : FD := ⟨x, x, [], x.length⟩
theorem app_nil (d : DD) (i : Nat) (b : List UInt8) (hb : b.length = 0) : appE d i b = 1 ∧ appD d i b = d := by
 unfold appE appD
 rw [if_pos hb, if_pos hb]
 exact ⟨rfl, rfl⟩
end Go.Proofs.YtnejjfglkindjaaGreatDoor.Rol
namespace Go.Proofs.YtnejjfglkindjaaGreatDoor.Rol
open Go.RowKit Go.Mir Go.Mir.Parts Dk
open Cut (LsO LsA)
def DTy (base : Nat) (w : World) (k : Nat) : Prop := base ≤ k ∧ ∃ M t fr, w.heap[k]? = some (.cells M t fr) ∧ (t = 105 ∨ t = 165)
theorem dat_dty {w : World} {base db : Nat} {vs : List FV} {d : DD} (h : DAt w base db vs d) : ∀ k, DOwn db vs k → DTy base w k := by
 intro k hs
 refine ⟨(h.ownLt k hs).1, ?_⟩
 rcases hs with rfl | ⟨v, hv, hs⟩
 ·exact ⟨_, _, _, h.row, .inl rfl⟩
 ·obtain ⟨i, hi⟩ := List.mem_iff_getElem?.1 hv
  have hlt : i < d.fs.length := by rw [h.m3, ← h.n3]; exact (List.getElem?_eq_some_iff.1 hi).1
  obtain ⟨vals, ho, _⟩ := (h.each i v _ hi (List.getElem?_eq_getElem hlt)).steps
  rcases ho.2 with ⟨e, _⟩ | ⟨g, cap, cur, e, _, hg, _⟩
  ·rw [e] at hs; simp [Value.ownBlock] at hs
  ·rw [e] at hs
   simp [Value.ownBlock] at hs
   subst hs
   exact ⟨_, _, _, hg, .inr rfl⟩
def DX (base db : Nat) (d : DD) (w : World) : Prop := base ≤ w.heap.size ∧ ∃ vs, DAt w base db vs d
def KT (base : Nat) (w w' : World) : Prop := Turns (DTy base w) w w'
theorem KT.refl (base : Nat) (w : World) : KT base w w := Turns.refl _ _
theorem KT.trans {base : Nat} {a b c : World} (h : KT base a b) (k : KT base b c) : KT base a c :=
 ⟨k.os.trans h.os, k.tape.trans h.tape, k.output.trans h.output, Nat.le_trans h.size k.size, fun i hi hS => by
  have e1 := h.block i hi hS
  have hS2 : ¬ DTy base b i := fun h' => hS (by
   obtain ⟨h1, M, t, fr, h2, h3⟩ := h'
   exact ⟨h1, M, t, fr, by rw [← e1]; exact h2, h3⟩)
  rw [k.block i (Nat.lt_of_lt_of_le hi h.size) hS2]; exact e1⟩
theorem KT.of_below {base : Nat} {a b : World} (h : Below a.heap.size a b) : KT base a b := Turns.of_below h
theorem KT.next {base : Nat} {a b c : World} (h : KT base a b) (k : Below b.heap.size b c) : KT base a c := h.trans (.of_below k)
theorem KT.below {base : Nat} {a b : World} (h : KT base a b) (hb : base ≤ a.heap.size) : Below base a b := Turns.below h hb (fun _ hi => hi.1)
theorem KT.row {base : Nat} {a b : World} (h : KT base a b) {k : Nat} {M : Array Value} {t : TypeId} {fr : Nat × Nat} (hr : a.heap[k]? = some (.cells M t fr)) (h1 : t ≠ 105) (h2 : t ≠ 165) : b.heap[k]? = some (.cells M t fr) :=
 Turns.keep h hr (fun ⟨_, M', t', fr', e, ht⟩ => by
  rw [hr] at e
  injection e with e1
  injection e1 with _ e2
  subst e2
  exact ht.elim h1 h2)
theorem KT.not {base : Nat} {a : World} {b e size n : Nat} {v : Value} {xs : List Value} (ho : a.ownsRow b e size v n xs) (h1 : e ≠ 105) (h2 : e ≠ 165) (k : Nat) (hk : v.ownBlock = some k) : ¬ DTy base a k := fun ⟨_, M', t', fr', e', ht⟩ => by
 rcases ho.2 with ⟨rfl, _⟩ | ⟨g, cap, cur, rfl, _, hg, _⟩
 ·simp [Value.ownBlock] at hk
 ·simp [Value.ownBlock] at hk
  subst hk
  rw [hg] at e'
  injection e' with e1
  injection e1 with _ e2
  subst e2
  exact ht.elim h1 h2
theorem KT.own {base : Nat} {a b : World} (h : KT base a b) {c e size n : Nat} {v : Value} {xs : List Value} (ho : a.ownsRow c e size v n xs) (h1 : e ≠ 105) (h2 : e ≠ 165) : b.ownsRow c e size v n xs :=
 own_touch ho h (fun k hk => KT.not ho h1 h2 k hk)
theorem KT.lsO {base : Nat} {a b : World} (h : KT base a b) {c : Nat} {v : Value} {ls : List (List UInt8)} (ho : LsO a c v ls) : LsO b c v ls := by
 obtain ⟨hs, h1, h2⟩ := ho.all
 exact ⟨hs, h.own h1 (by decide) (by decide), fun j hj => by
  obtain ⟨q, k, x, y⟩ := h2 j hj
  exact ⟨q, k, x, h.own y (by decide) (by decide)⟩⟩
theorem KT.etype {base : Nat} {a b : World} (h : KT base a b) (hE : Rdr.EType a) (hb : 0 < base) : Rdr.EType b := by
 have hlt := hE.lt
 have h1 : a.heap[0]? = some (a.heap[0]'hlt) := Array.getElem?_eq_getElem hlt
 have h2 := Turns.keep h h1 (fun hs => by have := hs.1; omega)
 unfold Rdr.EType at hE ⊢
 rw [World.cell?] at hE ⊢
 rw [h1] at hE
 rw [h2]
 exact hE
theorem DX.below {base db : Nat} {d : DD} {w w' : World} (h : DX base db d w) (hb : Below w.heap.size w w') : DX base db d w' := by
 obtain ⟨h0, vs, h1⟩ := h
 exact ⟨Nat.le_trans h0 hb.size, vs, h1.below hb⟩
theorem DX.left {base db : Nat} {vs : List FV} {d d' : DD} {w w' : World} (h : DAt w base db vs d) (h0 : base ≤ w.heap.size) (hl : LeftD base db vs d' w w') : DX base db d' w' ∧ KT base w w' := by
 obtain ⟨vs', h1, h2, _⟩ := hl
 exact ⟨⟨Nat.le_trans h0 h2.size, vs', h1⟩, h2.imp (fun k _ hk => dat_dty h k hk)⟩
def StP (base db : Nat) (x : Int) (d' : DD) (w : World) (e : Ending) (w' : World) : Prop := e = .returned (.int .i64 x) ∧ DX base db d' w' ∧ KT base w w'
theorem fD_lt {w : World} {base db : Nat} {vs : List FV} {d : DD} (h : DAt w base db vs d) {i : Nat} (hi : i < 3) : i < d.fs.length := by rw [h.m3]; exact hi
theorem xappend {base db : Nat} {d : DD} (w : World) (h : DX base db d w) (i : Nat) (hi : i < 3) (p : Option Addr) (n c : Nat) (b : List UInt8) (hb : Bs w p n c b) (hn : n ≤ 140737488355328) (hfew : (fD d i).steps.length + 1 ≤ 4398046511104) :
  Calls Tryz.prog 24 #[.pointer (some ⟨db, 0, none⟩), .int .i64 (i : Int), .slice p n c] w (StP base db (doE d i (fD d i) (.put b)) (doD d i (fD d i) (.put b)) w) := by
 obtain ⟨h0, vs, h1⟩ := h
 refine (append_in w h1 h0 i (fD_lt h1 hi) (fD d i) (fD_eq (fD_lt h1 hi)) p n c b hb hn hfew).mono ?_
 rintro e w' ⟨he, hl⟩
 exact ⟨he, DX.left h1 h0 hl⟩
theorem xcut {base db : Nat} {d : DD} (w : World) (h : DX base db d w) (i : Nat) (hi : i < 3) (m : Nat) (hm : m ≤ (fD d i).now.length) (hfew : (fD d i).steps.length + 1 ≤ 4398046511104) :
  Calls Tryz.prog 87 #[.pointer (some ⟨db, 0, none⟩), .int .i64 (i : Int), .int .i64 (m : Int)] w (StP base db (doE d i (fD d i) (.cut m)) (doD d i (fD d i) (.cut m)) w) := by
 obtain ⟨h0, vs, h1⟩ := h
 refine (cut_in w h1 h0 i (fD_lt h1 hi) (fD d i) (fD_eq (fD_lt h1 hi)) m hm hfew).mono ?_
 rintro e w' ⟨he, hl⟩
 exact ⟨he, DX.left h1 h0 hl⟩
theorem xsync {base db : Nat} {d : DD} (w : World) (h : DX base db d w) (i : Nat) (hi : i < 3) :
  Calls Tryz.prog 79 #[.pointer (some ⟨db, 0, none⟩), .int .i64 (i : Int)] w (StP base db (syncE d) (syncD d i (fD d i)) w) := by
 obtain ⟨h0, vs, h1⟩ := h
 refine (sync_in w h1 h0 i (fD_lt h1 hi) (fD d i) (fD_eq (fD_lt h1 hi))).mono ?_
 rintro e w' ⟨he, hl⟩
 exact ⟨he, DX.left h1 h0 hl⟩
theorem xread {base db : Nat} {d : DD} (w : World) (h : DX base db d w) (i : Nat) (hi : i < 3) :
  Calls Tryz.prog 54 #[.pointer (some ⟨db, 0, none⟩), .int .i64 (i : Int)] w fun e w' => ∃ p c, e = .returned (.slice p (fD d i).now.length c) ∧ Bs w' p (fD d i).now.length c (fD d i).now ∧ Below w.heap.size w w' := by
 obtain ⟨h0, vs, h1⟩ := h
 have := read_in w h1 i (fD_lt h1 hi)
 rw [fD_eq (fD_lt h1 hi)] at this
 refine this.mono ?_
 rintro e w' ⟨p, c, he, hr, hb⟩
 obtain ⟨p', c', e1, hs⟩ := hr.bs
 cases e1
 exact ⟨p, c, he, hs, hb⟩
theorem xunits {base db : Nat} {d : DD} (w : World) (h : DX base db d w) (i : Nat) (hi : i < 3) :
  Calls Tryz.prog 90 #[.pointer (some ⟨db, 0, none⟩), .int .i64 (i : Int)] w fun e w' => e = .returned (.int .i64 (unitsAll (fD d i).steps : Int)) ∧ Below w.heap.size w w' := by
 obtain ⟨h0, vs, h1⟩ := h
 have := units_in w h1 i (fD_lt h1 hi)
 rw [fD_eq (fD_lt h1 hi)] at this
 exact this
theorem xsize {base db : Nat} {d : DD} (w : World) (h : DX base db d w) (i : Nat) (hi : i < 3) :
  Calls Tryz.prog 58 #[.pointer (some ⟨db, 0, none⟩), .int .i64 (i : Int)] w fun e w' => e = .returned (.int .i64 ((fD d i).now.length : Int)) ∧ Below w.heap.size w w' := by
 obtain ⟨h0, vs, h1⟩ := h
 have := size_in w h1 i (fD_lt h1 hi)
 rw [fD_eq (fD_lt h1 hi)] at this
 exact this
theorem DX.room {base db : Nat} {d : DD} {w : World} (h : DX base db d w) : 1 ≤ d.room ∧ d.room ≤ 65536 ∧ usedL d.fs ≤ d.room := by
 obtain ⟨_, vs, h1⟩ := h
 exact ⟨h1.room1.1, h1.room1.2, h1.used⟩
theorem DX.len3 {base db : Nat} {d : DD} {w : World} (h : DX base db d w) : d.fs.length = 3 := by
 obtain ⟨_, vs, h1⟩ := h
 exact h1.m3
theorem DX.ok {base db : Nat} {d : DD} {w : World} (h : DX base db d w) {i : Nat} (hi : i < 3) : (fD d i).Ok := by
 obtain ⟨_, vs, h1⟩ := h
 have hl := fD_lt h1 hi
 have := (h1.each i _ _ (List.getElem?_eq_getElem (by rw [h1.n3]; exact hi)) (List.getElem?_eq_getElem hl)).ok
 rwa [fD_eq hl] at this
theorem DX.le {base db : Nat} {d : DD} {w : World} (h : DX base db d w) {i : Nat} (hi : i < 3) : (fD d i).now.length ≤ 65536 := by
 have h1 := (h.ok hi).le
 have h2 := h.room
 have hl : i < d.fs.length := by rw [h.len3]; exact hi
 have h3 := usedL_mem hl
 rw [fD_eq hl] at h3
 omega
end Go.Proofs.YtnejjfglkindjaaGreatDoor.Rol
namespace Go.Proofs.YtnejjfglkindjaaGreatDoor.Slt
open Go.RowKit Go.Mir Dk Rol Wr
open Frm (frame one frame_length one_frame0 one_torn)
def loadP (l : List UInt8) : Nat × List UInt8 := if (one l).2.2 = 0 ∧ 8 ≤ (one l).1.length then (Rdr.beN ((one l).1.take 8), (one l).1.drop 8) else (0, [])
theorem load_of {l x : List UInt8} {n : Nat} (h : one l = (x, n, 0)) (h8 : 8 ≤ x.length) : loadP l = (Rdr.beN (x.take 8), x.drop 8) := by
 unfold loadP
 rw [h]
 exact if_pos ⟨rfl, h8⟩
theorem load_no {l : List UInt8} (h : ¬ (one l).2.2 = 0) : loadP l = (0, []) := by
 unfold loadP
 exact if_neg (fun hh => h hh.1)
theorem load_frame (t : Nat) (x : List UInt8) (ht : t < 18446744073709551616) (hx : x.length ≤ 65528) : loadP (frame (be t 8 ++ x)) = (t, x) := by
 have hl : (be t 8 ++ x).length = 8 + x.length := by rw [List.length_append, be_length]
 rw [load_of (one_frame0 _ (by omega) (by omega)) (by omega), List.take_left' (be_length t 8), List.drop_left' (be_length t 8), Cod.beN_be t 8 (by omega) (by omega)]
theorem load_torn (t : Nat) (x : List UInt8) (hx : x.length ≤ 65528) (k : Nat) (hk : k < 16 + x.length) : loadP ((frame (be t 8 ++ x)).take k) = (0, []) := by
 have hl : (be t 8 ++ x).length = 8 + x.length := by rw [List.length_append, be_length]
 refine load_no ?_
 rw [one_torn _ (by omega) (by omega) k (by omega)]
 decide
theorem load_lt (l : List UInt8) : (loadP l).1 < 18446744073709551616 := by
 unfold loadP
 split
 ·rename_i h
  have h1 := Rdr.beN_lt_pow ((one l).1.take 8)
  rw [List.length_take, Nat.min_eq_left h.2] at h1
  show Rdr.beN _ < _
  omega
 ·show 0 < _; omega
structure SS where
 now : Int
 turn : Nat
 body : List UInt8
def bet (s : SS) (f : Nat) (l : List UInt8) : SS := if s.turn < (loadP l).1 then ⟨(f : Int), (loadP l).1, (loadP l).2⟩ else s
def opnS (d : DD) (a b : Nat) : SS := bet (bet ⟨-1, 0, []⟩ a (fD d a).now) b (fD d b).now
inductive LA where
 | cut
 | sync
 | put (b : List UInt8)
def stpD (d : DD) (i : Nat) : LA → DD
 | .cut => doD d i (fD d i) (.cut 0)
 | .sync => syncD d i (fD d i)
 | .put b => doD d i (fD d i) (.put b)
def stpE (d : DD) (i : Nat) : LA → Int
 | .cut => doE d i (fD d i) (.cut 0)
 | .sync => syncE d
 | .put b => doE d i (fD d i) (.put b)
def layD (i : Nat) : List LA → DD → DD
 | [], d => d
 | a :: r, d => if stpE d i a = 0 then layD i r (stpD d i a) else stpD d i a
def layE (i : Nat) : List LA → DD → Int
 | [], _ => 0
 | a :: r, d => if stpE d i a = 0 then layE i r (stpD d i a) else stpE d i a
theorem lay_ok {i : Nat} {a : LA} {r : List LA} {d : DD} (h : stpE d i a = 0) : layD i (a :: r) d = layD i r (stpD d i a) ∧ layE i (a :: r) d = layE i r (stpD d i a) := ⟨if_pos h, if_pos h⟩
theorem lay_no {i : Nat} {a : LA} {r : List LA} {d : DD} (h : ¬ stpE d i a = 0) : layD i (a :: r) d = stpD d i a ∧ layE i (a :: r) d = stpE d i a := ⟨if_neg h, if_neg h⟩
def nxt (s : SS) (a b : Nat) : Nat := if s.now = (a : Int) then b else a
def full (d : DD) (i : Nat) : Bool := decide (0 < (fD d i).now.length) || decide (0 < unitsAll (fD d i).steps)
def acts (d : DD) (i : Nat) (y : List UInt8) : List LA := if full d i = true then [.cut, .sync, .put y, .sync] else [.put y, .sync]
def wrapB (s : SS) (x : List UInt8) : List UInt8 := frame (be (s.turn + 1) 8 ++ x)
def fits (s : SS) (x : List UInt8) : Bool := decide (x.length ≤ 65528) && decide (s.turn + 1 < 18446744073709551616)
def putSD (d : DD) (s : SS) (a b : Nat) (x : List UInt8) : DD := if fits s x = true then layD (nxt s a b) (acts d (nxt s a b) (wrapB s x)) d else d
def putSE (d : DD) (s : SS) (a b : Nat) (x : List UInt8) : Int := if fits s x = true then layE (nxt s a b) (acts d (nxt s a b) (wrapB s x)) d else 1
def putSS (d : DD) (s : SS) (a b : Nat) (x : List UInt8) : SS := if fits s x = true ∧ layE (nxt s a b) (acts d (nxt s a b) (wrapB s x)) d = 0 then ⟨(nxt s a b : Int), s.turn + 1, x⟩ else s
theorem fD_set {d : DD} {i : Nat} (h : i < d.fs.length) (f : FD) : fD (setF d i f) i = f := by
 unfold fD setF
 simp [h]
theorem fD_other {d : DD} {i k : Nat} (h : i ≠ k) (f : FD) : fD (setF d i f) k = fD d k := by
 unfold fD setF
 simp [List.getElem?_set_ne h]
end Go.Proofs.YtnejjfglkindjaaGreatDoor.Slt
namespace Go.Proofs.YtnejjfglkindjaaGreatDoor.Slt
open Go.RowKit Go.Mir Go.Mir.Parts Dk Rol
def slA (db a b : Nat) (s : SS) (pb : Option Addr) (cb bx : Nat) : Array Value := #[.pointer (some ⟨db, 0, none⟩), .int .i64 (a : Int), .int .i64 (b : Int), .int .i64 s.now, .int .u64 (s.turn : Int), .slice pb s.body.length cb, .func (.func 105) #[] #[.pointer (some ⟨bx, 0, none⟩)]]
def STy (base : Nat) (w : World) (k : Nat) : Prop := base ≤ k ∧ ∃ M t fr, w.heap[k]? = some (.cells M t fr) ∧ (t = 105 ∨ t = 165 ∨ t = 133)
def KS (base : Nat) (w w' : World) : Prop := Turns (STy base w) w w'
theorem KS.refl (base : Nat) (w : World) : KS base w w := Turns.refl _ _
theorem KS.of_kt {base : Nat} {a b : World} (h : KT base a b) : KS base a b := h.imp (fun _k _ ⟨h1, M, t, fr, hm, ht⟩ => ⟨h1, M, t, fr, hm, ht.imp id .inl⟩)
theorem KS.trans {base : Nat} {a b c : World} (h : KS base a b) (k : KS base b c) : KS base a c :=
 ⟨k.os.trans h.os, k.tape.trans h.tape, k.output.trans h.output, Nat.le_trans h.size k.size, fun i hi hS => by
  have e1 := h.block i hi hS
  have hS2 : ¬ STy base b i := fun h' => hS (by
   obtain ⟨h1, M, t, fr, h2, h3⟩ := h'
   exact ⟨h1, M, t, fr, by rw [← e1]; exact h2, h3⟩)
  rw [k.block i (Nat.lt_of_lt_of_le hi h.size) hS2]; exact e1⟩
theorem KS.of_below {base : Nat} {a b : World} (h : Below a.heap.size a b) : KS base a b := Turns.of_below h
theorem KS.next {base : Nat} {a b c : World} (h : KS base a b) (k : Below b.heap.size b c) : KS base a c := h.trans (.of_below k)
theorem KS.below {base : Nat} {a b : World} (h : KS base a b) (hb : base ≤ a.heap.size) : Below base a b := Turns.below h hb (fun _ hi => hi.1)
theorem KS.row {base : Nat} {a b : World} (h : KS base a b) {k : Nat} {M : Array Value} {t : TypeId} {fr : Nat × Nat} (hr : a.heap[k]? = some (.cells M t fr)) (h1 : t ≠ 105) (h2 : t ≠ 165) (h3 : t ≠ 133) : b.heap[k]? = some (.cells M t fr) :=
 Turns.keep h hr (fun ⟨_, M', t', fr', e, ht⟩ => by
  rw [hr] at e
  injection e with e1
  injection e1 with _ e2
  subst e2
  rcases ht with ht | ht | ht
  ·exact h1 ht
  ·exact h2 ht
  ·exact h3 ht)
theorem KS.etype {base : Nat} {a b : World} (h : KS base a b) (hE : Rdr.EType a) (hb : 0 < base) : Rdr.EType b := by
 have hlt := hE.lt
 have h1 : a.heap[0]? = some (a.heap[0]'hlt) := Array.getElem?_eq_getElem hlt
 have h2 := Turns.keep h h1 (fun hs => by have := hs.1; omega)
 unfold Rdr.EType at hE ⊢
 rw [World.cell?] at hE ⊢
 rw [h1] at hE
 rw [h2]
 exact hE
theorem kt_no8 {base : Nat} {w : World} : ∀ k M fr, w.heap[k]? = some (.cells M 5 fr) → ¬ DTy base w k := fun k M fr hm ⟨_, M', t', fr', e, ht⟩ => by
 rw [hm] at e
 injection e with e1
 injection e1 with _ e2
 subst e2
 exact ht.elim (by decide) (by decide)
theorem ks_no8 {base : Nat} {w : World} : ∀ k M fr, w.heap[k]? = some (.cells M 5 fr) → ¬ STy base w k := fun k M fr hm ⟨_, M', t', fr', e, ht⟩ => by
 rw [hm] at e
 injection e with e1
 injection e1 with _ e2
 subst e2
 rcases ht with ht | ht | ht
 ·exact absurd ht (by decide)
 ·exact absurd ht (by decide)
 ·exact absurd ht (by decide)
theorem KS.bs {base : Nat} {a b : World} (h : KS base a b) {p : Option Addr} {n c : Nat} {l : List UInt8} (hb : Rd a base (.slice p n c) l) : Rd b base (.slice p n c) l := hb.touch h ks_no8
structure SX (base sb db a b : Nat) (d : DD) (s : SS) (w : World) : Prop where
 dx : DX base db d w
 low : base ≤ sb
 row : ∃ pb cb bx, w.heap[sb]? = some (.cells (slA db a b s pb cb bx) 133 (0, 0)) ∧ Rd w base (.slice pb s.body.length cb) s.body ∧ w.heap[bx]? = some (.cells #[.pointer (some ⟨db, 0, none⟩)] 23 (0, 0))
 turn : s.turn < 18446744073709551616
 now : -1 ≤ s.now ∧ s.now ≤ 2
theorem SX.kt {base sb db a b : Nat} {d d' : DD} {s : SS} {w w' : World} (h : SX base sb db a b d s w) (hk : KT base w w') (hd : DX base db d' w') : SX base sb db a b d' s w' := by
 obtain ⟨pb, cb, bx, h1, h2, h3⟩ := h.row
 exact ⟨hd, h.low, ⟨pb, cb, bx, hk.row h1 (by decide) (by decide), h2.touch hk kt_no8, hk.row h3 (by decide) (by decide)⟩, h.turn, h.now⟩
theorem SX.below {base sb db a b : Nat} {d : DD} {s : SS} {w w' : World} (h : SX base sb db a b d s w) (hb : Below w.heap.size w w') : SX base sb db a b d s w' := h.kt (KT.of_below hb) (h.dx.below hb)
theorem slA_cells {w : World} {sb db a b : Nat} {s : SS} {pb : Option Addr} {cb bx : Nat} {t : TypeId} {fr : Nat × Nat} (h : w.heap[sb]? = some (.cells (slA db a b s pb cb bx) t fr)) :
  w.cell? ⟨sb, 0, none⟩ = some (.pointer (some ⟨db, 0, none⟩)) ∧ w.cell? ⟨sb, 1, none⟩ = some (.int .i64 (a : Int)) ∧ w.cell? ⟨sb, 2, none⟩ = some (.int .i64 (b : Int)) ∧ w.cell? ⟨sb, 3, none⟩ = some (.int .i64 s.now) ∧ w.cell? ⟨sb, 4, none⟩ = some (.int .u64 (s.turn : Int)) ∧ w.cell? ⟨sb, 5, none⟩ = some (.slice pb s.body.length cb) ∧ w.cell? ⟨sb, 6, none⟩ = some (.func (.func 105) #[] #[.pointer (some ⟨bx, 0, none⟩)]) := by
 refine ⟨?_, ?_, ?_, ?_, ?_, ?_, ?_⟩ <;> (rw [cell_of_row _ _ _ _ _ _ h]; rfl)
theorem dx_turn {base db : Nat} {d : DD} {S : Nat → Prop} {w w' : World} (h : DX base db d w) (ht : Turns S w w') (hS : ∀ k M t fr, S k → w.heap[k]? = some (.cells M t fr) → t ≠ 105 ∧ t ≠ 165 ∧ t ≠ 5) : DX base db d w' := by
 obtain ⟨h0, vs, h1⟩ := h
 have hno : ∀ k, DOwn db vs k → ¬ S k := fun k hk hs => by
  obtain ⟨_, M, t, fr, e1, e2⟩ := dat_dty h1 k hk
  have := hS k M t fr hs e1
  rcases e2 with e2 | e2
  ·exact this.1 e2
  ·exact this.2.1 e2
 refine ⟨Nat.le_trans h0 ht.size, vs, ht.keep h1.row (hno db (.inl rfl)), h1.low, h1.n3, h1.m3, fun i v f hv hf => ?_, h1.apart, h1.room1, h1.fuse1, h1.used, h1.few⟩
 exact (h1.each i v f hv hf).touch ht (fun k M fr hk hs => (hS k M _ fr hs hk).2.2 rfl) (fun k hk => hno k (.inr ⟨v, List.mem_of_getElem? hv, hk⟩))
theorem SX.set3 {base sb db a b : Nat} {d : DD} {s : SS} {w : World} (h : SX base sb db a b d s w) (n : Int) (hn : -1 ≤ n ∧ n ≤ 2) (t : Nat) (ht : t < 18446744073709551616) (p : Option Addr) (c : Nat) (l : List UInt8) (hl : Rd w base (.slice p l.length c) l) :
  SX base sb db a b d ⟨n, t, l⟩ (((w.setCell ⟨sb, 3, none⟩ (.int .i64 n)).setCell ⟨sb, 4, none⟩ (.int .u64 (t : Int))).setCell ⟨sb, 5, none⟩ (.slice p l.length c)) ∧
   KS base w (((w.setCell ⟨sb, 3, none⟩ (.int .i64 n)).setCell ⟨sb, 4, none⟩ (.int .u64 (t : Int))).setCell ⟨sb, 5, none⟩ (.slice p l.length c)) ∧ Turns (fun k => k = sb) w (((w.setCell ⟨sb, 3, none⟩ (.int .i64 n)).setCell ⟨sb, 4, none⟩ (.int .u64 (t : Int))).setCell ⟨sb, 5, none⟩ (.slice p l.length c)) := by
 obtain ⟨pb, cb, bx, h1, h2, h3⟩ := h.row
 have e1 := Dk.cell_put (off := 3) (.int .i64 n) h1
 have e2 := Dk.cell_put (off := 4) (.int .u64 (t : Int)) e1
 have e3 := Dk.cell_put (off := 5) (.slice p l.length c) e2
 have t1 : Turns (fun k => k = sb) w (w.setCell ⟨sb, 3, none⟩ (.int .i64 n)) := Turns.setCell (S := fun k => k = sb) (p := ⟨sb, 3, none⟩) (Turns.refl _ w) (fun _ => rfl) (.int .i64 n)
 have t2 : Turns (fun k => k = sb) w ((w.setCell ⟨sb, 3, none⟩ (.int .i64 n)).setCell ⟨sb, 4, none⟩ (.int .u64 (t : Int))) := Turns.setCell (S := fun k => k = sb) (p := ⟨sb, 4, none⟩) t1 (fun _ => rfl) (.int .u64 (t : Int))
 have hT : Turns (fun k => k = sb) w (((w.setCell ⟨sb, 3, none⟩ (.int .i64 n)).setCell ⟨sb, 4, none⟩ (.int .u64 (t : Int))).setCell ⟨sb, 5, none⟩ (.slice p l.length c)) := Turns.setCell (S := fun k => k = sb) (p := ⟨sb, 5, none⟩) t2 (fun _ => rfl) (.slice p l.length c)
 have hbx : bx ≠ sb := fun e => by
  rw [e, h1] at h3
  injection h3 with q1
  injection q1 with _ q2
  exact absurd q2 (by decide)
 refine ⟨⟨dx_turn h.dx hT (fun k M t' fr hk hm => ?_), h.low, ⟨p, c, bx, e3, hl.touch hT (fun k M fr hm hk => ?_), hT.keep h3 hbx⟩, ht, hn⟩, hT.imp (fun k _ hk => ?_), hT⟩
 ·have hk : k = sb := hk
  subst hk
  rw [h1] at hm
  injection hm with q1
  injection q1 with _ q2
  subst q2
  exact ⟨by decide, by decide, by decide⟩
 ·have hk : k = sb := hk
  subst hk
  rw [h1] at hm
  injection hm with q1
  injection q1 with _ q2
  exact absurd q2 (by decide)
 ·have hk : k = sb := hk
  subst hk
  exact ⟨h.low, _, _, _, h1, .inr (.inr rfl)⟩
end Go.Proofs.YtnejjfglkindjaaGreatDoor.Slt
