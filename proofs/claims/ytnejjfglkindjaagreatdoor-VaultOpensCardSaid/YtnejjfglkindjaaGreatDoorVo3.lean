/- PARTS, JOINED: THE WALKS OF A DISK: a step to a file; bytes put, a cut, a sync. Conditions: none. THE WALKS OF A DISK: bytes put, a cut, a sync. Conditions: none. THE WALKS OF A DISK: what is asked wrongly; what a file keeps; sizes and units. Conditions: none. A DISK CLONED. Conditions: none. WHAT A CALL LEAVES OF A DISK, whatever is asked; what calls do, one behind the other. Conditions: none. THE WALKS OF A DISK: a crash that keeps some units. Conditions: none. THE CALLS OF A STATEMENT ON DISKS, as they lie in memory; are there not too many? Conditions: none. CALLS PLAYED, one behind the other. Conditions: none. PLAIN PART OF DiskKeeps: behind a sync nothing waits; a crash keeps the first bytes of what was put behind it. Conditions: none. THE WALKS OF THE WRITER: bytes one behind the other, room and a fault; each call as a plain function of what the writer held. Conditions: parts that stay as they are while the writer's own blocks turn. THE WALKS OF THE WRITER, on: put with any fault, Bytes, Id, Hint, Ids, Num, New, Len, Err, Done. Conditions: as in the first part. THE WALKS OF THE WRITER, on: Ids, Num. Conditions: as in the first part. LAYER 9: the document's example; numbers. Conditions: the laid cell of errors.errorType. CODECS: what is written by a writer, what a reader reads of it: plain parts, and both as they go on. Conditions: sizes that fit. THE PLAIN LAWS OF CRC-32C: a sum is linear in bits; a move by zero bytes is a linear map without a kernel; sums of two parts join; a burst of up to 32 bits is seen. No program is named. Conditions: none. THE WALKS OF CRC: what each function of the package crc, and of its reference, computes. Conditions: slices read as lists of bytes. FRAMES: fits, Size. Conditions: a length that an int holds. FRAMES: Encode. Conditions: at most 4000 bytes. FRAMES: the reference: value. Conditions: at most four bytes. THE WALKS OF THE REFERENCE's WRITER (a plain value). Conditions: sizes that fit. THE WALKS OF THE REFERENCE's WRITER, on: Number, Num, Ids. Conditions: sizes that fit. -/
import Derived.Test.YtnejjfglkindjaaGreatDoorVo1
import Derived.Test.YtnejjfglkindjaaGreatDoorVo2
import Derived.Laws.Tables
import Derived.Laws.CopyOwn
import Derived.Test.YtnejjfglkindjaaGreatDoorProg
import Derived.BigQuiet
import Derived.Deep.QuietTactic
import Derived.Deep.RegionHeld3
import Derived.Deep.RegionWith
namespace Go.Proofs.YtnejjfglkindjaaGreatDoor.Dk
open Go.RowKit Go.Mir
theorem LeftD.row {w w' : World} {base db : Nat} {vs : List FV} {d d' : DD} (_h : DAt w base db vs d) (hd : DAt w' base db vs d') (ht : Turns (fun k => k = db) w w') : LeftD base db vs d' w w' :=
 ⟨vs, hd, ht.imp (fun _k _ hk => .inl hk), fun _k hk => .inl hk⟩
theorem LeftD.trans {w w1 w2 : World} {base db : Nat} {vs vs1 : List FV} {d2 : DD} (h0 : ∀ k, DOwn db vs1 k → DOwn db vs k ∨ w.heap.size ≤ k) (ht : Turns (DOwn db vs) w w1) (h : LeftD base db vs1 d2 w1 w2) : LeftD base db vs d2 w w2 := by
 obtain ⟨vs2, hd, ht2, hn⟩ := h
 refine ⟨vs2, hd, ht.trans ht2 (fun k hk hs => ?_), fun k hk => ?_⟩
 ·rcases h0 k hs with h | h
  ·exact h
  ·omega
 ·rcases hn k hk with hn | hn
  ·exact h0 k hn
  ·exact .inr (Nat.le_trans ht.size hn)
def doE (d : DD) (i : Nat) (f : FD) (s : St) : Int :=
 if d.down = true then 18 else if d.room < usedL d.fs - f.need + max f.need (s.size f.now.length) then 17 else if (setF d i (f.take s)).burn.down = true then 18 else 0
def doD (d : DD) (i : Nat) (f : FD) (s : St) : DD :=
 if d.down = true then d else if d.room < usedL d.fs - f.need + max f.need (s.size f.now.length) then d else (setF d i (f.take s)).burn
theorem used_grow {base db : Nat} {vs : List FV} {d : DD} (w : World) (h : DAt w base db vs d) : Calls Tryz.prog 93 #[.pointer (some ⟨db, 0, none⟩)] w fun e w' => e = .returned (.int .i64 (usedL d.fs : Int)) ∧ Below w.heap.size w w' :=
 (used_any w h).mono fun _e _w' ⟨h1, h2⟩ => ⟨h1, h2 ▸ Below.refl _ _⟩
theorem units_fit {s : St} {d : DD} {f : FD} {n1 : Nat} (_h : n1 = max f.need (s.size f.now.length)) (hle : ¬ d.room < usedL d.fs - f.need + max f.need (s.size f.now.length)) (hr : d.room ≤ 65536) (_hu : s.units ≤ 140737488355328) : s.units ≤ 65536 := by
 cases s with
 | put b => simp only [St.size, St.units] at *; omega
 | cut n => simp only [St.units]; omega
def DoP (base db : Nat) (vs : List FV) (d : DD) (i : Nat) (f : FD) (s : St) (w : World) (e : Ending) (w' : World) : Prop := e = .returned (.int .i64 (doE d i f s)) ∧ LeftD base db vs (doD d i f s) w w'
set_option maxRecDepth 100000 in
set_option maxHeartbeats 1600000 in
theorem do_in {base db : Nat} {vs : List FV} {d : DD} (w : World) (h : DAt w base db vs d) (hbase : base ≤ w.heap.size) (i : Nat) (hi : i < d.fs.length) (f : FD) (hf : d.fs[i] = f) (sv : Value) (s : St) (hs : StAt w base sv s)
  (hok : s.ok f.now.length) (hu : s.units ≤ 140737488355328) (hfew : f.steps.length + 1 ≤ 4398046511104) :
  Calls Tryz.prog 47 #[.pointer (some ⟨db, 0, none⟩), .int .i64 (i : Int), sv] w (DoP base db vs d i f s w) := by
 have hv : i < vs.length := by have := h.n3; have := h.m3; omega
 have hi3 : i < 3 := by have := h.m3; omega
 have hF := h.each i _ _ (List.getElem?_eq_getElem hv) (List.getElem?_eq_getElem hi)
 rw [hf] at hF
 have HND : Hid ((vs[i]'hv).nd = f.need) := hF.need
 have hle := usedL_mem hi
 rw [hf] at hle
 have hused := h.used
 have hroom1 := h.room1
 have HROOM := Lib.hid hroom1.2
 have HNL : Hid (f.now.length ≤ 65536) := by have := hF.ok.le; show _ ≤ _; omega
 obtain ⟨U, hU⟩ : ∃ U, U = usedL d.fs := ⟨_, rfl⟩
 have HUE := Lib.hid hU
 rw [← hU] at hle hused
 obtain ⟨z, hz⟩ : ∃ z, z = s.size f.now.length := ⟨_, rfl⟩
 have HZE := Lib.hid hz
 have HZL : Hid (z ≤ 281474976710656) := by
  show _ ≤ _
  rw [hz]
  have := HNL.out
  cases s with
  | put b => simp only [St.size, St.units] at *; omega
  | cut n => simp only [St.size, St.ok] at *; omega
 obtain ⟨n1, hn1⟩ : ∃ n1, n1 = max f.need z := ⟨_, rfl⟩
 have HN1 := Lib.hid hn1
 have HN1M : Hid (max f.need (s.size f.now.length) = n1) := by show _ = _; rw [← hz, hn1]
 have HN1L : Hid (n1 ≤ 281474976776192) := by have := HZL.out; show _ ≤ _; omega
 have HMX1 : Hid ((if ((f.need : Nat) : Int) < ((z : Nat) : Int) then ((z : Nat) : Int) else ((f.need : Nat) : Int)) = (n1 : Int) ∧ (if f.need < z then ((z : Nat) : Int) else ((f.need : Nat) : Int)) = (n1 : Int)) := by
  show _ ∧ _
  constructor <;> (split <;> omega)
 have H := Lib.hid h
 have HFE := Lib.hid hf
 have HS := Lib.hid hs
 have HOKS := Lib.hid hok
 have HUS := Lib.hid hu
 have HFEW := Lib.hid hfew
 have HBASE := Lib.hid hbase
 have HI := Lib.hid hi
 have HFF := Lib.hid hF
 have HV := Lib.hid hv
 clear hn1 hz hU hF hf h hu hfew
 cases s with
 | put b =>
  obtain ⟨bv, rfl, hrd⟩ := hs
  obtain ⟨p, c, rfl, hbs⟩ := hrd.bs
  clear hrd hbs hok
  obtain ⟨SV, hSV⟩ : ∃ SV, SV = Value.iface 109 (.agg #[.slice p b.length c]) := ⟨_, rfl⟩
  have hta : ∀ w, (Instr.typeAssert SV 165 169 true).run Tryz.prog w = .ok (.tuple #[.agg #[.int .i64 0], .bool false]) w := fun w => by rw [hSV]; exact ta_pc _ w
  rw [← hSV] at HS ⊢
  clear hSV
  go_enter Tryz.func47, Tryz.ntmps47
  go_wp2_with fail
  refine (at_in w H.out i hi3).mono ?_
  rintro e w' ⟨rfl, rfl⟩
  have hb := Below.allocs w (.cells #[.int .i64 0] 169)
  have HB := Lib.hid hb
  have HA := Lib.hid (H.out.below hb)
  clear hb
  go_upto_region 3 with fail
  generalize w.alloc (.cells #[.int .i64 0] 169) = w1 at *
  go_wp2_with fail
  refine (none_any _ HA.out).mono ?_
  rintro e w' ⟨rfl, rfl⟩
  clear hta
  go_wp2_with fail
  refine wp_region_grow (by kernel_rfl) (by kernel_rfl) ?_
  repeat (first
   | ((with_reducible refine wpQuietGd ?_); (with_reducible refine wpQuiet_skip ?_ ?_); (· rfl); simp only [Act.put, zA, zB, zC])
   | quiet_step (fail))
  refine wpQuiet_nil ?_
  intro w2 hb2
  have HBx := Lib.hid (HB.out.trans (hb2.mono HB.out.size))
  have HAx := Lib.hid (HA.out.below hb2)
  clear hb2 HB HA w1
  have HB := HBx
  have HA := HAx
  clear HBx HAx
  generalize hst : St.put b = s at *
  clear hst
  generalize hw2 : w2 = w1 at *
  clear hw2 w2
  have HDN1 := Lib.hid (HA.out.cells.2.2.1)
  cases hdn : d.down with
  | true =>
   have hc := HDN1.out
   rw [hdn] at hc
   have HFIN : Hid (∀ w', Below w.heap.size w w' → DoP base db vs d i f s w (.returned (.int .i64 18)) w') := fun w' hb => by
    refine ⟨by unfold doE; rw [if_pos hdn], vs, ?_, Turns.of_below hb, fun k hk => .inl hk⟩
    unfold doD
    rw [if_pos hdn]
    exact H.out.below hb
   clear hdn
   go_wp2_with fail
   go_ret
   exact HFIN.out _ HB.out
  | false =>
   have HDN := Lib.hid hdn
   have hc := HDN1.out
   rw [hdn] at hc
   clear hdn
   go_upto_region 9 with fail
   have hcn := (HA.out.file i HV.out).2.2.2
   rw [HND.out] at hcn
   have hcr := HA.out.cells.1
   have hg1 := cell_grown hcn
   have hg2 := cell_grown hcr
   have HAFT : Hid (∀ y : Grown w1, Calls Tryz.prog 94 #[.pointer (some ⟨db, i * 4, none⟩), SV] y.v fun e w' => e = .returned (.int .i64 (z : Int)) ∧ Below y.v.heap.size y.v w') := fun y => by
    have := after_any y.v (HA.out.below y.b) i HI.out SV s (HS.out.touch (Turns.of_below (S := fun _ => False) (HB.out.trans (y.b.mono HB.out.size))) (fun _ _ _ _ h => h)) (by rw [HFE.out]; have := HZL.out; rw [HZE.out] at this; omega)
    rw [HFE.out, ← HZE.out] at this
    exact this
   have HUSE : Hid (∀ y : Grown w1, Calls Tryz.prog 93 #[.pointer (some ⟨db, 0, none⟩)] y.v fun e w' => e = .returned (.int .i64 (U : Int)) ∧ Below y.v.heap.size y.v w') := fun y => by
    have := used_grow y.v (HA.out.below y.b)
    rwa [← HUE.out] at this
   obtain ⟨hmx1, hmx2⟩ := HMX1.out
   have hsub : (U : Int) - (f.need : Int) = ((U - f.need : Nat) : Int) := by omega
   have hws : IntKind.i64.wrap ((U : Int) - (f.need : Int)) = ((U - f.need : Nat) : Int) := by rw [hsub]; exact IntWalk.i64_in _ (by omega)
   have hws2 : IntKind.i64.wrap ((U - f.need : Nat) : Int) = ((U - f.need : Nat) : Int) := IntWalk.i64_in _ (by omega)
   have hwa : IntKind.i64.wrap (((U - f.need : Nat) : Int) + (n1 : Int)) = ((U - f.need : Nat) : Int) + (n1 : Int) := IntWalk.i64_in _ (by have := HN1L.out; omega)
   refine wp_region_grow (by kernel_rfl) (by kernel_rfl) ?_
   repeat (first
    | ((with_reducible refine wpQuietGd ?_); (with_reducible refine wpQuiet_skip ?_ ?_); (· rfl); simp only [Act.put, zA, zB, zC])
    | quiet_step ((first | (go_at_call 94; exact Calls.grow_of (HAFT.out _)) | (go_at_call 93; exact Calls.grow_of (HUSE.out _)))))
   refine wpQuiet_nil ?_
   intro w2 hb2
   have HA2 := Lib.hid (HA.out.below hb2)
   have HB2 := Lib.hid (HB.out.trans (hb2.mono HB.out.size))
   clear hb2 hg1 hg2 hcn hcr hc HAFT HUSE hws hws2 hwa hsub hmx1 hmx2
   by_cases hbig : (d.room : Int) < ((U - f.need : Nat) : Int) + (n1 : Int)
   ·have e1 : decide ((d.room : Int) < ((U - f.need : Nat) : Int) + (n1 : Int)) = true := decide_eq_true hbig
    have e2 : decide (d.room < U - f.need + n1) = true := decide_eq_true (by omega)
    have HFIN : Hid (∀ w', Below w.heap.size w w' → DoP base db vs d i f s w (.returned (.int .i64 17)) w') := fun w' hb => by
     have hgt : d.room < usedL d.fs - f.need + max f.need (s.size f.now.length) := by
      have := HN1.out; have := HUE.out; have := HZE.out; have := HN1M.out; omega
     refine ⟨by unfold doE; rw [HDN.out, if_neg (by decide), if_pos hgt], vs, ?_, Turns.of_below hb, fun k hk => .inl hk⟩
     unfold doD
     rw [HDN.out, if_neg (by decide), if_pos hgt]
     exact H.out.below hb
    go_wp2_with fail
    go_ret
    exact HFIN.out _ HB2.out
   ·have e1 : decide ((d.room : Int) < ((U - f.need : Nat) : Int) + (n1 : Int)) = false := decide_eq_false hbig
    have e2 : decide (d.room < U - f.need + n1) = false := decide_eq_false (by omega)
    have HLE : Hid (¬ d.room < usedL d.fs - f.need + max f.need (s.size f.now.length)) := by
     have := HN1.out; have := HUE.out; have := HZE.out; have := HN1M.out; show ¬ _; omega
    have HTK := Lib.hid (take_any w2 HA2.out (Nat.le_trans HBASE.out HB2.out.size) i HI.out f HFE.out SV s (HS.out.touch (Turns.of_below (S := fun _ => False) HB2.out) (fun _ _ _ _ h => h)) HOKS.out (units_fit HN1M.out.symm HLE.out HROOM.out HUS.out) HFEW.out (by have := HLE.out; show usedL d.fs - f.need + max f.need (s.size f.now.length) ≤ d.room; omega))
    have hbig2 : ((U - f.need : Nat) : Int) + (n1 : Int) ≤ (d.room : Int) := by omega
    go_wp2_with fail
    clear hbig hbig2
    refine (HTK.out).mono ?_
    rintro e w3 ⟨rfl, vs3, hd3, ht3, hn3⟩
    have HD3 := Lib.hid hd3
    have HT3 : Hid (Turns (DOwn db vs) w w3) := (Turns.of_below HB2.out).trans ht3 (fun _ _ h => h)
    have HN3 : Hid (∀ k, DOwn db vs3 k → DOwn db vs k ∨ w.heap.size ≤ k) := fun k hk => (hn3 k hk).imp id (fun h => Nat.le_trans HB2.out.size h)
    have HBN := Lib.hid (burn_any w3 hd3)
    clear hd3 ht3 hn3 HTK
    go_wp2_with fail
    refine (HBN.out).mono ?_
    rintro e w4 ⟨rfl, hd4, ht4⟩
    have HFIN : Hid (∀ v, v = doE d i f s → DoP base db vs d i f s w (.returned (.int .i64 v)) w4) := fun v hv => by
     refine ⟨by rw [hv], ?_⟩
     have := LeftD.trans HN3.out HT3.out (LeftD.row HD3.out hd4 ht4)
     unfold doD
     rw [HDN.out, if_neg (by decide), if_neg HLE.out]
     exact this
    have HDE : Hid (doE d i f s = if (setF d i (f.take s)).burn.down = true then 18 else 0) := by show _ = _; unfold doE; rw [HDN.out, if_neg (by decide), if_neg HLE.out]
    clear hd4 ht4
    cases hbd : (setF d i (f.take s)).burn.down with
    | true =>
     have HV18 := Lib.hid (HFIN.out 18 (by rw [HDE.out, hbd]; rfl))
     clear hbd
     go_wp2_with fail
     go_ret
     exact HV18.out
    | false =>
     have HV0 := Lib.hid (HFIN.out 0 (by rw [HDE.out, hbd]; rfl))
     clear hbd
     go_wp2_with fail
     go_ret
     exact HV0.out
 | cut m =>
  cases hs
  obtain ⟨SV, hSV⟩ : ∃ SV, SV = Value.iface 169 (.agg #[.int .i64 (m : Int)]) := ⟨_, rfl⟩
  have hta : ∀ w, (Instr.typeAssert SV 165 169 true).run Tryz.prog w = .ok (.tuple #[.agg #[.int .i64 (m : Int)], .bool true]) w := fun w => by rw [hSV]; exact ta_cc _ w
  rw [← hSV] at HS ⊢
  have hmn : m ≤ f.now.length := hok
  clear hSV hok
  go_enter Tryz.func47, Tryz.ntmps47
  go_wp2_with fail
  refine (at_in w H.out i hi3).mono ?_
  rintro e w' ⟨rfl, rfl⟩
  have hb := Below.allocs w (.cells #[.int .i64 (m : Int)] 169)
  have HB := Lib.hid hb
  have HA := Lib.hid (H.out.below hb)
  have hcm : (w.alloc (.cells #[.int .i64 (m : Int)] 169)).cell? ⟨w.heap.size, 0, none⟩ = some (.int .i64 (m : Int)) := by rw [cell_of_row _ _ _ _ _ _ (heap_alloc_last _ _)]; rfl
  clear hb
  go_upto_region 3 with fail
  generalize w.alloc (.cells #[.int .i64 (m : Int)] 169) = w1 at *
  go_wp2_with fail
  refine (none_any _ HA.out).mono ?_
  rintro e w' ⟨rfl, rfl⟩
  clear hta
  obtain ⟨pn, cn, hnv, hbn⟩ := HFF.out.now.bs
  have hc1 := (HA.out.file i HV.out).2.1
  rw [hnv] at hc1
  have hg1 := cell_grown hc1
  have hg2 := cell_grown hcm
  have hm0 : decide ((m : Int) < 0) = false := decide_eq_false (by omega)
  have hm1 : decide ((f.now.length : Int) < (m : Int)) = false := decide_eq_false (by omega)
  have hm2 : decide (f.now.length < m) = false := decide_eq_false (by omega)
  clear hbn hnv
  go_upto_region 5 with fail
  refine wp_region_grow (by kernel_rfl) (by kernel_rfl) ?_
  repeat (first
   | ((with_reducible refine wpQuietGd ?_); (with_reducible refine wpQuiet_skip ?_ ?_); (· rfl); simp only [Act.put, zA, zB, zC])
   | quiet_step (fail))
  refine wpQuiet_nil ?_
  intro w2 hb2
  have HBx := Lib.hid (HB.out.trans (hb2.mono HB.out.size))
  have HAx := Lib.hid (HA.out.below hb2)
  clear hb2 HB HA hg1 hg2 hcm hc1 hm0 hm1 hm2 hmn w1
  have HB := HBx
  have HA := HAx
  clear HBx HAx
  generalize hst : St.cut m = s at *
  clear hst
  generalize hw2 : w2 = w1 at *
  clear hw2 w2
  have HDN1 := Lib.hid (HA.out.cells.2.2.1)
  cases hdn : d.down with
  | true =>
   have hc := HDN1.out
   rw [hdn] at hc
   have HFIN : Hid (∀ w', Below w.heap.size w w' → DoP base db vs d i f s w (.returned (.int .i64 18)) w') := fun w' hb => by
    refine ⟨by unfold doE; rw [if_pos hdn], vs, ?_, Turns.of_below hb, fun k hk => .inl hk⟩
    unfold doD
    rw [if_pos hdn]
    exact H.out.below hb
   clear hdn
   go_wp2_with fail
   go_ret
   exact HFIN.out _ HB.out
  | false =>
   have HDN := Lib.hid hdn
   have hc := HDN1.out
   rw [hdn] at hc
   clear hdn
   go_upto_region 9 with fail
   have hcn := (HA.out.file i HV.out).2.2.2
   rw [HND.out] at hcn
   have hcr := HA.out.cells.1
   have hg1 := cell_grown hcn
   have hg2 := cell_grown hcr
   have HAFT : Hid (∀ y : Grown w1, Calls Tryz.prog 94 #[.pointer (some ⟨db, i * 4, none⟩), SV] y.v fun e w' => e = .returned (.int .i64 (z : Int)) ∧ Below y.v.heap.size y.v w') := fun y => by
    have := after_any y.v (HA.out.below y.b) i HI.out SV s (HS.out.touch (Turns.of_below (S := fun _ => False) (HB.out.trans (y.b.mono HB.out.size))) (fun _ _ _ _ h => h)) (by rw [HFE.out]; have := HZL.out; rw [HZE.out] at this; omega)
    rw [HFE.out, ← HZE.out] at this
    exact this
   have HUSE : Hid (∀ y : Grown w1, Calls Tryz.prog 93 #[.pointer (some ⟨db, 0, none⟩)] y.v fun e w' => e = .returned (.int .i64 (U : Int)) ∧ Below y.v.heap.size y.v w') := fun y => by
    have := used_grow y.v (HA.out.below y.b)
    rwa [← HUE.out] at this
   obtain ⟨hmx1, hmx2⟩ := HMX1.out
   have hsub : (U : Int) - (f.need : Int) = ((U - f.need : Nat) : Int) := by omega
   have hws : IntKind.i64.wrap ((U : Int) - (f.need : Int)) = ((U - f.need : Nat) : Int) := by rw [hsub]; exact IntWalk.i64_in _ (by omega)
   have hws2 : IntKind.i64.wrap ((U - f.need : Nat) : Int) = ((U - f.need : Nat) : Int) := IntWalk.i64_in _ (by omega)
   have hwa : IntKind.i64.wrap (((U - f.need : Nat) : Int) + (n1 : Int)) = ((U - f.need : Nat) : Int) + (n1 : Int) := IntWalk.i64_in _ (by have := HN1L.out; omega)
   refine wp_region_grow (by kernel_rfl) (by kernel_rfl) ?_
   repeat (first
    | ((with_reducible refine wpQuietGd ?_); (with_reducible refine wpQuiet_skip ?_ ?_); (· rfl); simp only [Act.put, zA, zB, zC])
    | quiet_step ((first | (go_at_call 94; exact Calls.grow_of (HAFT.out _)) | (go_at_call 93; exact Calls.grow_of (HUSE.out _)))))
   refine wpQuiet_nil ?_
   intro w2 hb2
   have HA2 := Lib.hid (HA.out.below hb2)
   have HB2 := Lib.hid (HB.out.trans (hb2.mono HB.out.size))
   clear hb2 hg1 hg2 hcn hcr hc HAFT HUSE hws hws2 hwa hsub hmx1 hmx2
   by_cases hbig : (d.room : Int) < ((U - f.need : Nat) : Int) + (n1 : Int)
   ·have e1 : decide ((d.room : Int) < ((U - f.need : Nat) : Int) + (n1 : Int)) = true := decide_eq_true hbig
    have e2 : decide (d.room < U - f.need + n1) = true := decide_eq_true (by omega)
    have HFIN : Hid (∀ w', Below w.heap.size w w' → DoP base db vs d i f s w (.returned (.int .i64 17)) w') := fun w' hb => by
     have hgt : d.room < usedL d.fs - f.need + max f.need (s.size f.now.length) := by
      have := HN1.out; have := HUE.out; have := HZE.out; have := HN1M.out; omega
     refine ⟨by unfold doE; rw [HDN.out, if_neg (by decide), if_pos hgt], vs, ?_, Turns.of_below hb, fun k hk => .inl hk⟩
     unfold doD
     rw [HDN.out, if_neg (by decide), if_pos hgt]
     exact H.out.below hb
    go_wp2_with fail
    go_ret
    exact HFIN.out _ HB2.out
   ·have e1 : decide ((d.room : Int) < ((U - f.need : Nat) : Int) + (n1 : Int)) = false := decide_eq_false hbig
    have e2 : decide (d.room < U - f.need + n1) = false := decide_eq_false (by omega)
    have HLE : Hid (¬ d.room < usedL d.fs - f.need + max f.need (s.size f.now.length)) := by
     have := HN1.out; have := HUE.out; have := HZE.out; have := HN1M.out; show ¬ _; omega
    have HTK := Lib.hid (take_any w2 HA2.out (Nat.le_trans HBASE.out HB2.out.size) i HI.out f HFE.out SV s (HS.out.touch (Turns.of_below (S := fun _ => False) HB2.out) (fun _ _ _ _ h => h)) HOKS.out (units_fit HN1M.out.symm HLE.out HROOM.out HUS.out) HFEW.out (by have := HLE.out; show usedL d.fs - f.need + max f.need (s.size f.now.length) ≤ d.room; omega))
    have hbig2 : ((U - f.need : Nat) : Int) + (n1 : Int) ≤ (d.room : Int) := by omega
    go_wp2_with fail
    clear hbig hbig2
    refine (HTK.out).mono ?_
    rintro e w3 ⟨rfl, vs3, hd3, ht3, hn3⟩
    have HD3 := Lib.hid hd3
    have HT3 : Hid (Turns (DOwn db vs) w w3) := (Turns.of_below HB2.out).trans ht3 (fun _ _ h => h)
    have HN3 : Hid (∀ k, DOwn db vs3 k → DOwn db vs k ∨ w.heap.size ≤ k) := fun k hk => (hn3 k hk).imp id (fun h => Nat.le_trans HB2.out.size h)
    have HBN := Lib.hid (burn_any w3 hd3)
    clear hd3 ht3 hn3 HTK
    go_wp2_with fail
    refine (HBN.out).mono ?_
    rintro e w4 ⟨rfl, hd4, ht4⟩
    have HFIN : Hid (∀ v, v = doE d i f s → DoP base db vs d i f s w (.returned (.int .i64 v)) w4) := fun v hv => by
     refine ⟨by rw [hv], ?_⟩
     have := LeftD.trans HN3.out HT3.out (LeftD.row HD3.out hd4 ht4)
     unfold doD
     rw [HDN.out, if_neg (by decide), if_neg HLE.out]
     exact this
    have HDE : Hid (doE d i f s = if (setF d i (f.take s)).burn.down = true then 18 else 0) := by show _ = _; unfold doE; rw [HDN.out, if_neg (by decide), if_neg HLE.out]
    clear hd4 ht4
    cases hbd : (setF d i (f.take s)).burn.down with
    | true =>
     have HV18 := Lib.hid (HFIN.out 18 (by rw [HDE.out, hbd]; rfl))
     clear hbd
     go_wp2_with fail
     go_ret
     exact HV18.out
    | false =>
     have HV0 := Lib.hid (HFIN.out 0 (by rw [HDE.out, hbd]; rfl))
     clear hbd
     go_wp2_with fail
     go_ret
     exact HV0.out
end Go.Proofs.YtnejjfglkindjaaGreatDoor.Dk
namespace Go.Proofs.YtnejjfglkindjaaGreatDoor.Dk
open Go.RowKit Go.Mir
theorem LeftD.from {w w1 w2 : World} {base db : Nat} {vs : List FV} {d2 : DD} (hb : Below w.heap.size w w1) (h : LeftD base db vs d2 w1 w2) : LeftD base db vs d2 w w2 :=
 LeftD.trans (fun _k hk => .inl hk) (Turns.of_below hb) h
theorem wpList_build {P : Program} {w : World} {ops : Array Oper} {rest : List Oper} {o : Oper} {a : Act} {Q : Exit → Act → World → Prop} (hgd : o.guard = none) (t : TypeId) (parts : Array (Nat × Operand)) (ho : o.op = .build t parts)
  (vals : List (Nat × Value)) (hv : (parts.toList.map fun p => (p.1, a.eval p.2)) = vals) (cells : Array Value) (h : P.built t vals = some cells) (k : wpList P ops Q rest (a.put o.dst (.agg cells)) w) : wpList P ops Q (o :: rest) a w := by
 refine wpList_plain hgd fun K hK => ?_
 unfold Oper.wp execOp
 have hb : P.built t (parts.map fun p => (p.1, a.eval p.2)).toList = some cells := by rw [Array.toList_map, hv]; exact h
 simp only [ho, Sem.run_bind, Sem.run_pure, Result.andThen_ok, run_build w t _ cells hb]
 exact hK _ _ k
theorem build_put (p : Option Addr) (n c : Nat) : Tryz.prog.built 109 [(0, .slice p n c)] = some #[.slice p n c] := by kernel_rfl
theorem build_cut (n : Int) : Tryz.prog.built 169 [(0, .int .i64 n)] = some #[.int .i64 n] := by kernel_rfl
set_option maxRecDepth 100000 in
theorem append_in {base db : Nat} {vs : List FV} {d : DD} (w : World) (h : DAt w base db vs d) (hbase : base ≤ w.heap.size) (i : Nat) (hi : i < d.fs.length) (f : FD) (hf : d.fs[i] = f) (p : Option Addr) (n c : Nat) (b : List UInt8) (hb : Bs w p n c b) (hn : n ≤ 140737488355328) (hfew : f.steps.length + 1 ≤ 4398046511104) :
  Calls Tryz.prog 24 #[.pointer (some ⟨db, 0, none⟩), .int .i64 (i : Int), .slice p n c] w (DoP base db vs d i f (.put b) w) := by
 have HBS := Lib.hid hb
 have hle := hb.le
 have hmax := hb.max
 have HNL : Hid (b.length = n) := hb.length
 have H := Lib.hid h
 have HBASE := Lib.hid hbase
 have HI := Lib.hid hi
 have HFE := Lib.hid hf
 clear hb h hf
 go_enter Tryz.func24, Tryz.ntmps24
 go_wp2_with (refine wpList_append_nx rfl _ _ 22 rfl (base := w.heap.size) Tryz.underlying22 info8 rfl (by omega) rfl (World.ownsRow_nil _ _ _ _) rfl HBS.out (bytesV_one _) ⟨by omega, by omega⟩ (Nat.le_refl _) ?_)
 intro p9 c9 w9 ho9 hg9 _ _
 have hb9 : Below w.heap.size w w9 := (Below.refl _ _).grown hg9 (Nat.le_refl _) (fun k hk => by simp [Value.ownBlock] at hk)
 have HB9 := Lib.hid hb9
 have HR9 : Hid (Rd w9 base (.slice p9 n c9) b) := by
  have := ho9
  rw [← HNL.out] at this ⊢
  exact (Rd.of_own this).base HBASE.out
 have HDO := Lib.hid (do_in w9 (H.out.below hb9) (Nat.le_trans HBASE.out hb9.size) i HI.out f HFE.out (.iface 109 (.agg #[.slice p9 n c9])) (.put b) ⟨_, rfl, HR9.out⟩ trivial (by show b.length ≤ _; rw [HNL.out]; exact hn) hfew)
 clear ho9 hg9 hb9
 go_wp2_with ((with_reducible refine wpAt 11 ?_); refine wpList_build rfl 109 _ rfl [(0, .slice p9 n c9)] rfl _ (build_put _ _ _) ?_)
 refine (HDO.out).mono ?_
 rintro e w2 ⟨rfl, hl⟩
 have HL := Lib.hid (LeftD.from HB9.out hl)
 clear hl
 go_wp2_with fail
 go_ret
 exact ⟨rfl, HL.out⟩
set_option maxRecDepth 100000 in
theorem cut_in {base db : Nat} {vs : List FV} {d : DD} (w : World) (h : DAt w base db vs d) (hbase : base ≤ w.heap.size) (i : Nat) (hi : i < d.fs.length) (f : FD) (hf : d.fs[i] = f) (m : Nat) (hm : m ≤ f.now.length) (hfew : f.steps.length + 1 ≤ 4398046511104) :
  Calls Tryz.prog 87 #[.pointer (some ⟨db, 0, none⟩), .int .i64 (i : Int), .int .i64 (m : Int)] w (DoP base db vs d i f (.cut m) w) := by
 have HDO := Lib.hid (do_in w h hbase i hi f hf (.iface 169 (.agg #[.int .i64 (m : Int)])) (.cut m) rfl hm (by show 1 ≤ _; omega) hfew)
 clear h hf
 go_enter Tryz.func87, Tryz.ntmps87
 go_wp2_with ((with_reducible refine wpAt 10 ?_); refine wpList_build rfl 169 _ rfl [(0, .int .i64 (m : Int))] rfl _ (build_cut _) ?_)
 refine (HDO.out).mono ?_
 rintro e w2 ⟨rfl, hl⟩
 have HL := Lib.hid hl
 clear hl
 go_wp2_with fail
 go_ret
 exact ⟨rfl, HL.out⟩
def syncD (d : DD) (i : Nat) (f : FD) : DD := if d.down = true then d else if d.burn.down = true then d.burn else setF d.burn i (f.settle (unitsAll f.steps))
def syncE (d : DD) : Int := if d.down = true then 18 else if d.burn.down = true then 18 else 0
theorem sync_down {d : DD} (i : Nat) (f : FD) (h : d.down = true) : syncD d i f = d ∧ syncE d = 18 := by unfold syncD syncE; rw [if_pos h, if_pos h]; exact ⟨rfl, rfl⟩
theorem sync_burnt {d : DD} (i : Nat) (f : FD) (h : d.down = false) (hb : d.burn.down = true) : syncD d i f = d.burn ∧ syncE d = 18 := by
 unfold syncD syncE
 simp [h, hb]
theorem sync_ok {d : DD} (i : Nat) (f : FD) (h : d.down = false) (hb : d.burn.down = false) : syncD d i f = setF d.burn i (f.settle (unitsAll f.steps)) ∧ syncE d = 0 := by
 unfold syncD syncE
 simp [h, hb]
theorem burn_fs (d : DD) : d.burn.fs = d.fs := by unfold DD.burn; split <;> rfl
set_option maxRecDepth 100000 in
set_option maxHeartbeats 800000 in
theorem sync_in {base db : Nat} {vs : List FV} {d : DD} (w : World) (h : DAt w base db vs d) (hbase : base ≤ w.heap.size) (i : Nat) (hi : i < d.fs.length) (f : FD) (hf : d.fs[i] = f) :
  Calls Tryz.prog 79 #[.pointer (some ⟨db, 0, none⟩), .int .i64 (i : Int)] w fun e w' => e = .returned (.int .i64 (syncE d)) ∧ LeftD base db vs (syncD d i f) w w' := by
 have H := Lib.hid h
 have hi3 : i < 3 := by have := h.m3; omega
 have hc := h.cells.2.2.1
 have HI := Lib.hid hi
 have HFE := Lib.hid hf
 have HBASE := Lib.hid hbase
 clear h hf
 cases hdn : d.down with
 | true =>
  have HFIN : Hid (LeftD base db vs (syncD d i f) w w ∧ syncE d = 18) := by
   obtain ⟨e1, e2⟩ := sync_down i f hdn
   show _ ∧ _
   rw [e1]
   exact ⟨⟨vs, H.out, Turns.refl _ _, fun k hk => .inl hk⟩, e2⟩
  rw [hdn] at hc
  clear hdn
  go_enter Tryz.func79, Tryz.ntmps79
  go_wp2_with fail
  refine (at_in w H.out i hi3).mono ?_
  rintro e w' ⟨rfl, rfl⟩
  go_wp2_with fail
  refine (none_any w H.out).mono ?_
  rintro e w' ⟨rfl, rfl⟩
  go_wp2_with fail
  go_ret
  exact ⟨by rw [HFIN.out.2]; rfl, HFIN.out.1⟩
 | false =>
  have HDN := Lib.hid hdn
  rw [hdn] at hc
  clear hdn
  go_enter Tryz.func79, Tryz.ntmps79
  go_wp2_with fail
  refine (at_in w H.out i hi3).mono ?_
  rintro e w' ⟨rfl, rfl⟩
  go_wp2_with fail
  refine (none_any w H.out).mono ?_
  rintro e w' ⟨rfl, rfl⟩
  go_wp2_with fail
  refine (burn_any w H.out).mono ?_
  rintro e w1 ⟨rfl, hd1, ht1⟩
  have HD1 := Lib.hid hd1
  have HT1 := Lib.hid ht1
  clear hd1 ht1 hc
  cases hbd : d.burn.down with
  | true =>
   have HFIN : Hid (LeftD base db vs (syncD d i f) w w1 ∧ syncE d = 18) := by
    obtain ⟨e1, e2⟩ := sync_burnt i f HDN.out hbd
    show _ ∧ _
    rw [e1]
    exact ⟨LeftD.row H.out HD1.out HT1.out, e2⟩
   clear hbd
   go_wp2_with fail
   go_ret
   exact ⟨by rw [HFIN.out.2]; rfl, HFIN.out.1⟩
  | false =>
   have HBD := Lib.hid hbd
   have HI1 : Hid (i < d.burn.fs.length) := by show _ < _; rw [burn_fs]; exact HI.out
   have HF1 : Hid (d.burn.fs[i]'HI1.out = f) := by
    show _ = _
    rw [← HFE.out]
    congr 1
    exact burn_fs d
   have HU := Lib.hid (fileUnits_any w1 HD1.out i HI1.out)
   rw [HF1.out] at HU
   have HUB : Hid (unitsAll f.steps ≤ 4611686018427387904) := by
    show _ ≤ _
    have hv : i < vs.length := by have := H.out.n3; omega
    have h1 := (HD1.out.each i _ _ (List.getElem?_eq_getElem hv) (List.getElem?_eq_getElem HI1.out)).ok.un
    have h2 := HD1.out.few _ (List.getElem_mem HI1.out)
    rw [HF1.out] at h1 h2
    omega
   clear hbd
   go_wp2_with fail
   refine (HU.out).mono ?_
   rintro e w2 ⟨rfl, hb2⟩
   have HB2 := Lib.hid hb2
   have HST := Lib.hid (settle_any w2 (HD1.out.below hb2) (Nat.le_trans HBASE.out (Nat.le_trans HT1.out.size hb2.size)) i HI1.out f HF1.out (unitsAll f.steps) HUB.out)
   clear hb2 HU
   go_wp2_with fail
   refine (HST.out).mono ?_
   rintro e w3 ⟨rfl, ⟨vs3, hd3, hn3⟩, ht3⟩
   have HFIN : Hid (LeftD base db vs (syncD d i f) w w3 ∧ syncE d = 0) := by
    obtain ⟨e1, e2⟩ := sync_ok i f HDN.out HBD.out
    show _ ∧ _
    rw [e1]
    refine ⟨⟨vs3, hd3, ?_, fun k hk => ?_⟩, e2⟩
    ·exact ((HT1.out.trans (Turns.of_below (S := fun k => k = db) HB2.out) (fun _ _ h => h)).trans ht3 (fun _ _ h => h)).imp (fun k _ hk => .inl hk)
    ·rcases hk with hk | ⟨v, hv, hk⟩
     ·exact .inl (.inl hk)
     ·exact .inl (.inr (hn3 v hv k hk))
   clear hd3 ht3 hn3
   go_wp2_with fail
   go_ret
   exact ⟨by rw [HFIN.out.2]; rfl, HFIN.out.1⟩
theorem read_in {base db : Nat} {vs : List FV} {d : DD} (w : World) (h : DAt w base db vs d) (i : Nat) (hi : i < d.fs.length) :
  Calls Tryz.prog 54 #[.pointer (some ⟨db, 0, none⟩), .int .i64 (i : Int)] w (RdP w.heap.size d.fs[i].now w) := by
 have hv : i < vs.length := by have := h.n3; have := h.m3; omega
 have hi3 : i < 3 := by have := h.m3; omega
 have H := Lib.hid h
 have hc := (h.file i hv).2.1
 have hF := h.each i _ _ (List.getElem?_eq_getElem hv) (List.getElem?_eq_getElem hi)
 have hle := usedL_mem hi
 have hused := h.used
 have hroom1 := h.room1
 have hnl : d.fs[i].now.length ≤ 65536 := by have := hF.ok.le; omega
 obtain ⟨pn, cn, hnv, hbn⟩ := hF.now.bs
 rw [hnv] at hc
 generalize d.fs[i].now = l at *
 have HBN := Lib.hid hbn
 have hl1 := hbn.le
 have hl2 := hbn.max
 clear hbn hF hnv h hle hused
 go_enter Tryz.func54, Tryz.ntmps54
 go_wp2_with fail
 refine (at_in w H.out i hi3).mono ?_
 rintro e w' ⟨rfl, rfl⟩
 go_wp2_with (refine wpList_append_nx rfl _ _ 22 rfl (base := w.heap.size) Tryz.underlying22 info8 rfl (by omega) rfl (World.ownsRow_nil _ _ _ _) rfl HBN.out (bytesV_one _) ⟨by omega, by omega⟩ (Nat.le_refl _) ?_)
 intro p9 c9 w9 ho9 hg9 _ _
 have HB9 : Hid (Below w.heap.size w w9) := (Below.refl _ _).grown hg9 (Nat.le_refl _) (fun k hk => by simp [Value.ownBlock] at hk)
 have HR9 : Hid (Rd w9 w.heap.size (.slice p9 l.length c9) l) := Rd.of_own ho9
 clear ho9 hg9
 go_wp2_with fail
 go_ret
 exact ⟨p9, c9, rfl, HR9.out, HB9.out⟩
end Go.Proofs.YtnejjfglkindjaaGreatDoor.Dk
namespace Go.Proofs.YtnejjfglkindjaaGreatDoor.Dk
open Go.RowKit Go.Mir
set_option maxRecDepth 100000 in
theorem kept_in {base db : Nat} {vs : List FV} {d : DD} (w : World) (h : DAt w base db vs d) (i : Nat) (hi : i < d.fs.length) :
  Calls Tryz.prog 56 #[.pointer (some ⟨db, 0, none⟩), .int .i64 (i : Int)] w (RdP w.heap.size d.fs[i].kept w) := by
 have hv : i < vs.length := by have := h.n3; have := h.m3; omega
 have hi3 : i < 3 := by have := h.m3; omega
 have H := Lib.hid h
 have hc := (h.file i hv).1
 have hF := h.each i _ _ (List.getElem?_eq_getElem hv) (List.getElem?_eq_getElem hi)
 have hle := usedL_mem hi
 have hused := h.used
 have hroom1 := h.room1
 have hnl : d.fs[i].kept.length ≤ 65536 := by
  have := hF.ok.all 0
  rw [someU_zero] at this
  omega
 obtain ⟨pn, cn, hnv, hbn⟩ := hF.kept.bs
 rw [hnv] at hc
 generalize d.fs[i].kept = l at *
 have HBN := Lib.hid hbn
 have hl1 := hbn.le
 have hl2 := hbn.max
 clear hbn hF hnv h hle hused
 go_enter Tryz.func56, Tryz.ntmps56
 go_wp2_with fail
 refine (at_in w H.out i hi3).mono ?_
 rintro e w' ⟨rfl, rfl⟩
 go_wp2_with (refine wpList_append_nx rfl _ _ 22 rfl (base := w.heap.size) Tryz.underlying22 info8 rfl (by omega) rfl (World.ownsRow_nil _ _ _ _) rfl HBN.out (bytesV_one _) ⟨by omega, by omega⟩ (Nat.le_refl _) ?_)
 intro p9 c9 w9 ho9 hg9 _ _
 have HB9 : Hid (Below w.heap.size w w9) := (Below.refl _ _).grown hg9 (Nat.le_refl _) (fun k hk => by simp [Value.ownBlock] at hk)
 have HR9 : Hid (Rd w9 w.heap.size (.slice p9 l.length c9) l) := Rd.of_own ho9
 clear ho9 hg9
 go_wp2_with fail
 go_ret
 exact ⟨p9, c9, rfl, HR9.out, HB9.out⟩
set_option maxRecDepth 100000 in
theorem size_in {base db : Nat} {vs : List FV} {d : DD} (w : World) (h : DAt w base db vs d) (i : Nat) (hi : i < d.fs.length) :
  Calls Tryz.prog 58 #[.pointer (some ⟨db, 0, none⟩), .int .i64 (i : Int)] w fun e w' => e = .returned (.int .i64 (d.fs[i].now.length : Int)) ∧ Below w.heap.size w w' := by
 have HR := Lib.hid (read_in w h i hi)
 clear h
 go_enter Tryz.func58, Tryz.ntmps58
 go_wp2_with fail
 refine (HR.out).mono ?_
 rintro e w2 ⟨p, c, rfl, _, hb⟩
 have HB := Lib.hid hb
 clear hb HR
 go_wp2_with fail
 go_ret
 exact ⟨rfl, HB.out⟩
set_option maxRecDepth 100000 in
theorem units_in {base db : Nat} {vs : List FV} {d : DD} (w : World) (h : DAt w base db vs d) (i : Nat) (hi : i < d.fs.length) :
  Calls Tryz.prog 90 #[.pointer (some ⟨db, 0, none⟩), .int .i64 (i : Int)] w fun e w' => e = .returned (.int .i64 (unitsAll d.fs[i].steps : Int)) ∧ Below w.heap.size w w' := by
 have hi3 : i < 3 := by have := h.m3; omega
 have H := Lib.hid h
 have HU := Lib.hid (fileUnits_any w h i hi)
 clear h
 go_enter Tryz.func90, Tryz.ntmps90
 go_wp2_with fail
 refine (at_in w H.out i hi3).mono ?_
 rintro e w' ⟨rfl, rfl⟩
 go_wp2_with fail
 refine (HU.out).mono ?_
 rintro e w2 ⟨rfl, hb⟩
 have HB := Lib.hid hb
 clear hb HU
 go_wp2_with fail
 go_ret
 exact ⟨rfl, HB.out⟩
end Go.Proofs.YtnejjfglkindjaaGreatDoor.Dk
namespace Go.Proofs.YtnejjfglkindjaaGreatDoor.Dk
open Go.RowKit Go.Mir Go.Mir.Parts
def CloneI (base nb B : Nat) (vs : List FV) (d : DD) (w : World) (k : Nat) (wr : World) : Prop :=
 ∃ vsr, DAt wr base nb vsr d ∧ Below B w wr ∧ ∀ (j : Nat) v, vsr[j]? = some v → (j < k → ∀ b, v.sv.ownBlock = some b → B ≤ b) ∧ (k ≤ j → vs[j]? = some v)
def CloneP (base : Nat) (d : DD) (w : World) (e : Ending) (w' : World) : Prop := ∃ nb vs', e = .returned (.pointer (some ⟨nb, 0, none⟩)) ∧ DAt w' base nb vs' d ∧ Below w.heap.size w w' ∧ ∀ k, DOwn nb vs' k → w.heap.size ≤ k
theorem CloneI.done {base nb : Nat} {vs : List FV} {d : DD} {w wr : World} (h : CloneI base nb w.heap.size vs d w 3 wr) (hnb : w.heap.size ≤ nb) : CloneP base d w (.returned (.pointer (some ⟨nb, 0, none⟩))) wr := by
 obtain ⟨vsr, hd, hb, hf⟩ := h
 refine ⟨nb, vsr, rfl, hd, hb, fun k hk => ?_⟩
 rcases hk with rfl | ⟨v, hv, hk⟩
 ·exact hnb
 ·obtain ⟨i, hi⟩ := List.mem_iff_getElem?.1 hv
  have hlt : i < 3 := by rw [← hd.n3]; exact (List.getElem?_eq_some_iff.1 hi).1
  exact (hf i v hi).1 hlt k hk
theorem CloneI.step {base nb B : Nat} {vs vsr : List FV} {d : DD} {w wr w' : World} {k : Nat} {v' : FV} (hd : DAt w' base nb (vsr.set k v') d) (hb : Below B w wr) (ht : Turns (fun k => k = nb) wr w') (hnb : B ≤ nb) (hB : B ≤ wr.heap.size)
  (hf : ∀ (j : Nat) v, vsr[j]? = some v → (j < k → ∀ b, v.sv.ownBlock = some b → B ≤ b) ∧ (k ≤ j → vs[j]? = some v)) (hk : k < vsr.length) (hfr : ∀ b, v'.sv.ownBlock = some b → wr.heap.size ≤ b) : CloneI base nb B vs d w (k + 1) w' := by
 refine ⟨_, hd, hb.trans (ht.below hB (fun i hi => by rw [hi]; exact hnb)), fun j v hj => ?_⟩
 rw [List.getElem?_set] at hj
 by_cases hkj : k = j
 ·subst hkj
  rw [if_pos rfl, if_pos hk] at hj
  cases hj
  exact ⟨fun _ b hb => Nat.le_trans hB (hfr b hb), fun h => by omega⟩
 ·rw [if_neg hkj] at hj
  exact ⟨fun h => (hf j v hj).1 (by omega), fun h => (hf j v hj).2 (by omega)⟩
end Go.Proofs.YtnejjfglkindjaaGreatDoor.Dk
namespace Go.Proofs.YtnejjfglkindjaaGreatDoor.Dk
open Go.RowKit Go.Mir Go.Mir.Parts
theorem LeftD.same {w w' : World} {base db : Nat} {vs : List FV} {d : DD} (h : DAt w base db vs d) (hb : Below w.heap.size w w') : LeftD base db vs d w w' := ⟨vs, h.below hb, Turns.of_below hb, fun _ hk => .inl hk⟩
end Go.Proofs.YtnejjfglkindjaaGreatDoor.Dk
namespace Go.Proofs.YtnejjfglkindjaaGreatDoor.Dk
open Go.RowKit Go.Mir
def crU (us : List Int) (k : Nat) (f : FD) : Nat := match us[k]? with
 | some x => ((x.tmod ((unitsAll f.steps + 1 : Nat) : Int) + ((unitsAll f.steps + 1 : Nat) : Int)).tmod ((unitsAll f.steps + 1 : Nat) : Int)).toNat
 | none => 0
def crF (us : List Int) : Nat → List FD → List FD
 | _, [] => []
 | k, f :: r => f.settle (crU us k f) :: crF us (k + 1) r
def crashD (us : List Int) (d : DD) : DD := ⟨crF us 0 d.fs, d.room, 0, false⟩
theorem crU_le {us : List Int} {k : Nat} {f : FD} : crU us k f ≤ unitsAll f.steps := by
 unfold crU
 cases us[k]? with
 | none => exact Nat.zero_le _
 | some x =>
  dsimp only
  have h0 : (0 : Int) < ((unitsAll f.steps + 1 : Nat) : Int) := by omega
  have h1 := Int.tmod_lt_of_pos (x.tmod ((unitsAll f.steps + 1 : Nat) : Int) + ((unitsAll f.steps + 1 : Nat) : Int)) h0
  omega
structure Ns (w : World) (p : Option Addr) (n c : Nat) (us : List Int) : Prop where
 sl : Sl w p n c 1 (us.map (Value.int .i64))
 count : us.length = n
 bd : ∀ x ∈ us, -9223372036854775808 ≤ x ∧ x ≤ 9223372036854775807
theorem Ns.turn {S : Nat → Prop} {w w' : World} {p : Option Addr} {n c : Nat} {us : List Int} (h : Ns w p n c us) (ht : Turns S w w') (hs : ∀ a, p = some a → ¬ S a.block) : Ns w' p n c us := ⟨h.sl.touch ht (fun a ha _ hk => hs a ha hk), h.count, h.bd⟩
end Go.Proofs.YtnejjfglkindjaaGreatDoor.Dk
namespace Go.Proofs.YtnejjfglkindjaaGreatDoor.Dk
open Go.RowKit Go.Mir Go.Mir.Parts
structure DOp where
 kind : Int
 file : Int
 n : Int
 b : List UInt8
 us : List Int
def dopA (o : DOp) (pb : Option Addr) (cb : Nat) (pu : Option Addr) (cu : Nat) : Array Value := #[.int .i64 o.kind, .int .i64 o.file, .int .i64 o.n, .slice pb o.b.length cb, .slice pu o.us.length cu]
structure DOpAt (w : World) (cs : List Value) (o : DOp) : Prop where
 form : ∃ pb cb pu cu, cs = (dopA o pb cb pu cu).toList ∧ Bs w pb o.b.length cb o.b ∧ Ns w pu o.us.length cu o.us
 kindB : -9223372036854775808 ≤ o.kind ∧ o.kind ≤ 9223372036854775807
 fileB : -9223372036854775808 ≤ o.file ∧ o.file ≤ 9223372036854775807
 nB : -9223372036854775808 ≤ o.n ∧ o.n ≤ 9223372036854775807
theorem Ns.below {w w' : World} {p : Option Addr} {n c : Nat} {us : List Int} (h : Ns w p n c us) (hb : Below w.heap.size w w') : Ns w' p n c us := ⟨h.sl.below hb, h.count, h.bd⟩
theorem DOpAt.below {w w' : World} {cs : List Value} {o : DOp} (h : DOpAt w cs o) (hb : Below w.heap.size w w') : DOpAt w' cs o := by
 obtain ⟨pb, cb, pu, cu, h1, h2, h3⟩ := h.form
 exact ⟨⟨pb, cb, pu, cu, h1, h2.below hb, h3.below hb⟩, h.kindB, h.fileB, h.nB⟩
structure DOps (w : World) (p : Option Addr) (n c : Nat) (os : List DOp) (rows : List (List Value)) : Prop where
 rs : Rs w p n c 5 rows
 count : os.length = n
 each : ∀ (i : Nat) r o, rows[i]? = some r → os[i]? = some o → DOpAt w r o
theorem DOps.below {w w' : World} {p : Option Addr} {n c : Nat} {os : List DOp} {rows : List (List Value)} (h : DOps w p n c os rows) (hb : Below w.heap.size w w') : DOps w' p n c os rows :=
 ⟨h.rs.below hb, h.count, fun i r o h1 h2 => (h.each i r o h1 h2).below hb⟩
theorem DOps.at {w : World} {b o n c : Nat} {os : List DOp} {rows : List (List Value)} (h : DOps w (some ⟨b, o, none⟩) n c os rows) (k : Nat) (hk : k < os.length) : ∃ pb cb pu cu, Bs w pb os[k].b.length cb os[k].b ∧ Ns w pu os[k].us.length cu os[k].us ∧ w.rangeAt b (o + k * 5) (dopA os[k] pb cb pu cu).toList := by
 have hkr : k < rows.length := by rw [h.rs.count, ← h.count]; exact hk
 obtain ⟨pb, cb, pu, cu, e, h1, h2⟩ := (h.each k _ os[k] (List.getElem?_eq_getElem hkr) (List.getElem?_eq_getElem hk)).form
 refine ⟨pb, cb, pu, cu, h1, h2, ?_⟩
 rw [← e]
 exact h.rs.row k hkr
end Go.Proofs.YtnejjfglkindjaaGreatDoor.Dk
namespace Go.Proofs.YtnejjfglkindjaaGreatDoor.Dk
open Go.RowKit Go.Mir Go.Mir.Parts
def FewD (d : DD) (N : Nat) : Prop := ∀ f ∈ d.fs, f.steps.length ≤ N
theorem FewD.mono {d : DD} {N M : Nat} (h : FewD d N) (hm : N ≤ M) : FewD d M := fun f hf => Nat.le_trans (h f hf) hm
theorem FewD.set {d : DD} {N i : Nat} {f : FD} (h : FewD d N) (hf : f.steps.length ≤ N) : FewD (setF d i f) N := fun g hg => by
 rcases List.mem_or_eq_of_mem_set hg with hg | hg
 ·exact h g hg
 ·rw [hg]; exact hf
theorem FewD.burn {d : DD} {N : Nat} (h : FewD d N) : FewD d.burn N := fun g hg => h g (by rw [burn_fs] at hg; exact hg)
theorem FewD.doD {d : DD} {N i : Nat} {f : FD} {s : St} (h : FewD d N) (hf : f.steps.length ≤ N) : FewD (doD d i f s) (N + 1) := by
 unfold Dk.doD
 split
 ·exact h.mono (by omega)
 ·split
  ·exact h.mono (by omega)
  ·refine FewD.burn (FewD.set (h.mono (by omega)) ?_)
   show (f.steps ++ [s]).length ≤ _
   rw [List.length_append]
   simp; omega
theorem FewD.syncD {d : DD} {N i : Nat} {f : FD} (h : FewD d N) : FewD (syncD d i f) N := by
 unfold Dk.syncD
 split
 ·exact h
 ·split
  ·exact h.burn
  ·exact FewD.set h.burn (Nat.zero_le _)
theorem Ns.lt {w : World} {p : Option Addr} {n c : Nat} {us : List Int} (h : Ns w p n c us) : ∀ a, p = some a → 0 < us.length → a.block < w.heap.size := fun a ha h0 => by
 subst ha
 have := h.sl.cell a rfl 0 (.int .i64 us[0]) (by simp [h0])
 exact block_lt_of_cell this
end Go.Proofs.YtnejjfglkindjaaGreatDoor.Dk
namespace Go.Proofs.YtnejjfglkindjaaGreatDoor.Dk
open Go.RowKit Go.Mir
end Go.Proofs.YtnejjfglkindjaaGreatDoor.Dk
namespace Go.Proofs.YtnejjfglkindjaaGreatDoor.Wr
open Go.RowKit Go.Mir Go.Mir.Parts
theorem infoB : (Tryz.prog.info? 5).map (fun i => (i.zero, i.size, i.bytes)) = some (some (.int .u8 0), 1, 1) := by kernel_rfl
structure WAt (w : World) (wb : Nat) (v : Value) (room : Nat) (l : List UInt8) (bad : Int) : Prop where
 blk : w.heap[wb]? = some (.cells #[.bool true, .int .i64 (room : Int), v, .int .i64 bad] 205 (0, 0))
 own : w.ownsRow 0 5 1 v l.length (bytesV l)
 sep : v.ownBlock ≠ some wb
 fits : l.length ≤ room
 roomy : room ≤ 9223372036854775807
def foot (wb : Nat) (v : Value) (k : Nat) : Prop := k = wb ∨ v.ownBlock = some k
theorem WAt.touch {S : Nat → Prop} {w w' : World} {wb : Nat} {v : Value} {room : Nat} {l : List UInt8} {bad : Int} (h : WAt w wb v room l bad) (ht : Turns S w w') (hS : ∀ k, foot wb v k → ¬ S k) : WAt w' wb v room l bad :=
 ⟨ht.keep h.blk (hS _ (.inl rfl)), own_touch h.own ht (fun k hk => hS k (.inr hk)), h.sep, h.fits, h.roomy⟩
theorem WAt.drew {w : World} {wb : Nat} {v : Value} {room : Nat} {l : List UInt8} {bad : Int} (h : WAt w wb v room l bad) : WAt w.drew wb v room l bad := ⟨h.blk, h.own, h.sep, h.fits, h.roomy⟩
theorem WAt.lt {w : World} {wb : Nat} {v : Value} {room : Nat} {l : List UInt8} {bad : Int} (h : WAt w wb v room l bad) : ∀ k, foot wb v k → k < w.heap.size := by
 intro k hk
 rcases hk with rfl | hk
 ·exact (Array.getElem?_eq_some_iff.1 h.blk).1
 ·exact (h.own.lt k hk).2
theorem WAt.cells {w : World} {wb : Nat} {v : Value} {room : Nat} {l : List UInt8} {bad : Int} (h : WAt w wb v room l bad) :
  w.cell? ⟨wb, 0, none⟩ = some (.bool true) ∧ w.cell? ⟨wb, 1, none⟩ = some (.int .i64 (room : Int)) ∧ w.cell? ⟨wb, 2, none⟩ = some v ∧ w.cell? ⟨wb, 3, none⟩ = some (.int .i64 bad) ∧ w.frozen? ⟨wb, 2, none⟩ = false ∧ w.frozen? ⟨wb, 3, none⟩ = false := by
 refine ⟨?_, ?_, ?_, ?_, frozen_of_row _ _ _ _ _ h.blk, frozen_of_row _ _ _ _ _ h.blk⟩ <;> (rw [cell_of_row _ _ _ _ _ _ h.blk]; rfl)
theorem none_made (wb : Nat) (w : World) (hc : w.cell? ⟨wb, 0, none⟩ = some (.bool true)) :
  Calls Tryz.prog 128 #[.pointer (some ⟨wb, 0, none⟩)] w fun e w' => e = .returned (.bool false) ∧ w = w' := by
 go_enter Tryz.func128, Tryz.ntmps128
 go_wp2
 go_ret
 exact ⟨rfl, rfl⟩
theorem fail_any (wb : Nat) (v : Value) (room : Nat) (l : List UInt8) (bad e0 : Int) (w : World) (h : WAt w wb v room l bad) :
  Calls Tryz.prog 129 #[.pointer (some ⟨wb, 0, none⟩), .int .i64 e0] w fun e w' => e = .returned (.tuple #[]) ∧ WAt w' wb v room l (if bad = 0 then e0 else bad) ∧ Turns (foot wb v) w w' := by
 obtain ⟨c0, c1, c2, c3, f2, f3⟩ := h.cells
 have HW := Lib.hid h
 by_cases hb : bad = 0
 ·subst hb
  go_enter Tryz.func129, Tryz.ntmps129
  go_wp2_with (go_at_call 128; refine (none_made _ _ c0).mono ?_; rintro e w' ⟨rfl, rfl⟩)
  go_end0
  refine ⟨rfl, ?_, (Turns.refl _ _).setCell (fun _ => .inl rfl) _⟩
  try rw [if_pos rfl]
  exact ⟨by rw [heap_setCell_same _ _ _ _ _ _ HW.out.blk]; rfl, own_touch HW.out.own ((Turns.refl (fun k => k = wb) _).setCell (fun _ => rfl) _) (fun k hk e => HW.out.sep (by rw [hk, e])), HW.out.sep, HW.out.fits, HW.out.roomy⟩
 ·have hb' : (bad == 0) = false := by simp [hb]
  go_enter Tryz.func129, Tryz.ntmps129
  go_wp2_with (go_at_call 128; refine (none_made _ _ c0).mono ?_; rintro e w' ⟨rfl, rfl⟩)
  go_end0
  try rw [if_neg hb]
  exact ⟨rfl, HW.out, Turns.refl _ _⟩
def putS (room : Nat) (l : List UInt8) (bad : Int) (fits : Bool) (ps : List (List UInt8)) : List UInt8 × Int :=
 if bad = 0 then (if fits then (if total ps ≤ room - l.length then (l ++ ps.flatten, 0) else (l, 3)) else (l, 1)) else (l, bad)
def Left (wb : Nat) (v : Value) (room : Nat) (r : List UInt8 × Int) (w w' : World) : Prop :=
 ∃ v', WAt w' wb v' room r.1 r.2 ∧ Turns (foot wb v) w w' ∧ NextV w v v'
set_option maxRecDepth 100000 in
set_option maxHeartbeats 400000 in
theorem put_sum (p : Option Addr) (n c : Nat) (ls : List (List UInt8)) (wb : Nat) (v : Value) (room : Nat) (l : List UInt8) (fits : Bool) (w : World) (h : WAt w wb v room l 0)
  (hP : ∀ w', Turns (foot wb v) w w' → Pts w' p n c ls) (hs : total ls ≤ 70368744177664) (hl : l.length ≤ 70368744177664) :
  Calls Tryz.prog 118 #[.pointer (some ⟨wb, 0, none⟩), .bool fits, .slice p n c] w fun e w' => e = .returned (.tuple #[]) ∧ Left wb v room (putS room l 0 fits ls) w w' := by
 obtain ⟨pv, cv, hv, hsv⟩ := own_sl h.own
 subst hv
 have hvle := hsv.le
 have hvmax := hsv.max
 clear hsv
 obtain ⟨c0, c1, c2, c3, f2, f3⟩ := h.cells
 have hroom := h.roomy
 have hfit := h.fits
 have HW := Lib.hid h
 have hp := hP w (Turns.refl _ _)
 have hle := hp.le
 have hmax := hp.max
 have hn := hp.len
 have HP := Lib.hid hp
 have HPP := Lib.hid hP
 clear h hp hP
 go_enter Tryz.func118, Tryz.ntmps118
 go_wp2_with (go_at_call 128; refine (none_made _ _ c0).mono ?_; rintro e w' ⟨rfl, rfl⟩)
 go_loop [6, 23] (fun x j => ∃ k : Nat, k ≤ n ∧ j = .int .i64 k ∧ x = .int .i64 ((total (ls.take k) : Nat) : Int)) (fun _ j => n - (intOf j).toNat)
 case atStart => exact ⟨0, by omega, rfl, rfl⟩
 case round =>
  obtain ⟨k, hk, rfl, rfl⟩ := hrel
  have htl := total_le ls k
  by_cases hlt : k < n
  ·obtain ⟨b, o, rfl⟩ := HP.out.addr (by omega)
   obtain ⟨q, m, d, hc, hB⟩ := HP.out.cell _ rfl k (by omega)
   rw [add_none] at hc
   have htk := total_take ls k (by omega)
   have htl' := total_le ls (k + 1)
   rw [hB.length] at htk
   have HTK := Lib.hid htk
   have hsum : total (ls.take k) + m ≤ 4611686018427387904 := by omega
   clear htk htl' hB
   generalize hT : total (ls.take k) = T at *
   have HT := Lib.hid hT
   clear hT
   go_wp2
   go_round
   case rel => exact ⟨k + 1, by omega, by go_num, by rw [HTK.out]; go_num⟩
   case measure => simp [intOf]; omega
  ·have hk' : k = ls.length := by omega
   rw [hk', List.take_length]
   generalize hT : total ls = T at *
   have HT := Lib.hid hT
   clear hT htl
   cases fits with
   | false =>
    go_wp2_with fail
    refine (fail_any wb _ room l 0 1 _ HW.out).mono ?_
    rintro e w1 ⟨rfl, hw1, ht1⟩
    have HW1 := Lib.hid hw1
    have HT1 := Lib.hid ht1
    clear hw1 ht1
    go_wp2_with fail
    refine bodyPost_ret (results_none rfl _ _ _) rfl ?_
    exact ⟨rfl, _, HW1.out, HT1.out, fun _ hk _ => hk⟩
   | true =>
    by_cases hT2 : T ≤ room - l.length
    ·have hcmp : decide ((room : Int) - (l.length : Int) < (T : Int)) = false := by simp; omega
     have hput : Hid (putS room l 0 true ls = (l ++ ls.flatten, 0)) := by show _ = _; simp [putS, HT.out, hT2]
     have htot : l.length + T ≤ 140737488355328 ∧ l.length + T ≤ room := by omega
     go_wp2_with fail
     go_quiet (fail)
     go_wp2_with fail
     have HW2 : Hid (WAt (w.drewN nq) wb (.slice pv l.length cv) room l 0) := ⟨HW.out.blk, HW.out.own, HW.out.sep, HW.out.fits, HW.out.roomy⟩
     have HT2 : Hid (Turns (foot wb (.slice pv l.length cv)) w (w.drewN nq)) := ⟨rfl, rfl, rfl, Nat.le_refl _, fun _ _ _ => rfl⟩
     clear c0 c1 c2 c3 f2 f3
     generalize w.drewN nq = w2 at *
     go_loopw [53] (fun j wr => ∃ (k : Nat) (p1 : Option Addr) (n1 c1 : Nat), k ≤ n ∧ j = .int .i64 k ∧ WAt wr wb (.slice p1 n1 c1) room (l ++ (ls.take k).flatten) 0 ∧ Turns (foot wb (.slice pv l.length cv)) w wr ∧ NextV w (.slice pv l.length cv) (.slice p1 n1 c1)) (fun j _ => n - (intOf j).toNat)
     case atStart => exact ⟨0, pv, l.length, cv, by omega, rfl, by simpa using HW2.out, HT2.out, fun _ hk _ => hk⟩
     case round =>
      obtain ⟨k, p1, n1, c1, hk, rfl, hw1, ht1, hnx1⟩ := hrel
      by_cases hlt : k < n
      ·obtain ⟨e0, e1, e2, e3, g2, g3⟩ := hw1.cells
       obtain ⟨b, o, rfl⟩ := HP.out.addr (by omega)
       obtain ⟨q, m, d, hc, hB⟩ := (HPP.out wr ht1).cell _ rfl k (by omega)
       rw [add_none] at hc
       have hlen : (l ++ (ls.take k).flatten).length = l.length + total (ls.take k) := by rw [List.length_append, total_flatten]
       have htk := total_take ls k (by omega)
       have htl' := total_le ls (k + 1)
       rw [hB.length] at htk
       rw [HT.out] at htl'
       have hfl : Hid (l ++ (ls.take (k+1)).flatten = (l ++ (ls.take k).flatten) ++ ls[k]) := by
        show _ = _
        rw [take_snoc ls k (by omega), List.flatten_append]; simp
       have hbd : Hid ((l ++ (ls.take k).flatten).length + m ≤ 9223372036854775807 ∧ ((l ++ (ls.take k).flatten).length + m) * 1 ≤ 140737488355328) := by
        show _ ∧ _
        rw [hlen]; omega
       have hfit' : Hid ((l ++ (ls.take (k+1)).flatten).length ≤ room) := by
        show _ ≤ _
        rw [List.length_append, total_flatten]; omega
       have HBm := Lib.hid hB.length
       have HS := Lib.hid hB
       have hleq : (l ++ (ls.take k).flatten).length + m = (l ++ (ls.take (k+1)).flatten).length := by rw [hfl.out, ← hB.length]; exact List.length_append.symm
       clear hlen htk htl' hB
       generalize l ++ (ls.take k).flatten = L at *
       generalize hL' : l ++ (ls.take (k+1)).flatten = L' at *
       have HL' := Lib.hid hL'
       have HLQ := Lib.hid hleq
       have HW1 := Lib.hid hw1
       have HT1 := Lib.hid ht1
       have HN1 := Lib.hid hnx1
       clear hw1 ht1 hnx1 hL' hleq
       go_wp2_with (at_builtin; refine wpList_append_nx rfl _ _ 22 rfl (base := 0) Tryz.underlying22 infoB rfl (by omega) rfl HW1.out.own rfl HS.out (bytesV_one _) hbd.out (Nat.zero_le _) ?_)
       intro p' c' w3 hown hg hnx hne
       have e2' : w3.cell? ⟨wb, 2, none⟩ = some (.slice p1 n1 c1) := hg.cell e2 (fun e => HW1.out.sep e.symm)
       have g2' : w3.frozen? ⟨wb, 2, none⟩ = false := by
        rw [World.frozen?_of_block (hg.block wb (Array.getElem?_eq_some_iff.1 HW1.out.blk).1 (fun e => HW1.out.sep e.symm))]; exact g2
       have HO := Lib.hid hown
       have HG := Lib.hid hg
       have HNX := Lib.hid hnx
       clear hown hg hnx hne
       go_wp2_with fail
       go_roundw
       case rel =>
        have hlt1 : wb < wr.heap.size := (Array.getElem?_eq_some_iff.1 HW1.out.blk).1
        have hb3 : w3.heap[wb]? = some (.cells #[.bool true, .int .i64 (room : Int), .slice p1 n1 c1, .int .i64 0] 205 (0, 0)) := by
         rw [HG.out.block wb hlt1 (fun e => HW1.out.sep e.symm)]; exact HW1.out.blk
        have hsep : ¬ (Value.slice p' (L.length + m) c').ownBlock = some wb := by
         intro e
         rcases HNX.out wb e with h | h
         ·exact HW1.out.sep h
         ·omega
        refine ⟨k + 1, p', L.length + m, c', by omega, by go_num, ?_, ?_, ?_⟩
        rw [HL'.out]
        refine ⟨?_, ?_, hsep, hfit'.out, hroom⟩
        ·rw [heap_setCell_same _ _ _ _ _ _ hb3]; rfl
        ·have := own_touch HO.out ((Turns.refl (fun k => k = wb) _).setCell (p := ⟨wb, 2, none⟩) (fun _ => rfl) (.slice p' (L.length + m) c')) (fun k hk e => hsep (by rw [hk, e]))
         rw [hfl.out, bytesV_append, ← hfl.out, ← HLQ.out]
         exact this
        ·refine HT1.out.trans ((Turns.grown (S := foot wb (.slice p1 n1 c1)) HG.out (fun k hk => .inr hk)).setCell (fun _ => .inl rfl) _) ?_
         intro i hi hfi
         rcases hfi with rfl | hfi
         ·exact .inl rfl
         ·exact .inr (HN1.out i hfi hi)
        ·intro j hj hjl
         rcases HNX.out j hj with h | h
         ·exact HN1.out j h hjl
         ·have := HT1.out.size; omega
       case measure => simp [intOf]; omega
      ·have hk' : k = ls.length := by omega
       rw [hk', List.take_length] at hw1
       have HW1 := Lib.hid hw1
       have HT1 := Lib.hid ht1
       have HN1 := Lib.hid hnx1
       clear hw1 ht1 hnx1
       go_wp2_with fail
       go_end0
       exact ⟨rfl, _, by rw [hput.out]; exact HW1.out, HT1.out, HN1.out⟩
    ·have hcmp : decide ((room : Int) - (l.length : Int) < (T : Int)) = true := by simp; omega
     have hput : Hid (putS room l 0 true ls = (l, 3)) := by show _ = _; simp [putS, HT.out, hT2]
     go_wp2_with fail
     go_quiet (fail)
     go_wp2_with fail
     have HW2 : Hid (WAt (w.drewN nq) wb (.slice pv l.length cv) room l 0) := ⟨HW.out.blk, HW.out.own, HW.out.sep, HW.out.fits, HW.out.roomy⟩
     have HT2 : Hid (Turns (foot wb (.slice pv l.length cv)) w (w.drewN nq)) := ⟨rfl, rfl, rfl, Nat.le_refl _, fun _ _ _ => rfl⟩
     refine (fail_any wb _ room l 0 3 _ HW2.out).mono ?_
     rintro e w1 ⟨rfl, hw1, ht1⟩
     have HW1 := Lib.hid hw1
     have HT1 : Hid (Turns (foot wb (.slice pv l.length cv)) w w1) := HT2.out.trans ht1 (fun _ _ h => h)
     clear hw1 ht1
     go_wp2_with fail
     refine bodyPost_ret (results_none rfl _ _ _) rfl ?_
     exact ⟨rfl, _, by rw [hput.out]; exact HW1.out, HT1.out, fun _ hk _ => hk⟩
end Go.Proofs.YtnejjfglkindjaaGreatDoor.Wr
namespace Go.Proofs.YtnejjfglkindjaaGreatDoor.Wr
open Go.RowKit Go.Mir Go.Mir.Parts
theorem Left.refl {w : World} {wb : Nat} {v : Value} {room : Nat} {l : List UInt8} {bad : Int} (h : WAt w wb v room l bad) : Left wb v room (l, bad) w w := ⟨v, h, Turns.refl _ _, fun _ hk _ => hk⟩
theorem put_any (p : Option Addr) (n c : Nat) (ls : List (List UInt8)) (wb : Nat) (v : Value) (room : Nat) (l : List UInt8) (bad : Int) (fits : Bool) (w : World) (h : WAt w wb v room l bad)
  (hP : ∀ w', Turns (foot wb v) w w' → Pts w' p n c ls) (hs : total ls ≤ 70368744177664) (hl : l.length ≤ 70368744177664) :
  Calls Tryz.prog 118 #[.pointer (some ⟨wb, 0, none⟩), .bool fits, .slice p n c] w fun e w' => e = .returned (.tuple #[]) ∧ Left wb v room (putS room l bad fits ls) w w' := by
 by_cases hb : bad = 0
 ·subst hb
  exact put_sum p n c ls wb v room l fits w h hP hs hl
 ·obtain ⟨c0, c1, c2, c3, f2, f3⟩ := h.cells
  have hb' : (bad != 0) = true := by simp [hb]
  have HL : Hid (Left wb v room (putS room l bad fits ls) w w) := by
   show Left _ _ _ _ _ _
   rw [putS, if_neg hb]; exact Left.refl h
  clear h hP
  go_enter Tryz.func118, Tryz.ntmps118
  go_wp2_with (go_at_call 128; refine (none_made _ _ c0).mono ?_; rintro e w' ⟨rfl, rfl⟩)
  refine bodyPost_ret (results_none rfl _ _ _) rfl ?_
  exact ⟨rfl, HL.out⟩
theorem stable1 {w : World} {S : Nat → Prop} {p : Option Addr} {n c b : Nat} {l : List UInt8} (hB : ∀ w', Turns S w w' → Bs w' p n c l) (hS : ∀ k, S k → k < w.heap.size) (t : TypeId) (hb : b = w.heap.size) :
  ∀ w', Turns S (w.alloc (.cells #[.slice p n c] t)) w' → Pts w' (some ⟨b, 0, none⟩) 1 1 [l] := by
 intro w' ht
 subst hb
 have hT : Turns S w w' := ((Turns.refl S w).alloc _).trans ht (fun _ _ h => h)
 have hrow : w'.heap[w.heap.size]? = some (.cells #[.slice p n c] t) := ht.keep (heap_alloc_last _ _) (fun h => by have := hS _ h; omega)
 refine ⟨rfl, Nat.le_refl _, by omega, fun h => (by cases h), fun a ha j hj => ?_⟩
 obtain rfl := Option.some.inj ha
 obtain rfl : j = 0 := by simp at hj; omega
 exact ⟨p, n, c, by rw [add_none, cell_of_row _ _ _ _ _ _ hrow]; rfl, hB w' hT⟩
theorem Left.alloc {w : World} {wb : Nat} {v : Value} {room : Nat} {r : List UInt8 × Int} {o : Obj} {w' : World} (h : Left wb v room r (w.alloc o) w') : Left wb v room r w w' := by
 obtain ⟨v', h1, h2, h3⟩ := h
 exact ⟨v', h1, ((Turns.refl _ w).alloc o).trans h2 (fun _ _ h => h), fun k hk hlt => h3 k hk (by simp; omega)⟩
theorem WAt.alloc {w : World} {wb : Nat} {v : Value} {room : Nat} {l : List UInt8} {bad : Int} (h : WAt w wb v room l bad) (o : Obj) : WAt (w.alloc o) wb v room l bad :=
 h.touch (S := fun _ => False) ((Turns.refl _ w).alloc o) (fun _ _ h => h)
theorem bytes_any (p : Option Addr) (n c : Nat) (b : List UInt8) (wb : Nat) (v : Value) (room : Nat) (l : List UInt8) (bad : Int) (w : World) (h : WAt w wb v room l bad)
  (hB : ∀ w', Turns (foot wb v) w w' → Bs w' p n c b) (hs : b.length ≤ 70368744177664) (hl : l.length ≤ 70368744177664) :
  Calls Tryz.prog 82 #[.pointer (some ⟨wb, 0, none⟩), .slice p n c] w fun e w' => e = .returned (.tuple #[]) ∧ Left wb v room (putS room l bad true [b]) w w' := by
 have hle := (hB w (Turns.refl _ _)).le
 have hmax := (hB w (Turns.refl _ _)).max
 have HS := Lib.hid (fun t b hb => stable1 hB h.lt t hb (b := b))
 have HW := Lib.hid h
 clear hB h
 go_enter Tryz.func82, Tryz.ntmps82
 go_wp2_with (go_at_call 118; refine (put_any _ _ _ [b] wb v room l bad true _ (HW.out.alloc _) (HS.out _ _ rfl) (by simpa [total] using hs) hl).mono ?_; rintro e w1 ⟨rfl, hl1⟩)
 go_end0
 exact ⟨rfl, hl1.alloc⟩
theorem err_any (wb : Nat) (v : Value) (room : Nat) (l : List UInt8) (bad : Int) (w : World) (h : WAt w wb v room l bad) :
  Calls Tryz.prog 119 #[.pointer (some ⟨wb, 0, none⟩)] w fun e w' => e = .returned (.int .i64 bad) ∧ w = w' := by
 obtain ⟨c0, c1, c2, c3, f2, f3⟩ := h.cells
 clear h
 go_enter Tryz.func119, Tryz.ntmps119
 go_wp2_with (go_at_call 128; refine (none_made _ _ c0).mono ?_; rintro e w' ⟨rfl, rfl⟩)
 go_ret
 exact ⟨rfl, rfl⟩
theorem done_any (wb : Nat) (v : Value) (room : Nat) (l : List UInt8) (bad : Int) (w : World) (h : WAt w wb v room l bad) (hl : l.length ≤ 140737488355328) :
  Calls Tryz.prog 83 #[.pointer (some ⟨wb, 0, none⟩)] w fun e w' =>
   (∃ p n c, e = .returned (.tuple #[.slice p n c, .int .i64 bad]) ∧ w'.ownsRow w.heap.size 5 1 (.slice p n c) n (bytesV (if bad = 0 then l else []))) ∧ Below w.heap.size w w' := by
 obtain ⟨pv, cv, hv, hsv⟩ := own_sl h.own
 subst hv
 obtain ⟨c0, c1, c2, c3, f2, f3⟩ := h.cells
 have HW := Lib.hid h
 have HV := Lib.hid hsv
 clear h hsv
 by_cases hb : bad = 0
 ·subst hb
  have hbd : Hid (0 + l.length ≤ 9223372036854775807 ∧ (0 + l.length) * 1 ≤ 140737488355328) := by
   show _ ∧ _; omega
  go_enter Tryz.func83, Tryz.ntmps83
  go_wp2_with (first | (go_at_call 119; refine (err_any _ _ _ _ _ _ HW.out).mono ?_; rintro e w' ⟨rfl, rfl⟩) | (at_builtin; refine wpList_append_nx rfl _ _ 22 rfl (base := w.heap.size) Tryz.underlying22 infoB rfl (by omega) rfl (World.ownsRow_nil _ _ _ _) rfl HV.out (bytesV_one _) hbd.out (Nat.le_refl _) ?_))
  intro p' c' w1 hown hg hnx hne
  have HO : Hid (w1.ownsRow w.heap.size 5 1 (.slice p' (0 + l.length) c') (0 + l.length) (bytesV (if (0 : Int) = 0 then l else []))) := by
   show World.ownsRow _ _ _ _ _ _ _
   simpa using hown
  have HG : Hid (Below w.heap.size w w1) := (Below.refl _ _).grown hg (Nat.le_refl _) (fun k hk => by simp [Value.ownBlock] at hk)
  clear hown hg hnx hne
  go_wp2
  go_ret2
  refine ⟨⟨p', _, c', rfl, ?_⟩, HG.out⟩
  have := HO.out
  rw [Nat.zero_add] at this
  exact this
 ·have hb' : (bad != 0) = true := by simp [hb]
  go_enter Tryz.func83, Tryz.ntmps83
  go_wp2_with (go_at_call 119; refine (err_any _ _ _ _ _ _ HW.out).mono ?_; rintro e w' ⟨rfl, rfl⟩)
  go_ret2
  have ho : w.ownsRow w.heap.size 5 1 (.slice none 0 0) 0 (bytesV (if bad = 0 then l else [])) := by rw [if_neg hb]; exact World.ownsRow_nil _ _ _ _
  exact ⟨⟨none, 0, 0, rfl, by simpa [hb] using ho⟩, Below.refl _ _⟩
theorem new_any (room : Int) (w : World) (hr : room ≤ 9223372036854775807) :
  Calls Tryz.prog 80 #[.int .i64 room] w fun e w' => e = .returned (.pointer (some ⟨w.heap.size, 0, none⟩)) ∧ WAt w' w.heap.size (.slice none 0 0) room.toNat [] 0 ∧ Below w.heap.size w w' := by
 have key : Hid (∀ x : Int, x = (room.toNat : Int) → WAt (w.alloc (.cells #[.bool true, .int .i64 x, .slice none 0 0, .int .i64 0] 205)) w.heap.size (.slice none 0 0) room.toNat [] 0) := by
  intro x hx
  subst hx
  exact ⟨heap_alloc_last _ _, World.ownsRow_nil _ _ _ _, by simp [Value.ownBlock], by simp, by omega⟩
 go_enter Tryz.func80, Tryz.ntmps80
 go_wp2
 all_goals
  go_ret
  exact ⟨rfl, key.out _ (by omega), Below.allocs _ _⟩
end Go.Proofs.YtnejjfglkindjaaGreatDoor.Wr
namespace Go.Proofs.YtnejjfglkindjaaGreatDoor.Wr
open Go.RowKit Go.Mir Go.Mir.Parts
theorem infoS : (Tryz.prog.info? 22).map (fun i => (i.zero, i.size, i.bytes)) = some (some (.slice none 0 0), 1, 24) := by kernel_rfl
def nb (n j : Nat) : UInt8 := UInt8.ofNat (n / 2 ^ (8 * (7 - j)))
def numArr (n k : Nat) : Array Value := ((List.range 8).map fun j => Value.int .u8 (if 8 ≤ j + k then ((nb n j).toNat : Int) else 0)).toArray
theorem numArr_size (n k : Nat) : (numArr n k).size = 8 := by simp [numArr]
theorem numArr_get (n k j : Nat) (hj : j < 8) : (numArr n k)[j]? = some (Value.int .u8 (if 8 ≤ j + k then ((nb n j).toNat : Int) else 0)) := by simp [numArr, hj]
theorem nb_int (n k : Nat) (hk : k < 8) : ((n : Int) / 2 ^ (8 * k)) % 256 = ((nb n (7 - k)).toNat : Int) := by
 have e : ((n : Int) / 2 ^ (8 * k)) = ((n / 2 ^ (8 * k) : Nat) : Int) := by rw [Int.natCast_ediv, Int.natCast_pow]; rfl
 rw [e, nb, UInt8.toNat_ofNat', show 7 - (7 - k) = k from by omega]
 omega
theorem numArr_set (n k : Nat) (hk : k < 8) : (numArr n k).setIfInBounds (7 - k) (.int .u8 ((nb n (7 - k)).toNat : Int)) = numArr n (k + 1) := by
 apply Array.ext_getElem?
 intro j
 by_cases hj : j < 8
 ·rw [Array.getElem?_setIfInBounds, numArr_get _ _ _ hj, numArr_get _ _ _ hj, numArr_size]
  by_cases e : 7 - k = j
  ·subst e; simp [show 7 - k < 8 by omega, show 8 ≤ 7 - k + (k + 1) by omega]
  ·rw [if_neg e]
   have : (8 ≤ j + k) ↔ (8 ≤ j + (k + 1)) := by omega
   simp [this]
 ·rw [Array.getElem?_eq_none, Array.getElem?_eq_none] <;> simp [numArr_size] <;> omega
def Z8 : Array Value := Array.replicate 8 (.int .u8 0)
theorem numArr_0 (n : Nat) : numArr n 0 = Z8 := by
 apply Array.ext_getElem?
 intro j
 by_cases hj : j < 8
 ·rw [numArr_get _ _ _ hj, if_neg (by omega)]; simp [Z8, hj]
 ·rw [Array.getElem?_eq_none, Array.getElem?_eq_none] <;> simp [numArr_size, Z8] <;> omega
def be (n width : Nat) : List UInt8 := (List.range width).map fun i => nb n (8 - width + i)
theorem be_length (n width : Nat) : (be n width).length = width := by simp [be]
def numS (room : Nat) (l : List UInt8) (bad : Int) (n : Nat) (width : Int) : List UInt8 × Int :=
 if 1 ≤ width ∧ width ≤ 8 ∧ (width = 8 ∨ n < 2 ^ (8 * width.toNat)) then putS room l bad true [be n width.toNat] else putS room l bad false [[]]
theorem putS_false (room : Nat) (l : List UInt8) (bad : Int) (ps qs : List (List UInt8)) : putS room l bad false ps = putS room l bad false qs := by simp [putS]
theorem num_bs {w' : World} {b n k : Nat} {t : TypeId} (hrow : w'.heap[b]? = some (.cells (numArr n 8) t (0, 0))) (hk : k ≤ 8) : Bs w' (some ⟨b, 8 - k, none⟩) k k (be n k) :=
 ⟨by rw [bytesV_length, be_length, Nat.mul_one], Nat.le_refl _, by omega, fun h => (by cases h), fun a ha j u hu => by
  obtain rfl := Option.some.inj ha
  have hj : j < k := by
   have := (List.getElem?_eq_some_iff.1 hu).1
   rwa [bytesV_length, be_length] at this
  rw [add_none, cell_of_row _ _ _ _ _ _ hrow, numArr_get _ _ _ (by omega), if_pos (by omega), ← hu]
  rw [bytesV_get _ _ (by rw [be_length]; exact hj)]
  simp [be]⟩
set_option maxRecDepth 100000 in
set_option maxHeartbeats 400000 in
theorem num_any (n : Nat) (width : Int) (wb : Nat) (v : Value) (room : Nat) (l : List UInt8) (bad : Int) (w : World) (h : WAt w wb v room l bad) (_hn : n < 18446744073709551616) (hw1 : -9223372036854775808 ≤ width) (hw2 : width ≤ 9223372036854775807) (hl : l.length ≤ 70368744177664) :
  Calls Tryz.prog 81 #[.pointer (some ⟨wb, 0, none⟩), .int .u64 (n : Int), .int .i64 width] w fun e w' => e = .returned (.tuple #[]) ∧ Left wb v room (numS room l bad n width) w w' := by
 have hz : ∀ w, (zeroValue 206).run Tryz.prog w = .ok (.agg Z8) w := fun w => by kernel_rfl
 have HW := Lib.hid h
 have hlt0 := Lib.hid h.lt
 clear h
 go_enter Tryz.func81, Tryz.ntmps81
 go_wp2
 go_loopw [10] (fun j wr => ∃ k : Nat, k ≤ 8 ∧ j = .int .i64 k ∧ wr.heap.size = w.heap.size + 1 ∧ wr.heap[w.heap.size]? = some (.cells (numArr n k) 206 (0, 0)) ∧ Below w.heap.size w wr) (fun j _ => 8 - (intOf j).toNat)
 case atStart => exact ⟨0, by omega, rfl, by simp, by rw [numArr_0]; exact heap_alloc_last _ _, Below.allocs _ _⟩
 case round =>
  obtain ⟨k, hk, rfl, hsz, hb0, hbl⟩ := hrel
  by_cases hlt : k < 8
  ·have hd : decide ((k:Int) < 8) = true := by simp; omega
   have hc : wr.cell? ⟨w.heap.size, 7 - k, none⟩ = some (.int .u8 0) := by
    rw [cell_of_row _ _ _ _ _ _ hb0, numArr_get _ _ _ (by omega), if_neg (by omega)]
   have hf := frozen_of_row _ _ (7 - k) _ _ hb0
   have hv := nb_int n k hlt
   go_wp2
   go_roundw
   case rel =>
    exact ⟨k + 1, by omega, by go_num, by simp [World.setCell, hsz], by rw [heap_setCell_same _ _ _ _ _ _ hb0, numArr_set n k hlt], hbl.setCell (by simp) _⟩
   case measure => simp [intOf]; omega
  ·have hd : decide ((k:Int) < 8) = false := by simp; omega
   have hk8 : k = 8 := by omega
   have hrow : wr.heap[w.heap.size]? = some (.cells (numArr n 8) 206 (0, 0)) := by rw [← hk8]; exact hb0
   have HR := Lib.hid hrow
   have HB := Lib.hid hbl
   have HW' : Hid (WAt wr wb v room l bad) := HW.out.touch (Turns.of_below (S := fun _ => False) hbl) (fun _ _ h => h)
   have HP : Hid (∀ m : Nat, m ≤ 8 → ∀ b' t, b' = wr.heap.size → ∀ w', Turns (foot wb v) (wr.alloc (.cells #[.slice (some ⟨w.heap.size, 8 - m, none⟩) m m] t)) w' → Pts w' (some ⟨b', 0, none⟩) 1 1 [be n m]) := by
    intro m hm b' t hb'
    refine stable1 (S := foot wb v) (fun w' ht => ?_) (fun i hi => by have := hlt0.out i hi; omega) t hb'
    exact num_bs (ht.keep hrow (fun hf => by have := hlt0.out _ hf; omega)) hm
   clear hb0 hbl hrow
   have hfin : Hid (∀ r o w1, Left wb v room r (wr.alloc o) w1 → Left wb v room r w w1) := by
    intro r o w1 h1
    obtain ⟨v', h1, h2, h3⟩ := h1.alloc
    exact ⟨v', h1, (Turns.of_below HB.out).trans h2 (fun _ _ h => h), fun i hi hlt => h3 i hi (by omega)⟩
   by_cases hw : 1 ≤ width ∧ width ≤ 8
   ·obtain ⟨m, rfl⟩ : ∃ m : Nat, width = (m : Int) := ⟨width.toNat, by omega⟩
    have hsl : ∀ wx, (Instr.sliceAt 206 (.pointer (some ⟨w.heap.size, 0, none⟩)) (some (.int .i64 (8 - (m : Int)))) none none).run Tryz.prog wx = .ok (.slice (some ⟨w.heap.size, 8 - m, none⟩) m m) wx := fun wx => by
     have h1 := run_sliceAt_from (P := Tryz.prog) wx 206 5 8 1 Tryz.underlying206 (by kernel_rfl) ⟨w.heap.size, 0, none⟩ .i64 (8 - (m : Int)) (8 - m) (by omega) (by omega)
     rw [h1, add_none, show 0 + (8 - m) * 1 = 8 - m by omega, show 8 - (8 - m) = m by omega]
    have htot : total [be n m] ≤ 70368744177664 := by simp [total, be_length]; omega
    have HTO := Lib.hid htot
    clear htot
    have hm1 : (1 : Int) ≤ (m : Int) := by omega
    have hm8 : (m : Int) ≤ 8 := by omega
    by_cases hm : m = 8
    ·have he : ((m : Int) == 8) = true := by rw [beq_iff_eq]; omega
     have hnum : Hid (numS room l bad n (m : Int) = putS room l bad true [be n m]) := by
      show _ = _
      rw [numS, if_pos ⟨hw.1, hw.2, .inl (by rw [hm]; rfl)⟩, Int.toNat_natCast]
     clear hm
     go_wp2_with (go_at_call 118; refine (put_any _ _ _ [be n m] wb v room l bad true _ (HW'.out.alloc _) (HP.out m (by omega) _ _ (by omega)) HTO.out hl).mono ?_; rintro e w1 ⟨rfl, hl1⟩)
     go_end0
     exact ⟨rfl, by rw [hnum.out]; exact hfin.out _ _ _ hl1⟩
    ·have he : ((m : Int) == 8) = false := by rw [beq_eq_false_iff_ne]; omega
     have hpw : ((n : Int) / 2 ^ (8 * m)) = ((n / 2 ^ (8 * m) : Nat) : Int) := by rw [Int.natCast_ediv, Int.natCast_pow]; rfl
     by_cases hnm : n < 2 ^ (8 * m)
     ·have hs0 : ((n : Int) / 2 ^ (8 * m) == 0) = true := by rw [hpw, Nat.div_eq_of_lt hnm]; rfl
      have hnum : Hid (numS room l bad n (m : Int) = putS room l bad true [be n m]) := by
       show _ = _
       rw [numS, if_pos ⟨hw.1, hw.2, .inr (by rw [Int.toNat_natCast]; exact hnm)⟩, Int.toNat_natCast]
      clear hm hpw hnm
      go_wp2_with (go_at_call 118; refine (put_any _ _ _ [be n m] wb v room l bad true _ (HW'.out.alloc _) (HP.out m (by omega) _ _ (by omega)) HTO.out hl).mono ?_; rintro e w1 ⟨rfl, hl1⟩)
      go_end0
      exact ⟨rfl, by rw [hnum.out]; exact hfin.out _ _ _ hl1⟩
     ·have hs0 : ((n : Int) / 2 ^ (8 * m) == 0) = false := by
       rw [hpw, beq_eq_false_iff_ne]
       have : 0 < n / 2 ^ (8 * m) := Nat.div_pos (by omega) (Nat.two_pow_pos _)
       omega
      have hnum : Hid (numS room l bad n (m : Int) = putS room l bad false [be n m]) := by
       show _ = _
       rw [numS, if_neg (fun h => by rcases h.2.2 with h | h; omega; rw [Int.toNat_natCast] at h; exact hnm h)]
       exact putS_false _ _ _ _ _
      clear hm hpw hnm
      go_wp2_with (go_at_call 118; refine (put_any _ _ _ [be n m] wb v room l bad false _ (HW'.out.alloc _) (HP.out m (by omega) _ _ (by omega)) HTO.out hl).mono ?_; rintro e w1 ⟨rfl, hl1⟩)
      go_end0
      exact ⟨rfl, by rw [hnum.out]; exact hfin.out _ _ _ hl1⟩
   ·have hsl : ∀ wx, (Instr.sliceAt 206 (.pointer (some ⟨w.heap.size, 0, none⟩)) (some (.int .i64 0)) none none).run Tryz.prog wx = .ok (.slice (some ⟨w.heap.size, 0, none⟩) 8 8) wx := fun wx => by
     have h1 := run_sliceAt_from (P := Tryz.prog) wx 206 5 8 1 Tryz.underlying206 (by kernel_rfl) ⟨w.heap.size, 0, none⟩ .i64 0 0 rfl (by omega)
     rw [h1, add_none]
    have hnum : Hid (numS room l bad n width = putS room l bad false [be n 8]) := by
     show _ = _
     rw [numS, if_neg (fun h => hw ⟨h.1, h.2.1⟩)]
     exact putS_false _ _ _ _ _
    have HP0 : Hid (∀ b' t, b' = wr.heap.size → ∀ w', Turns (foot wb v) (wr.alloc (.cells #[.slice (some ⟨w.heap.size, 0, none⟩) 8 8] t)) w' → Pts w' (some ⟨b', 0, none⟩) 1 1 [be n 8]) := HP.out 8 (by omega)
    have HTO : Hid (total [be n 8] ≤ 70368744177664) := by show _ ≤ _; simp [total, be_length]
    by_cases hw0 : width < 1
    ·go_wp2_with (go_at_call 118; refine (put_any _ _ _ [be n 8] wb v room l bad false _ (HW'.out.alloc _) (HP0.out _ _ (by omega)) HTO.out hl).mono ?_; rintro e w1 ⟨rfl, hl1⟩)
     go_end0
     exact ⟨rfl, by rw [hnum.out]; exact hfin.out _ _ _ hl1⟩
    ·have hw9 : 8 < width := by omega
     have hd9 : decide (width ≤ 8) = false := by simp; omega
     go_wp2_with (go_at_call 118; refine (put_any _ _ _ [be n 8] wb v room l bad false _ (HW'.out.alloc _) (HP0.out _ _ (by omega)) HTO.out hl).mono ?_; rintro e w1 ⟨rfl, hl1⟩)
     go_end0
     exact ⟨rfl, by rw [hnum.out]; exact hfin.out _ _ _ hl1⟩
end Go.Proofs.YtnejjfglkindjaaGreatDoor.Wr
namespace Go.Proofs.YtnejjfglkindjaaGreatDoor.Rdr
open Go.RowKit Go.Mir Go.Mir.Parts
theorem EType.left {w w' : World} {base rb : Nat} {s s' : RD} (h : EType w) (hr : RAt w base rb s) (hl : LeftR base rb s' w w') (hb : 0 < base) : EType w' :=
 h.below (hl.belowB hr (Nat.le_refl _)) hb
def numB (n : Nat) : Nat → List UInt8
 | 0 => []
 | k + 1 => UInt8.ofNat (n / 256 ^ k) :: numB n k
theorem numB_len (n k : Nat) : (numB n k).length = k := by induction k with
 | zero => rfl
 | succ k ih => simp [numB, ih]
theorem beN_fold (l : List UInt8) : ∀ a, l.foldl (fun a b => 256 * a + b.toNat) a = a * 256 ^ l.length + beN l := by
 induction l with
 | nil => intro a; simp [beN]
 | cons b l ih =>
  intro a
  show List.foldl _ (256 * a + b.toNat) l = _
  have h2 : beN (b :: l) = List.foldl (fun a b => 256 * a + b.toNat) (256 * 0 + b.toNat) l := rfl
  rw [h2, ih, ih, List.length_cons, Nat.pow_succ, Nat.add_mul, Nat.mul_zero, Nat.zero_add, Nat.mul_comm 256 a, Nat.mul_assoc, Nat.mul_comm 256 (256 ^ l.length), Nat.add_assoc]
theorem beN_numB (n k : Nat) : beN (numB n k) = n % 256 ^ k := by
 induction k with
 | zero => simp [numB, beN, Nat.mod_one]
 | succ k ih =>
  show List.foldl _ (256 * 0 + (UInt8.ofNat (n / 256 ^ k)).toNat) (numB n k) = _
  rw [beN_fold, numB_len, ih, Nat.mul_zero, Nat.zero_add, UInt8.toNat_ofNat']
  rw [show (2 : Nat) ^ 8 = 256 from rfl, Nat.pow_succ, Nat.mod_mul, Nat.mul_comm (n / 256 ^ k % 256), Nat.add_comm]
theorem numB_drop (n : Nat) : ∀ k j, j ≤ k → (numB n k).drop j = numB n (k - j) := by
 intro k
 induction k with
 | zero => intro j hj; simp [numB]
 | succ k ih =>
  intro j hj
  cases j with
  | zero => rfl
  | succ j => rw [show k + 1 - (j + 1) = k - j by omega, ← ih j (by omega)]; rfl
theorem numB_at (n k j : Nat) (h : j < k) : (numB n k)[j]? = some (UInt8.ofNat (n / 256 ^ (k - 1 - j))) := by
 have h1 := numB_drop n k j (by omega)
 have h2 : ((numB n k).drop j)[0]? = (numB n k)[j]? := by rw [List.getElem?_drop, Nat.add_zero]
 rw [← h2, h1, show k - j = (k - 1 - j) + 1 by omega]
 rfl
def NumBP (l : List UInt8) (w : World) (e : Ending) (w' : World) : Prop := ∃ p c, e = .returned (.slice p l.length c) ∧ w'.ownsRow w.heap.size 5 1 (.slice p l.length c) l.length (bytesV l) ∧ Below w.heap.size w w'
set_option maxRecDepth 100000 in
theorem number_any (w : World) (n k : Nat) (_hn : n < 18446744073709551616) (hk : k ≤ 8) :
  Calls Tryz.prog 22 #[.int .u64 (n : Int), .int .i64 (k : Int)] w (NumBP (numB n k) w) := by
 have HLN := Lib.hid (numB_len n k)
 have hw1 : IntKind.i64.wrap ((k : Int) - 1) = (k : Int) - 1 := IntWalk.i64_in _ (by omega)
 go_enter Tryz.func22, Tryz.ntmps22
 go_wp2_with fail
 go_loopw [5, 6] (fun v i wr => ∃ (j : Nat) (p : Option Addr) (c : Nat), j ≤ k ∧ v = .slice p j c ∧ i = .int .i64 ((k : Int) - 1 - (j : Int)) ∧ wr.ownsRow w.heap.size 5 1 (.slice p j c) j (bytesV ((numB n k).take j)) ∧ Below w.heap.size w wr) (fun v _ _ => match v with | .slice _ j _ => k - j | _ => 0)
 case atStart => exact ⟨0, none, 0, by omega, rfl, by simp, ⟨rfl, .inl ⟨rfl, rfl⟩⟩, Below.refl _ _⟩
 case round =>
  obtain ⟨j, p, c, hj, rfl, rfl, hown, hbw⟩ := hrel
  have HOW := Lib.hid hown
  have HBW := Lib.hid hbw
  clear hown hbw
  by_cases hlt : j < k
  ·have hd : decide ((0 : Int) ≤ (k : Int) - 1 - (j : Int)) = true := decide_eq_true (by omega)
   obtain ⟨i, hi⟩ : ∃ i : Nat, (i : Int) = (k : Int) - 1 - (j : Int) := ⟨k - 1 - j, by omega⟩
   rw [← hi] at hd ⊢
   have hi7 : i ≤ 7 := by omega
   have HTK := Lib.hid (numB_at n k j hlt)
   have HYV : Hid (((n : Int) / 2 ^ (8 * (k - 1 - j)) % 256) = ((UInt8.ofNat (n / 256 ^ (k - 1 - j))).toNat : Int)) := by
    show _ = _
    rw [UInt8.toNat_ofNat', show (2 : Nat) ^ 8 = 256 from rfl, show (256 : Nat) = 2 ^ 8 from rfl, ← Nat.pow_mul]
    simp
   have HTS : Hid ((numB n k).take (j + 1) = (numB n k).take j ++ [UInt8.ofNat (n / 256 ^ (k - 1 - j))]) := by
    have := take_snoc (numB n k) j (by rw [HLN.out]; exact hlt)
    rw [List.getElem?_eq_getElem (by rw [HLN.out]; exact hlt)] at HTK
    show _ = _
    rw [this, Option.some.inj HTK.out]
   generalize UInt8.ofNat (n / 256 ^ (k - 1 - j)) = y at *
   have HSL : Hid (Bs (wr.alloc (.cells #[.int .u8 ((n : Int) / 2 ^ (8 * (k - 1 - j)) % 256)] 5)) (some ⟨wr.heap.size, 0, none⟩) 1 1 [y]) := Bs.made wr [y] _ _ (0, 0) 1 (by rw [HYV.out]; rfl) rfl (by omega)
   have HO5 : Hid ((wr.alloc (.cells #[.int .u8 ((n : Int) / 2 ^ (8 * (k - 1 - j)) % 256)] 5)).ownsRow w.heap.size 5 1 (.slice p j c) j (bytesV ((numB n k).take j))) := HOW.out.alloc _
   have HSZ : Hid (w.heap.size ≤ (wr.alloc (.cells #[.int .u8 ((n : Int) / 2 ^ (8 * (k - 1 - j)) % 256)] 5)).heap.size) := by have := HBW.out.size; show _ ≤ _; simp; omega
   go_wp2_with (at_builtin; refine wpList_append_nx rfl _ _ 22 rfl (base := w.heap.size) Tryz.underlying22 info8 rfl (by omega) rfl HO5.out rfl HSL.out (bytesV_one _) (by omega) HSZ.out ?_)
   intro p' c' w5 hown hg hnx hne
   have HO6 := Lib.hid hown
   have hb5 : Below w.heap.size w w5 := (HBW.out.alloc HBW.out.size _).grown hg HSZ.out (fun i hi => (HO5.out.lt i hi).1)
   have HB5 := Lib.hid hb5
   have hwi : IntKind.i64.wrap ((i : Int) - 1) = (i : Int) - 1 := IntWalk.i64_in _ (by omega)
   clear hown hg hnx hne hb5
   go_wp2_with fail
   go_roundw
   case rel => exact ⟨j + 1, p', c', by omega, rfl, by congr 1; omega, by have := HO6.out; rw [HTS.out, bytesV_append]; exact this, HB5.out⟩
   case measure => simp; omega
  ·obtain rfl : j = k := by omega
   have hd : decide ((0 : Int) ≤ (j : Int) - 1 - (j : Int)) = false := decide_eq_false (by omega)
   have hfull : (numB n j).take j = numB n j := List.take_of_length_le (by rw [HLN.out]; omega)
   rw [hfull] at HOW
   have HF : Hid (NumBP (numB n j) w (.returned (.slice p j c)) wr) := ⟨p, c, by rw [HLN.out], by rw [HLN.out]; exact HOW.out, HBW.out⟩
   go_wp2_with fail
   go_ret
   exact HF.out
end Go.Proofs.YtnejjfglkindjaaGreatDoor.Rdr
namespace Go.Proofs.YtnejjfglkindjaaGreatDoor.Cod
open Go.RowKit Go.Mir Go.Mir.Parts Wr
theorem take_in {l : List UInt8} {pos m : Nat} (h : pos + m ≤ l.length) : Rdr.RD.takeB ⟨l, pos, none⟩ (m : Int) true = (l.drop pos).take m ∧ Rdr.RD.takeS ⟨l, pos, none⟩ (m : Int) true = ⟨l, pos + m, none⟩ := by
 constructor
 ·unfold Rdr.RD.takeB
  rw [if_pos ⟨rfl, rfl, by omega, by dsimp only; omega⟩]
  rfl
 ·unfold Rdr.RD.takeS
  rw [if_neg (by simp), if_neg (by rintro (h | h); (· cases h); (· omega)), if_neg (by dsimp only; omega)]
  rfl
def Inv2 (R : Nat) (E l : List UInt8) (bad : Int) : Prop := l.length ≤ R ∧ ((bad = 0 ∧ l = E) ∨ (bad = 3 ∧ R < E.length))
theorem Inv2.nil (R : Nat) : Inv2 R [] [] 0 := ⟨by simp, .inl ⟨rfl, rfl⟩⟩
theorem Inv2.put {R : Nat} {E l : List UInt8} {bad : Int} (h : Inv2 R E l bad) (ps : List (List UInt8)) : Inv2 R (E ++ ps.flatten) (putS R l bad true ps).1 (putS R l bad true ps).2 := by
 obtain ⟨h1, h2⟩ := h
 unfold putS
 rw [← total_flatten]
 rcases h2 with ⟨rfl, rfl⟩ | ⟨rfl, h2⟩
 ·rw [if_pos rfl, if_pos rfl]
  by_cases ht : ps.flatten.length ≤ R - l.length
  ·rw [if_pos ht]
   exact ⟨by rw [List.length_append]; omega, .inl ⟨rfl, rfl⟩⟩
  ·rw [if_neg ht]
   exact ⟨h1, .inr ⟨rfl, by rw [List.length_append]; omega⟩⟩
 ·rw [if_neg (by decide)]
  exact ⟨h1, .inr ⟨rfl, by rw [List.length_append]; omega⟩⟩
theorem Inv2.one {R : Nat} {E l : List UInt8} {bad : Int} (h : Inv2 R E l bad) (b : List UInt8) : Inv2 R (E ++ b) (putS R l bad true [b]).1 (putS R l bad true [b]).2 := by
 have := h.put [b]
 simpa using this
theorem Inv2.num {R : Nat} {E l : List UInt8} {bad : Int} (h : Inv2 R E l bad) (n k : Nat) (h1 : 1 ≤ k) (h8 : k ≤ 8) (hn : n < 2 ^ (8 * k)) : Inv2 R (E ++ be n k) (numS R l bad n (k : Int)).1 (numS R l bad n (k : Int)).2 := by
 unfold numS
 rw [if_pos ⟨by omega, by omega, .inr (by simpa using hn)⟩]
 exact h.one _
theorem be_numB (n k : Nat) (hk : k ≤ 8) : be n k = Rdr.numB n k := by
 apply List.ext_getElem?
 intro j
 by_cases hj : j < k
 ·rw [Rdr.numB_at n k j hj]
  unfold be nb
  rw [List.getElem?_map, List.getElem?_range hj]
  simp only [Option.map_some]
  rw [show 7 - (8 - k + j) = k - 1 - j by omega, Nat.pow_mul]
 ·rw [List.getElem?_eq_none (by rw [be_length]; omega), List.getElem?_eq_none (by rw [Rdr.numB_len]; omega)]
theorem numB_beN : ∀ (l : List UInt8), Rdr.numB (Rdr.beN l) l.length = l
 | [] => rfl
 | b :: l => by
  have h1 : Rdr.beN (b :: l) = b.toNat * 256 ^ l.length + Rdr.beN l := by
   show List.foldl _ (256 * 0 + b.toNat) l = _
   rw [Rdr.beN_fold]; simp
  have h2 := Rdr.beN_lt_pow l
  have h3 : Rdr.beN (b :: l) / 256 ^ l.length = b.toNat := by
   rw [h1, Nat.add_comm, Nat.mul_comm, Nat.add_mul_div_left _ _ (Nat.pow_pos (by omega)), Nat.div_eq_of_lt h2, Nat.zero_add]
  have h4 : ∀ (k n m : Nat), m < 256 ^ k → Rdr.numB (n * 256 ^ k + m) k = Rdr.numB m k := fun k n m hm => by
   apply List.ext_getElem?
   intro j
   by_cases hj : j < k
   ·rw [Rdr.numB_at _ _ _ hj, Rdr.numB_at _ _ _ hj]
    congr 1
    have e : 256 ^ k = 256 ^ (k - 1 - j) * 256 ^ (j + 1) := by rw [← Nat.pow_add]; congr 1; omega
    have e2 : (n * 256 ^ k + m) / 256 ^ (k - 1 - j) = n * 256 ^ (j + 1) + m / 256 ^ (k - 1 - j) := by
     rw [e, show n * (256 ^ (k - 1 - j) * 256 ^ (j + 1)) = 256 ^ (k - 1 - j) * (n * 256 ^ (j + 1)) by rw [Nat.mul_left_comm], Nat.add_comm, Nat.add_mul_div_left _ _ (Nat.pow_pos (by omega)), Nat.add_comm]
    rw [e2]
    apply UInt8.toNat_inj.1
    rw [UInt8.toNat_ofNat', UInt8.toNat_ofNat', Nat.pow_succ, ← Nat.mul_assoc]
    omega
   ·rw [List.getElem?_eq_none (by rw [Rdr.numB_len]; omega), List.getElem?_eq_none (by rw [Rdr.numB_len]; omega)]
  show UInt8.ofNat (Rdr.beN (b :: l) / 256 ^ l.length) :: Rdr.numB (Rdr.beN (b :: l)) l.length = b :: l
  rw [h3, h1, h4 _ _ _ h2, numB_beN l]
  simp
theorem be_beN (l : List UInt8) (k : Nat) (hl : l.length = k) (hk : k ≤ 8) : be (Rdr.beN l) k = l := by
 rw [be_numB _ _ hk]
 subst hl
 exact numB_beN l
theorem beN_be (n k : Nat) (hk : k ≤ 8) (hn : n < 256 ^ k) : Rdr.beN (be n k) = n := by
 rw [be_numB _ _ hk, Rdr.beN_numB, Nat.mod_eq_of_lt hn]
structure WS (w : World) (wb : Nat) (R : Nat) (E : List UInt8) (x : World) : Prop where
 all : ∃ v l bad, WAt x wb v R l bad ∧ Inv2 R E l bad ∧ (∀ i, foot wb v i → w.heap.size ≤ i) ∧ Below w.heap.size w x
theorem WS.low {w x : World} {wb R : Nat} {E : List UInt8} (h : WS w wb R E x) : Below w.heap.size w x := by
 obtain ⟨_, _, _, _, _, _, h4⟩ := h.all
 exact h4
theorem WS.step {w x y : World} {wb R : Nat} {v : Value} {r : List UInt8 × Int} {E' : List UInt8} (h3 : ∀ i, foot wb v i → w.heap.size ≤ i) (h4 : Below w.heap.size w x) (hl : Wr.Left wb v R r x y) (hi : Inv2 R E' r.1 r.2) : WS w wb R E' y := by
 obtain ⟨v', h1, h2, h5⟩ := hl
 refine ⟨v', _, _, h1, hi, fun i hi' => ?_, h4.trans (h2.below h4.size h3)⟩
 rcases hi' with rfl | hi'
 ·exact h3 _ (.inl rfl)
 ·rcases Nat.lt_or_ge i x.heap.size with h6 | h6
  ·exact h3 _ (.inr (h5 i hi' h6))
  ·have := h4.size; omega
theorem WS.turn {w x y : World} {wb : Nat} {v : Value} (h3 : ∀ i, foot wb v i → w.heap.size ≤ i) (h4 : Below w.heap.size w x) (ht : Turns (foot wb v) x y) : Below w.heap.size w y := h4.trans (ht.below h4.size h3)
theorem ws_new (w x : World) (hx : Below w.heap.size w x) (R : Nat) (hR : R ≤ 1000000) :
  Calls Tryz.prog 80 #[.int .i64 (R : Int)] x fun e y => e = .returned (.pointer (some ⟨x.heap.size, 0, none⟩)) ∧ WS w x.heap.size R [] y ∧ Below x.heap.size x y := by
 refine (Wr.new_any (R : Int) x (by omega)).mono ?_
 rintro e y ⟨rfl, hw, hb⟩
 rw [Int.toNat_natCast] at hw
 refine ⟨rfl, ⟨_, _, _, hw, Inv2.nil R, fun i hi => ?_, hx.trans (hb.mono hx.size)⟩, hb⟩
 rcases hi with rfl | hi
 ·exact hx.size
 ·simp [Value.ownBlock] at hi
theorem ws_num {w x : World} {wb R : Nat} {E : List UInt8} (h : WS w wb R E x) (hR : R ≤ 1000000) (n k : Nat) (h1 : 1 ≤ k) (h8 : k ≤ 8) (hn : n < 2 ^ (8 * k)) (hn2 : n < 18446744073709551616) :
  Calls Tryz.prog 81 #[.pointer (some ⟨wb, 0, none⟩), .int .u64 (n : Int), .int .i64 (k : Int)] x fun e y => e = .returned (.tuple #[]) ∧ WS w wb R (E ++ be n k) y := by
 obtain ⟨v, l, bad, ha, hv, h3, h4⟩ := h.all
 refine (Wr.num_any n k wb v R l bad x ha hn2 (by omega) (by omega) (by have := hv.1; omega)).mono ?_
 rintro e y ⟨rfl, hl⟩
 exact ⟨rfl, WS.step h3 h4 hl (hv.num n k h1 h8 hn)⟩
theorem ws_bytes {w x : World} {wb R : Nat} {E : List UInt8} (h : WS w wb R E x) (hR : R ≤ 1000000) (p : Option Addr) (n c : Nat) (b : List UInt8) (hB : Bs w p n c b) (hb : b.length ≤ 70368744177664) :
  Calls Tryz.prog 82 #[.pointer (some ⟨wb, 0, none⟩), .slice p n c] x fun e y => e = .returned (.tuple #[]) ∧ WS w wb R (E ++ b) y := by
 obtain ⟨v, l, bad, ha, hv, h3, h4⟩ := h.all
 refine (Wr.bytes_any p n c b wb v R l bad x ha (fun w' ht => hB.below (WS.turn h3 h4 ht)) hb (by have := hv.1; omega)).mono ?_
 rintro e y ⟨rfl, hl⟩
 exact ⟨rfl, WS.step h3 h4 hl (hv.one b)⟩
theorem ws_done {w x : World} {wb R : Nat} {E : List UInt8} (h : WS w wb R E x) (hR : R ≤ 1000000) (hE : E.length ≤ R) :
  Calls Tryz.prog 83 #[.pointer (some ⟨wb, 0, none⟩)] x fun e y => (∃ p c, e = .returned (.tuple #[.slice p E.length c, .int .i64 0]) ∧ y.ownsRow x.heap.size 5 1 (.slice p E.length c) E.length (bytesV E)) ∧ WS w wb R E y ∧ Below x.heap.size x y := by
 obtain ⟨v, l, bad, ha, hv, h3, h4⟩ := h.all
 refine (Wr.done_any wb v R l bad x ha (by have := hv.1; omega)).mono ?_
 rintro e y ⟨⟨p, n, c, rfl, ho⟩, hb⟩
 rcases hv.2 with ⟨rfl, rfl⟩ | ⟨_, h'⟩
 ·rw [if_pos rfl] at ho
  obtain ⟨p', c', he, hs⟩ := own_sl ho
  cases he
  have hn := Bs.length (show Bs y p n c l from hs)
  subst hn
  exact ⟨⟨p, c, rfl, ho⟩, ⟨v, l, 0, ha.touch (Turns.of_below (S := fun _ => False) hb) (fun _ _ h => h), hv, h3, h4.trans (hb.mono h4.size)⟩, hb⟩
 ·omega
end Go.Proofs.YtnejjfglkindjaaGreatDoor.Cod
namespace Go.Mir.Crc
def iter {α : Type} (f : α → α) : Nat → α → α
 | 0, x => x
 | n + 1, x => f (iter f n x)
def poly : BitVec 32 := 2197175160#32
def step (x : BitVec 32) : BitVec 32 := (x >>> 1) ^^^ (if x.getLsbD 0 then poly else 0#32)
theorem xlc (a b c : BitVec 32) : a ^^^ (b ^^^ c) = b ^^^ (a ^^^ c) := by
 rw [← BitVec.xor_assoc, BitVec.xor_comm a b, BitVec.xor_assoc]
theorem step_xor (x y : BitVec 32) : step (x ^^^ y) = step x ^^^ step y := by
 unfold step
 rw [BitVec.ushiftRight_xor_distrib, BitVec.getLsbD_xor]
 generalize x.getLsbD 0 = a
 generalize y.getLsbD 0 = b
 cases a <;> cases b <;> simp [BitVec.xor_assoc]
 ·rw [BitVec.xor_comm]
 ·rw [xlc poly]; simp
theorem iter_xor (n : Nat) (x y : BitVec 32) : iter step n (x ^^^ y) = iter step n x ^^^ iter step n y := by
 induction n with
 | zero => rfl
 | succ n ih => simp only [iter, ih, step_xor]
def byteW (b : UInt8) : BitVec 32 := BitVec.ofNat 32 b.toNat
def run (s : BitVec 32) (l : List UInt8) : BitVec 32 := l.foldl (fun s b => iter step 8 (s ^^^ byteW b)) s
theorem run_append (s : BitVec 32) (a b : List UInt8) : run s (a ++ b) = run (run s a) b := by simp [run]
theorem run_snoc (s : BitVec 32) (a : List UInt8) (b : UInt8) : run s (a ++ [b]) = iter step 8 (run s a ^^^ byteW b) := by simp [run]
def ones : BitVec 32 := 4294967295#32
def more (s : BitVec 32) (l : List UInt8) : BitVec 32 := run (s ^^^ ones) l ^^^ ones
def tab (i : Nat) : BitVec 32 := iter step 8 (BitVec.ofNat 32 i)
theorem step_even (x : BitVec 32) (h : x.getLsbD 0 = false) : step x = x >>> 1 := by rw [step, h]; simp
theorem iter_low (k : Nat) (x : BitVec 32) (h : ∀ i, i < k → x.getLsbD i = false) : iter step k x = x >>> k := by
 induction k with
 | zero => simp [iter]
 | succ k ih =>
  rw [iter, ih (fun i hi => h i (by omega)), step_even _ (by simp [h k (by omega)])]
  rw [← BitVec.shiftRight_add]
theorem split8 (s : BitVec 32) : s = ((s >>> 8) <<< 8) ^^^ (s &&& 255#32) := by
 apply BitVec.eq_of_getLsbD_eq
 intro i hi
 have h255 : (255#32).getLsbD i = decide (i < 8) := by
  have : ∀ i, i < 32 → (255#32).getLsbD i = decide (i < 8) := by decide
  exact this i hi
 simp only [BitVec.getLsbD_xor, BitVec.getLsbD_shiftLeft, BitVec.getLsbD_ushiftRight, BitVec.getLsbD_and, h255, hi, decide_true, Bool.true_and]
 by_cases h8 : i < 8
 ·simp [h8]
 ·simp [h8, show 8 + (i - 8) = i from by omega]
theorem byteW_toNat (b : UInt8) : (byteW b).toNat = b.toNat := by
 have := b.toNat_lt
 simp [byteW]
theorem tab_step (s : BitVec 32) (b : UInt8) : (s >>> 8) ^^^ tab ((s.toNat % 256) ^^^ b.toNat) = iter step 8 (s ^^^ byteW b) := by
 have e : BitVec.ofNat 32 ((s.toNat % 256) ^^^ b.toNat) = (s &&& 255#32) ^^^ byteW b := by
  apply BitVec.eq_of_toNat_eq
  have hx : (s.toNat % 256) ^^^ b.toNat < 2 ^ 8 := Nat.xor_lt_two_pow (by omega) b.toNat_lt
  rw [BitVec.toNat_xor, byteW_toNat, BitVec.toNat_and, BitVec.toNat_ofNat]
  rw [show (255#32).toNat = 2 ^ 8 - 1 from rfl, Nat.and_two_pow_sub_one_eq_mod]
  exact Nat.mod_eq_of_lt (by omega)
 unfold tab
 rw [e]
 conv => rhs; rw [split8 s, BitVec.xor_assoc, iter_xor]
 rw [iter_low 8 ((s >>> 8) <<< 8) (by intro i hi; simp [hi])]
 congr 1
 apply BitVec.eq_of_getLsbD_eq
 intro i hi
 simp only [BitVec.getLsbD_ushiftRight, BitVec.getLsbD_shiftLeft]
 by_cases h : 8 + i < 32
 ·simp [h]
 ·rw [BitVec.getLsbD_of_ge s (8 + i) (by omega)]; simp [h]
def Lin (f : BitVec 32 → BitVec 32) : Prop := ∀ x y, f (x ^^^ y) = f x ^^^ f y
theorem Lin.zero {f : BitVec 32 → BitVec 32} (h : Lin f) : f 0#32 = 0#32 := by
 have := h 0#32 0#32
 simp only [BitVec.xor_self] at this
 exact this
end Go.Mir.Crc
namespace Go.Proofs.YtnejjfglkindjaaGreatDoor.CrcW
open Go.RowKit Go.Mir
theorem lt32 (x : BitVec 32) : x.toNat < 4294967296 := x.isLt
theorem xor32 (x y : BitVec 32) : bits .xor .u32 (x.toNat : Int) (y.toNat : Int) = ((x ^^^ y).toNat : Int) := by
 rw [u32_xor_nat _ _ x.isLt y.isLt, BitVec.toNat_xor]
theorem shr32 (x : BitVec 32) (k : Nat) : ((x.toNat : Int) / ((2 ^ k : Nat) : Int)) = ((x >>> k).toNat : Int) := by
 rw [BitVec.toNat_ushiftRight, Nat.shiftRight_eq_div_pow]; rfl
theorem odd32 (x : BitVec 32) : x.getLsbD 0 = decide (x.toNat % 2 = 1) := by
 simp only [BitVec.getLsbD, Nat.testBit_zero]
theorem step_int (x : BitVec 32) : bits BinOp.xor IntKind.u32 ((x.toNat : Int) / 2) (2197175160 * bits BinOp.and IntKind.u32 (x.toNat : Int) 1 % 4294967296) = ((Crc.step x).toNat : Int) := by
 have h1 : bits BinOp.and IntKind.u32 (x.toNat : Int) 1 = ((x.toNat % 2 : Nat) : Int) := by
  have := u32_and_nat x.toNat 1 x.isLt (by omega)
  rw [show ((1 : Nat) : Int) = 1 from rfl] at this
  rw [this, Nat.and_one_is_mod]
 rw [h1]
 have h2 := shr32 x 1
 rw [show ((2 ^ 1 : Nat) : Int) = 2 from rfl] at h2
 rw [h2]
 unfold Crc.step
 rw [odd32]
 by_cases h : x.toNat % 2 = 1
 ·rw [h]
  simp only [decide_true, if_true]
  rw [← xor32]; rfl
 ·have h0 : x.toNat % 2 = 0 := by omega
  rw [h0]
  simp only [show (0 = 1) = False from by simp, decide_false, Bool.false_eq_true, if_false]
  rw [← xor32]; rfl
theorem step_any (x : BitVec 32) (w : World) :
  Calls Tryz.prog 133 #[.int .u32 (x.toNat : Int)] w fun e w' => e = .returned (.int .u32 ((Crc.step x).toNat : Int)) ∧ w = w' := by
 have hx := lt32 x
 have hs := Lib.hid (step_int x)
 go_enter Tryz.func133, Tryz.ntmps133
 go_wp2
 go_ret
 exact ⟨congrArg (fun n => Ending.returned (.int .u32 n)) hs.out, rfl⟩
theorem move_any (x : BitVec 32) (w : World) :
  Calls Tryz.prog 121 #[.int .u32 (x.toNat : Int)] w fun e w' => e = .returned (.int .u32 ((Crc.step x).toNat : Int)) ∧ w = w' := by
 have hx := lt32 x
 have h2 := shr32 x 1
 rw [show ((2 ^ 1 : Nat) : Int) = 2 from rfl] at h2
 have hs : Hid (Crc.step x = x >>> 1 ^^^ if x.toNat % 2 = 1 then Crc.poly else 0#32) := by
  show Crc.step x = _
  unfold Crc.step; rw [odd32]; simp
 have H2 := Lib.hid h2
 have hx2 := Lib.hid (xor32 (x >>> 1) Crc.poly)
 clear h2
 by_cases h : x.toNat % 2 = 1
 ·have hb : ((x.toNat : Int) % 2 == 1) = true := by rw [beq_iff_eq]; omega
  go_enter Tryz.func121, Tryz.ntmps121
  go_wp2
  go_ret
  refine ⟨congrArg (fun n => Ending.returned (.int .u32 n)) ?_, rfl⟩
  rw [hs.out, if_pos h, ← hx2.out, H2.out.symm]; rfl
 ·have hb : ((x.toNat : Int) % 2 == 1) = false := by rw [beq_eq_false_iff_ne]; omega
  go_enter Tryz.func121, Tryz.ntmps121
  go_wp2
  go_ret
  refine ⟨congrArg (fun n => Ending.returned (.int .u32 n)) ?_, rfl⟩
  rw [hs.out, if_neg h, BitVec.xor_zero, H2.out.symm]
def tabArr (k : Nat) : Array Value := ((List.range 256).map fun j => Value.int .u32 (if j < k then ((Crc.tab j).toNat : Int) else 0)).toArray
theorem tabArr_size (k : Nat) : (tabArr k).size = 256 := by simp [tabArr]
theorem tabArr_get (k j : Nat) (hj : j < 256) : (tabArr k)[j]? = some (Value.int .u32 (if j < k then ((Crc.tab j).toNat : Int) else 0)) := by
 simp [tabArr, hj]
theorem tabArr_set (k : Nat) (hk : k < 256) : (tabArr k).setIfInBounds k (.int .u32 ((Crc.tab k).toNat : Int)) = tabArr (k+1) := by
 apply Array.ext_getElem?
 intro j
 by_cases hj : j < 256
 ·rw [Array.getElem?_setIfInBounds, tabArr_get _ _ hj, tabArr_get _ _ hj, tabArr_size]
  split
  ·subst_vars; simp []
  ·have : (j < k) ↔ (j < k + 1) := by omega
   simp [this]
 ·rw [Array.getElem?_eq_none, Array.getElem?_eq_none] <;> (simp [tabArr_size]; try omega)
def Z256 : Array Value := Array.replicate 256 (.int .u32 0)
theorem tabArr_0 : tabArr 0 = Z256 := by
 apply Array.ext_getElem?
 intro j
 by_cases hj : j < 256
 ·rw [tabArr_get _ _ hj]; simp [Z256, hj]
 ·rw [Array.getElem?_eq_none, Array.getElem?_eq_none] <;> simp [tabArr_size, Z256] <;> omega
theorem zeroT (w : World) : (zeroValue 225).run Tryz.prog w = .ok (.agg Z256) w := by kernel_rfl
theorem sizeT : (Tryz.prog.info? 225).map (·.size) = some 256 := by kernel_rfl
structure IsTab (T : Array Value) : Prop where
 size : T.size = 256
 get : ∀ j, j < 256 → T[j]? = some (.int .u32 ((Crc.tab j).toNat : Int))
 one : T.all (·.oneCell') = true
theorem isTab : IsTab (tabArr 256) := ⟨tabArr_size _, fun j hj => by rw [tabArr_get _ _ hj, if_pos hj], by simp [tabArr, Value.oneCell']⟩
set_option maxRecDepth 100000 in
set_option maxHeartbeats 400000 in
theorem table_any (w : World) :
  Calls Tryz.prog 132 #[] w fun e w' => (∃ T, IsTab T ∧ e = .returned (.agg T)) ∧ Below w.heap.size w w' := by
 have hz := zeroT
 go_enter Tryz.func132, Tryz.ntmps132
 go_wp2
 go_loopw [4] (fun i wr => ∃ k : Nat, k ≤ 256 ∧ i = .int .i64 k ∧ wr.heap.size = w.heap.size + 2 ∧ wr.heap[w.heap.size]? = some (.cells Z256 225 (0,0)) ∧ wr.heap[w.heap.size+1]? = some (.cells (tabArr k) 225 (0,0)) ∧ Below w.heap.size w wr) (fun i _ => 256 - (intOf i).toNat)
 case atStart =>
  refine ⟨0, by omega, rfl, by simp, ?_, ?_, ((Below.refl _ _).alloc (Nat.le_refl _) _).alloc (by simp) _⟩
  ·exact heap_alloc2_old _ _ _
  ·rw [tabArr_0]; exact heap_alloc2_new _ _ _
 case round =>
  obtain ⟨k, hk, rfl, hsz, hb0, hb1, hbl⟩ := hrel
  by_cases hlt : k < 256
  ·have hd : decide ((k:Int) < 256) = true := by simp; omega
   have hkk : (BitVec.ofNat 32 k).toNat = k := by rw [BitVec.toNat_ofNat]; omega
   go_wp2
   go_loop [3, 9] (fun x j => ∃ m : Nat, m ≤ 8 ∧ j = .int .i64 m ∧ x = .int .u32 (Crc.iter Crc.step m (BitVec.ofNat 32 k)).toNat) (fun _ j => 8 - (intOf j).toNat)
   case atStart => exact ⟨0, by omega, rfl, by rw [Crc.iter, hkk]⟩
   case round =>
    obtain ⟨m, hm, rfl, rfl⟩ := hrel
    clear hkk
    by_cases hlt' : m < 8
    ·go_wp2_with (go_at_call 133; refine (step_any _ _).mono ?_; rintro e w' ⟨rfl, rfl⟩)
     go_round
     case rel => exact ⟨m + 1, by omega, by go_num, rfl⟩
     case measure => simp [intOf]; omega
    ·have hc : wr.cell? ⟨w.heap.size + 1, k, none⟩ = some (.int .u32 0) := by
      rw [cell_of_row _ _ _ _ _ _ hb1, tabArr_get _ _ hlt]; simp
     have hf := frozen_of_row _ _ k _ _ hb1
     have hm8 : m = 8 := by omega
     subst hm8
     go_wp2
     go_roundw
     case rel =>
      refine ⟨k + 1, by omega, by go_num, by simp [World.setCell, hsz], ?_, ?_, hbl.setCell (by simp) _⟩
      ·rw [heap_setCell_other _ _ _ _ (by simp)]; exact hb0
      ·rw [heap_setCell_same _ _ _ _ _ _ hb1]; exact congrArg (fun c => some (Obj.cells c 225)) (tabArr_set k hlt)
     case measure => simp [intOf]; omega
  ·have hk : k = 256 := by omega
   subst hk
   obtain ⟨T, hT, hT2⟩ : ∃ T, T = tabArr 256 ∧ IsTab T := ⟨_, rfl, isTab⟩
   rw [← hT] at hb1
   have hTs : (Tryz.prog.info? 225).map (·.size) = some T.size := by rw [sizeT, hT2.size]
   have hTz : Z256.size = T.size := by rw [hT2.size]; simp [Z256]
   have hT1 := hT2.one
   have HT : Hid (IsTab T) := hT2
   clear hT hz hT2
   go_wp2_with (first | (refine wpList_load_row rfl 225 _ rfl _ rfl _ _ _ _ hb1 Tryz.underlying225 rfl hTs ?_) | (refine wpList_store_row rfl 225 _ _ rfl _ _ rfl rfl _ _ hb0 hTs hTz hT1 ?_))
   refine bodyPost_ret (results_cell_row rfl _ _ _ _ _ _ _ rfl (setRow_heap _ _ _ _ _ _ hb0) Tryz.underlying225 rfl hTs) rfl ⟨⟨T, HT.out, rfl⟩, ?_⟩
   exact hbl.trans ⟨rfl, rfl, rfl, by simp, fun k hk => setRow_other _ _ _ _ (by omega)⟩
theorem idx_int (s : BitVec 32) (b : UInt8) : bits BinOp.xor IntKind.u8 ((s.toNat : Int) % 256) (b.toNat : Int) = (((s.toNat % 256) ^^^ b.toNat : Nat) : Int) := by
 have hb := b.toNat_lt
 have := u8_xor_nat (s.toNat % 256) b.toNat (by omega) (by omega)
 rw [← this]; congr 1
theorem idx_lt (s : BitVec 32) (b : UInt8) : (s.toNat % 256) ^^^ b.toNat < 256 := Nat.xor_lt_two_pow (n := 8) (by omega) b.toNat_lt
theorem upd_int (s : BitVec 32) (b : UInt8) : bits BinOp.xor IntKind.u32 ((s.toNat : Int) / 256) ((Crc.tab ((s.toNat % 256) ^^^ b.toNat)).toNat : Int) = ((Crc.iter Crc.step 8 (s ^^^ Crc.byteW b)).toNat : Int) := by
 have h2 := shr32 s 8
 rw [show ((2 ^ 8 : Nat) : Int) = 256 from rfl] at h2
 rw [h2, xor32, Crc.tab_step]
theorem take_snoc {α : Type} (l : List α) (k : Nat) (h : k < l.length) : l.take (k + 1) = l.take k ++ [l[k]] := by
 rw [List.take_succ_eq_append_getElem h]
set_option maxRecDepth 100000 in
set_option maxHeartbeats 400000 in
theorem run_any (s : BitVec 32) (p : Option Addr) (n c : Nat) (ls : List (List UInt8)) (w : World) (h : Pts w p n c ls) :
  Calls Tryz.prog 127 #[.int .u32 (s.toNat : Int), .slice p n c] w fun e w' => e = .returned (.int .u32 ((Crc.more s ls.flatten).toNat : Int)) ∧ Below w.heap.size w w' := by
 have hz := zeroT
 have hs := lt32 s
 obtain ⟨s1, hs1⟩ : ∃ s1, s1 = s ^^^ Crc.ones := ⟨_, rfl⟩
 have hx : bits .xor .u32 (s.toNat : Int) 4294967295 = (s1.toNat : Int) := by rw [hs1]; exact xor32 s Crc.ones
 have HS1 := Lib.hid hs1
 clear hs1
 have hle := h.le
 have hmax := h.max
 have hn := h.len
 go_enter Tryz.func127, Tryz.ntmps127
 go_wp2_with (first | (go_at_call 132; refine (table_any _).mono ?_; rintro e w1 ⟨⟨T, hT, rfl⟩, hb1⟩; have hTs : (Tryz.prog.info? 225).map (·.size) = some T.size := (by rw [sizeT, hT.size]); have hTz : Z256.size = T.size := (by rw [hT.size]; simp [Z256]); have hT1 := hT.one; have HT := Lib.hid hT; have HB1 := Lib.hid hb1; clear hT hb1) | (refine wpList_store_row rfl 225 _ _ rfl _ _ rfl rfl _ _ (heap_alloc_last _ _) hTs hTz hT1 ?_; simp only [World.setRow_alloc_new]))
 clear hTs hTz hT1 hz hx
 have h1 := h.below HB1.out
 have hT3 : ∀ i, i < 256 → (w1.alloc (.cells T 225)).cell? ⟨w1.heap.size, i, none⟩ = some (.int .u32 ((Crc.tab i).toNat : Int)) := fun i hi => by
  rw [cell_of_row _ _ _ _ _ _ (heap_alloc_last _ _)]; exact HT.out.get i hi
 have h2 : Pts (w1.alloc (.cells T 225)) p n c ls := h1.below ((Below.refl _ _).alloc (Nat.le_refl _) _)
 have HT3 := Lib.hid hT3
 have HB2 : Hid (Below w.heap.size w (w1.alloc (.cells T 225))) := HB1.out.alloc HB1.out.size _
 clear hT3 h1
 generalize w1.alloc (.cells T 225) = w2 at *
 go_loop [0, 15] (fun x j => ∃ k : Nat, k ≤ n ∧ j = .int .i64 k ∧ x = .int .u32 (Crc.run s1 (ls.take k).flatten).toNat) (fun _ j => n - (intOf j).toNat)
 case atStart => exact ⟨0, by omega, rfl, rfl⟩
 case round =>
  obtain ⟨k, hk, rfl, rfl⟩ := hrel
  by_cases hlt : k < n
  ·have hd : decide ((k:Int) < n) = true := by simp; omega
   obtain ⟨b, o, rfl⟩ := h2.addr (by omega)
   obtain ⟨q, m, d, hc, hB⟩ := h2.cell _ rfl k (by omega)
   rw [add_none] at hc
   have hmle := hB.le
   have hmmax := hB.max
   have hml := hB.length
   have htk := Lib.hid (take_snoc ls k (by omega))
   generalize hl : ls[k] = l at *
   go_wp2
   go_loop [0, 21] (fun x j => ∃ i : Nat, i ≤ m ∧ j = .int .i64 i ∧ x = .int .u32 (Crc.run (Crc.run s1 (ls.take k).flatten) (l.take i)).toNat) (fun _ j => m - (intOf j).toNat)
   case atStart => exact ⟨0, by omega, rfl, rfl⟩
   case round =>
    obtain ⟨i, hi, rfl, rfl⟩ := hrel
    by_cases hlt' : i < m
    ·obtain ⟨b', o', rfl⟩ := hB.addr (by omega) (by omega)
     have hc' := hB.byte (j := i) (by omega)
     have hti := Lib.hid (take_snoc l i (by omega))
     have hll : l[i].toNat < 256 := l[i].toNat_lt
     generalize hly : l[i] = y at *
     clear hly
     have hid := idx_int (Crc.run (Crc.run s1 (ls.take k).flatten) (l.take i)) y
     have hil := idx_lt (Crc.run (Crc.run s1 (ls.take k).flatten) (l.take i)) y
     have hup := upd_int (Crc.run (Crc.run s1 (ls.take k).flatten) (l.take i)) y
     have hsn := Crc.run_snoc (Crc.run s1 (ls.take k).flatten) (l.take i) y
     rw [← hti.out] at hsn
     rw [← hsn] at hup
     have hct := HT3.out _ hil
     clear hsn
     generalize Crc.run (Crc.run s1 (ls.take k).flatten) (l.take i) = S at *
     generalize hS' : Crc.run (Crc.run s1 (ls.take k).flatten) (l.take (i+1)) = S' at *
     have HS' := Lib.hid hS'
     clear hS'
     have hS := lt32 S
     generalize (S.toNat % 256) ^^^ y.toNat = id at *
     go_wp2
     go_round
     case rel => exact ⟨i + 1, by omega, by go_num, by rw [HS'.out]⟩
     case measure => simp [intOf]; omega
    ·have him : i = l.length := by omega
     rw [him, List.take_length]
     go_wp2
     go_round
     case rel => exact ⟨k + 1, by omega, by go_num, by rw [htk.out, List.flatten_append, Crc.run_append, List.flatten_singleton]⟩
     case measure => simp [intOf]; omega
  ·have hk' : k = ls.length := by omega
   rw [hk', List.take_length]
   have hfin : Crc.more s ls.flatten = Crc.run s1 ls.flatten ^^^ Crc.ones := by rw [HS1.out]; rfl
   have hx := xor32 (Crc.run s1 ls.flatten) Crc.ones
   rw [← hfin] at hx
   have hx' : bits .xor .u32 ((Crc.run s1 ls.flatten).toNat : Int) 4294967295 = ((Crc.more s ls.flatten).toNat : Int) := hx
   have hS := lt32 (Crc.run s1 ls.flatten)
   clear hx hfin
   generalize Crc.run s1 ls.flatten = S at *
   generalize hR : Crc.more s ls.flatten = R at *
   have HR := Lib.hid hR
   clear hR
   go_wp2
   go_ret
   exact ⟨congrArg (fun n : BitVec 32 => Ending.returned (.int .u32 (n.toNat : Int))) HR.out.symm, HB2.out⟩
theorem of_any (p : Option Addr) (n c : Nat) (ls : List (List UInt8)) (w : World) (h : Pts w p n c ls) :
  Calls Tryz.prog 117 #[.slice p n c] w fun e w' => e = .returned (.int .u32 ((Crc.more 0#32 ls.flatten).toNat : Int)) ∧ Below w.heap.size w w' := by
 have hle := h.le
 have hmax := h.max
 have hr := run_any 0#32 p n c ls w h
 have HR := Lib.hid hr
 clear hr
 go_enter Tryz.func117, Tryz.ntmps117
 go_wp2_with (go_at_call 127; refine (HR.out).mono ?_; rintro e w1 ⟨rfl, hb1⟩)
 go_ret
 exact ⟨rfl, hb1⟩
set_option maxRecDepth 100000 in
set_option maxHeartbeats 400000 in
theorem refMore_any (s : BitVec 32) (p : Option Addr) (n c : Nat) (l : List UInt8) (w : World) (h : Bs w p n c l) :
  Calls Tryz.prog 100 #[.int .u32 (s.toNat : Int), .slice p n c] w fun e w' => e = .returned (.int .u32 ((Crc.more s l).toNat : Int)) ∧ w = w' := by
 have hs := lt32 s
 obtain ⟨s1, hs1⟩ : ∃ s1, s1 = s ^^^ Crc.ones := ⟨_, rfl⟩
 have hx : bits .xor .u32 (s.toNat : Int) 4294967295 = (s1.toNat : Int) := by rw [hs1]; exact xor32 s Crc.ones
 have HS1 := Lib.hid hs1
 clear hs1
 have hle := h.le
 have hmax := h.max
 have hn := h.length
 go_enter Tryz.func100, Tryz.ntmps100
 go_wp2
 clear hx
 go_loop [0, 5] (fun x j => ∃ k : Nat, k ≤ n ∧ j = .int .i64 k ∧ x = .int .u32 (Crc.run s1 (l.take k)).toNat) (fun _ j => n - (intOf j).toNat)
 case atStart => exact ⟨0, by omega, rfl, rfl⟩
 case round =>
  obtain ⟨k, hk, rfl, rfl⟩ := hrel
  by_cases hlt : k < n
  ·have hd : decide ((k:Int) < n) = true := by simp; omega
   obtain ⟨b', o', rfl⟩ := h.addr (by omega) (by omega)
   have hc' := h.byte (j := k) (by omega)
   have hti := Lib.hid (take_snoc l k (by omega))
   have hll : l[k].toNat < 256 := l[k].toNat_lt
   generalize hly : l[k] = y at *
   clear hly
   have hsn := Lib.hid (Crc.run_snoc s1 (l.take k) y)
   have hup := xor32 (Crc.run s1 (l.take k)) (Crc.byteW y)
   rw [Crc.byteW_toNat] at hup
   have hS := lt32 (Crc.run s1 (l.take k))
   generalize hS0 : Crc.run s1 (l.take k) = S at *
   have HS0 := Lib.hid hS0
   clear hS0
   generalize hS1 : S ^^^ Crc.byteW y = S1 at *
   have HS1' := Lib.hid hS1
   clear hS1
   go_wp2
   go_loop [0, 6] (fun x j => ∃ i : Nat, i ≤ 8 ∧ j = .int .i64 i ∧ x = .int .u32 (Crc.iter Crc.step i S1).toNat) (fun _ j => 8 - (intOf j).toNat)
   case atStart => exact ⟨0, by omega, rfl, rfl⟩
   case round =>
    obtain ⟨i, hi, rfl, rfl⟩ := hrel
    by_cases hlt' : i < 8
    ·go_wp2_with (go_at_call 121; refine (move_any _ _).mono ?_; rintro e w' ⟨rfl, rfl⟩)
     go_round
     case rel => exact ⟨i + 1, by omega, by go_num, rfl⟩
     case measure => simp [intOf]; omega
    ·obtain rfl : i = 8 := by omega
     go_wp2
     go_round
     case rel => exact ⟨k + 1, by omega, by go_num, by rw [hti.out, hsn.out]⟩
     case measure => simp [intOf]; omega
  ·have hk' : k = l.length := by omega
   rw [hk', List.take_length]
   have hfin : Crc.more s l = Crc.run s1 l ^^^ Crc.ones := by rw [HS1.out]; rfl
   have hx := xor32 (Crc.run s1 l) Crc.ones
   rw [← hfin] at hx
   have hx' : bits .xor .u32 ((Crc.run s1 l).toNat : Int) 4294967295 = ((Crc.more s l).toNat : Int) := hx
   have hS := lt32 (Crc.run s1 l)
   clear hx hfin
   generalize Crc.run s1 l = S at *
   generalize hR : Crc.more s l = R at *
   have HR := Lib.hid hR
   clear hR
   go_wp2
   go_ret
   exact ⟨congrArg (fun n : BitVec 32 => Ending.returned (.int .u32 (n.toNat : Int))) HR.out.symm, rfl⟩
theorem refOf_any (p : Option Addr) (n c : Nat) (l : List UInt8) (w : World) (h : Bs w p n c l) :
  Calls Tryz.prog 49 #[.slice p n c] w fun e w' => e = .returned (.int .u32 ((Crc.more 0#32 l).toNat : Int)) ∧ w = w' := by
 have hle := h.le
 have hmax := h.max
 have hr := Lib.hid (refMore_any 0#32 p n c l w h)
 go_enter Tryz.func49, Tryz.ntmps49
 go_wp2_with (go_at_call 100; refine (hr.out).mono ?_; rintro e w1 ⟨rfl, rfl⟩)
 go_ret
 exact ⟨rfl, rfl⟩
end Go.Proofs.YtnejjfglkindjaaGreatDoor.CrcW
namespace Go.Proofs.YtnejjfglkindjaaGreatDoor.Frm
open Go.RowKit Go.Mir Go.Mir.Parts Wr Cod
theorem fits_any (n : Nat) (hn : n < 18446744073709551616) (w : World) :
  Calls Tryz.prog 115 #[.int .u64 (n : Int)] w fun e w' => e = .returned (.bool (decide (1 ≤ n ∧ n ≤ 65536))) ∧ w = w' := by
 by_cases h1 : 1 ≤ n
 ·have d1 : decide ((1 : Int) ≤ (n : Int)) = true := decide_eq_true (by omega)
  by_cases h2 : n ≤ 65536
  ·have d2 : decide ((n : Int) ≤ 65536) = true := decide_eq_true (by omega)
   have d3 : decide (n ≤ 65536) = true := decide_eq_true h2
   have HR : Hid (decide (1 ≤ n ∧ n ≤ 65536) = true) := decide_eq_true ⟨h1, h2⟩
   rw [HR.out]
   clear h1 h2
   go_enter Tryz.func115, Tryz.ntmps115
   go_wp2_with fail
   go_ret
   exact ⟨rfl, rfl⟩
  ·have d2 : decide ((n : Int) ≤ 65536) = false := decide_eq_false (by omega)
   have d3 : decide (n ≤ 65536) = false := decide_eq_false h2
   have HR : Hid (decide (1 ≤ n ∧ n ≤ 65536) = false) := decide_eq_false (by omega)
   rw [HR.out]
   clear h1 h2
   go_enter Tryz.func115, Tryz.ntmps115
   go_wp2_with fail
   go_ret
   exact ⟨rfl, rfl⟩
 ·have d1 : decide ((1 : Int) ≤ (n : Int)) = false := decide_eq_false (by omega)
  have HR : Hid (decide (1 ≤ n ∧ n ≤ 65536) = false) := decide_eq_false (by omega)
  rw [HR.out]
  clear h1
  go_enter Tryz.func115, Tryz.ntmps115
  go_wp2_with fail
  go_ret
  exact ⟨rfl, rfl⟩
theorem size_any (p : Option Addr) (n c : Nat) (hn : n ≤ 1099511627776) (w : World) :
  Calls Tryz.prog 116 #[.slice p n c] w fun e w' => e = .returned (.int .i64 ((8 + n : Nat) : Int)) ∧ w = w' := by
 have hw : IntKind.i64.wrap (8 + (n : Int)) = ((8 + n : Nat) : Int) := by rw [IntWalk.i64_in _ (by omega)]; omega
 go_enter Tryz.func116, Tryz.ntmps116
 go_wp2_with fail
 go_ret
 exact ⟨by first | rfl | (rw [hw]), rfl⟩
end Go.Proofs.YtnejjfglkindjaaGreatDoor.Frm
namespace Go.Proofs.YtnejjfglkindjaaGreatDoor.Frm
open Go.RowKit Go.Mir Go.Mir.Parts Wr Cod
theorem ws_below {w x y : World} {wb R : Nat} {E : List UInt8} (h : WS w wb R E x) (hb : Below x.heap.size x y) : WS w wb R E y := by
 obtain ⟨v, l, bad, ha, hv, h3, h4⟩ := h.all
 exact ⟨v, l, bad, ha.touch (Turns.of_below (S := fun _ => False) hb) (fun _ _ h => h), hv, h3, h4.trans (hb.mono h4.size)⟩
def frame (l : List UInt8) : List UInt8 := be l.length 4 ++ be (Crc.more 0#32 ([be l.length 4, l].flatten)).toNat 4 ++ l
def enc (l : List UInt8) : List UInt8 × Int := if l.length = 0 then ([], 1) else (frame l, 0)
set_option maxRecDepth 100000 in
set_option maxHeartbeats 1600000 in
theorem encode_any (p : Option Addr) (n c : Nat) (l : List UInt8) (w : World) (hB : Bs w p n c l) (hn : n ≤ 4000) :
  Calls Tryz.prog 78 #[.slice p n c] w fun e w' => ∃ p' c', e = .returned (.tuple #[.slice p' (enc l).1.length c', .int .i64 (enc l).2]) ∧ w'.ownsRow w.heap.size 5 1 (.slice p' (enc l).1.length c') (enc l).1.length (bytesV (enc l).1) ∧ Below w.heap.size w w' := by
 have HB := Lib.hid hB
 have HN := Lib.hid hB.length
 clear hB
 have hw1 : IntKind.u64.wrap (n : Int) = (n : Int) := by rw [IntKind.wrap_u64]; omega
 by_cases h0 : n = 0
 ·have HF : Hid (decide (1 ≤ n ∧ n ≤ 65536) = false) := decide_eq_false (by omega)
  have HE : Hid (enc l = ([], 1)) := by show _ = _; unfold enc; rw [if_pos (by rw [HN.out]; exact h0)]
  clear h0
  go_enter Tryz.func78, Tryz.ntmps78
  go_wp2_with fail
  refine (fits_any n (by omega) w).mono ?_
  rintro e w1 ⟨rfl, rfl⟩
  rw [HF.out]
  go_wp2_with fail
  go_ret2
  exact ⟨none, 0, by rw [HE.out]; rfl, by rw [HE.out]; exact ⟨rfl, .inl ⟨rfl, rfl⟩⟩, Below.refl _ _⟩
 ·have HF : Hid (decide (1 ≤ n ∧ n ≤ 65536) = true) := decide_eq_true (by omega)
  have HE : Hid (enc l = (frame l, 0)) := by show _ = _; unfold enc; rw [if_neg (by rw [HN.out]; exact h0)]
  clear h0
  go_enter Tryz.func78, Tryz.ntmps78
  go_wp2_with fail
  refine (fits_any n (by omega) w).mono ?_
  rintro e w1 ⟨rfl, rfl⟩
  rw [HF.out]
  go_wp2_with fail
  refine (size_any p n c (by omega) w).mono ?_
  rintro e w1 ⟨rfl, rfl⟩
  go_wp2_with fail
  refine (ws_new w w (Below.refl _ _) (8 + n) (by omega)).mono ?_
  rintro e w2 ⟨rfl, hs2, -⟩
  have HS2 := Lib.hid hs2
  clear hs2
  go_wp2_with fail
  refine (ws_num HS2.out (by omega) n 4 (by omega) (by omega) (by omega) (by omega)).mono ?_
  rintro e w3 ⟨rfl, hs3⟩
  have HS3 := Lib.hid hs3
  clear hs3 HS2
  go_wp2_with fail
  refine (ws_done HS3.out (by omega) (by rw [List.nil_append, be_length]; omega)).mono ?_
  rintro e w4 ⟨⟨p4, c4, rfl, ho4⟩, hs4, hb4⟩
  have HS4 := Lib.hid hs4
  have HO4 := Lib.hid ho4
  clear hs4 ho4 HS3
  go_wp2_with fail
  have hb14 : Bs w4 p4 (be n 4).length c4 (be n 4) := by
   obtain ⟨p9, c9, e9, h9⟩ := own_sl HO4.out
   cases e9
   exact h9
  have h4w : Below w.heap.size w w4 := HS4.out.low
  have hal : Below w4.heap.size w4 (w4.alloc (.cells #[.slice p4 (be n 4).length c4, .slice p n c] 22)) := Below.allocs _ _
  refine (CrcW.of_any _ _ _ [be n 4, l] _ (Pts.made2 hb14 (HB.out.below h4w) _ rfl)).mono ?_
  rintro e w5 ⟨rfl, hb5⟩
  have HS5 := Lib.hid (ws_below HS4.out (hal.trans (hb5.mono hal.size)))
  have HO5 := Lib.hid HO4.out
  have hcl := (Crc.more 0#32 ([be n 4, l].flatten)).isLt
  obtain ⟨C, hC⟩ : ∃ C, (Crc.more 0#32 ([be n 4, l].flatten)).toNat = C := ⟨_, rfl⟩
  rw [hC] at hcl ⊢
  have hcw : IntKind.u64.wrap (C : Int) = (C : Int) := by rw [IntKind.wrap_u64]; omega
  have HC := Lib.hid hC
  clear hb14 h4w hal hb5 HS4 hC HO4
  go_wp2_with fail
  refine (ws_num HS5.out (by omega) C 4 (by omega) (by omega) (by omega) (by omega)).mono ?_
  rintro e w6 ⟨rfl, hs6⟩
  have HS6 := Lib.hid hs6
  clear hs6 HS5
  go_wp2_with fail
  refine (ws_bytes HS6.out (by omega) p n c l HB.out (by rw [HN.out]; omega)).mono ?_
  rintro e w7 ⟨rfl, hs7⟩
  have HS7 := Lib.hid hs7
  clear hs7 HS6
  go_wp2_with fail
  refine (ws_done HS7.out (by omega) (by simp only [List.nil_append, List.length_append, be_length]; rw [HN.out]; omega)).mono ?_
  rintro e w8 ⟨⟨p8, c8, rfl, ho8⟩, hs8, hb8⟩
  have hfr : ([] ++ be n 4 ++ be C 4 ++ l) = frame l := by unfold frame; rw [HN.out, HC.out, List.nil_append]
  rw [hfr] at ho8
  have HO8 := Lib.hid (own_base ho8 (base' := w.heap.size) (fun k hk => by have := (ho8.lt k hk).1; have := HS7.out.low.size; omega))
  have HFR := Lib.hid hfr
  have HB8 := Lib.hid hs8.low
  rw [hfr]
  clear hs8 hb8 ho8 hfr
  go_wp2_with fail
  go_ret2
  exact ⟨p8, c8, by rw [HE.out]; rfl, by rw [HE.out]; exact HO8.out, HB8.out⟩
end Go.Proofs.YtnejjfglkindjaaGreatDoor.Frm
namespace Go.Proofs.YtnejjfglkindjaaGreatDoor.Frm
open Go.RowKit Go.Mir Go.Mir.Parts Wr Cod
set_option maxRecDepth 100000 in
theorem value_any (p : Option Addr) (n c : Nat) (l : List UInt8) (w : World) (hB : Bs w p n c l) (hn : n ≤ 4) :
  Calls Tryz.prog 130 #[.slice p n c] w fun e w' => e = .returned (.int .i64 (Rdr.beN l : Int)) ∧ w = w' := by
 have HB := Lib.hid hB
 have HN := Lib.hid hB.length
 have hle := hB.le
 have hmax := hB.max
 clear hB
 go_enter Tryz.func130, Tryz.ntmps130
 go_wp2_with fail
 go_loop [3, 4] (fun x j => ∃ k : Nat, k ≤ n ∧ j = .int .i64 k ∧ x = .int .i64 (Rdr.beN (l.take k) : Nat)) (fun _ j => n - (intOf j).toNat)
 case atStart => exact ⟨0, by omega, rfl, rfl⟩
 case round =>
  obtain ⟨k, hk, rfl, rfl⟩ := hrel
  by_cases hlt : k < n
  ·have hd : decide ((k:Int) < n) = true := by simp; omega
   obtain ⟨b', o', rfl⟩ := HB.out.addr (by omega) (by omega)
   have hc' := Bs.byte HB.out (j := k) (by rw [HN.out]; omega)
   have hbe := Rdr.beN_snoc (l.take k) (l[k]'(by rw [HN.out]; omega))
   rw [← take_snoc l k (by rw [HN.out]; omega)] at hbe
   have hb1 := Rdr.beN_lt_pow (l.take (k + 1))
   have hb2 : 256 ^ (l.take (k + 1)).length ≤ 256 ^ 4 := Nat.pow_le_pow_right (by omega) (by rw [List.length_take, HN.out]; omega)
   have hb4 : (256 : Nat) ^ 4 = 4294967296 := by decide
   generalize l[k]'(by rw [HN.out]; omega) = y at *
   have hll : y.toNat < 256 := y.toNat_lt
   generalize hB0 : Rdr.beN (l.take k) = B at *
   generalize hB2 : Rdr.beN (l.take (k + 1)) = B2 at *
   have HB2 := Lib.hid hB2
   have q1 : IntKind.i64.wrap ((256 : Int) * (B : Int)) = ((256 * B : Nat) : Int) := by rw [IntWalk.i64_in _ (by omega)]; omega
   have q2 : IntKind.i64.wrap (((256 * B : Nat) : Int) + (y.toNat : Int)) = (B2 : Int) := by rw [IntWalk.i64_in _ (by omega)]; omega
   have q3 : IntKind.i64.wrap ((256 : Int) * (B : Int) + (y.toNat : Int)) = (B2 : Int) := by rw [IntWalk.i64_in _ (by omega)]; omega
   have HW := Lib.hid q1
   have HW2 := Lib.hid q2
   have HW3 := Lib.hid q3
   clear hB0 hB2 hbe hb1 hb2 hb4
   go_wp2_with fail
   go_round
   case rel =>
    exact ⟨k + 1, by omega, by go_num, by first | rw [HB2.out] | (rw [HW.out, HW2.out, HB2.out]) | (rw [HW3.out, HB2.out])⟩
   case measure => simp [intOf]; omega
  ·obtain rfl : k = n := by omega
   have hd : decide ((k:Int) < (k : Int)) = false := by simp
   rw [List.take_of_length_le (by rw [HN.out]; omega)]
   go_wp2_with fail
   go_ret
   exact ⟨rfl, rfl⟩
end Go.Proofs.YtnejjfglkindjaaGreatDoor.Frm
namespace Go.Proofs.YtnejjfglkindjaaGreatDoor.RW
open Go.RowKit Go.Mir Go.Mir.Parts Wr
abbrev rv (room : Int) (p : Option Addr) (n c : Nat) (bad : Int) : Value := .agg #[.int .i64 room, .slice p n c, .int .i64 bad]
end Go.Proofs.YtnejjfglkindjaaGreatDoor.RW
namespace Go.Proofs.YtnejjfglkindjaaGreatDoor.RW
open Go.RowKit Go.Mir Go.Mir.Parts Wr
theorem be_take (n m k : Nat) (hk : k < m) : (be n m).take (k + 1) = (be n m).take k ++ [nb n (8 - m + k)] := by
 rw [List.take_succ_eq_append_getElem (by rw [be_length]; exact hk)]; simp [be]
set_option maxRecDepth 100000 in
set_option maxHeartbeats 400000 in
theorem number_any (n m : Nat) (_hn : n < 18446744073709551616) (hm : m ≤ 8) (w : World) :
  Calls Tryz.prog 22 #[.int .u64 (n : Int), .int .i64 (m : Int)] w fun e w' => (∃ v, e = .returned v ∧ w'.ownsRow w.heap.size 5 1 v m (bytesV (be n m))) ∧ Below w.heap.size w w' := by
 go_enter Tryz.func22, Tryz.ntmps22
 go_wp2
 go_loopw [5, 6] (fun x j wr => ∃ k : Nat, k ≤ m ∧ j = .int .i64 ((m : Int) - 1 - (k : Int)) ∧ wr.ownsRow w.heap.size 5 1 x k (bytesV ((be n m).take k)) ∧ Below w.heap.size w wr) (fun _ j _ => (intOf j + 1).toNat)
 case atStart => exact ⟨0, by omega, by go_num, World.ownsRow_nil _ _ _ _, Below.refl _ _⟩
 case round =>
  obtain ⟨k, hk, rfl, how, hbl⟩ := hrel
  have HO := Lib.hid how
  have HB := Lib.hid hbl
  clear how hbl
  by_cases hlt : k < m
  ·have hd : decide ((0 : Int) ≤ (m : Int) - 1 - (k : Int)) = true := by simp; omega
   obtain ⟨i, hi⟩ : ∃ i : Nat, (m : Int) - 1 - (k : Int) = (i : Int) := ⟨m - 1 - k, by omega⟩
   rw [hi]
   rw [hi] at hd
   have hi2 : 7 - i = 8 - m + k := by omega
   have hv := nb_int n i (by omega)
   rw [hi2] at hv
   have hil : i < 8 := by omega
   have HI := Lib.hid hi
   clear hi hi2
   have hbd : Hid (k + 1 ≤ 9223372036854775807 ∧ (k + 1) * 1 ≤ 140737488355328) := by show _ ∧ _; omega
   have hnew : Hid (Bs (wr.alloc (.cells #[.int .u8 ((nb n (8 - m + k)).toNat : Int)] 5)) (some ⟨wr.heap.size, 0, none⟩) 1 1 [nb n (8 - m + k)]) := Bs.made wr [nb n (8 - m + k)] _ _ _ 1 rfl rfl (by omega)
   have htk : Hid (bytesV ((be n m).take (k + 1)) = bytesV ((be n m).take k) ++ bytesV [nb n (8 - m + k)]) := by
    show _ = _
    rw [be_take n m k hlt, bytesV_append]
   go_wp2_with (at_builtin; refine wpList_append_nx rfl _ _ 22 rfl (base := w.heap.size) Tryz.underlying22 infoB rfl (by omega) rfl (HO.out.alloc _) rfl hnew.out (bytesV_one _) hbd.out (by have := HB.out.size; simp; omega) ?_)
   intro p' c' w1 hown hg hnx hne
   have HO' : Hid (w1.ownsRow w.heap.size 5 1 (.slice p' (k + 1) c') (k + 1) (bytesV ((be n m).take (k + 1)))) := by
    show World.ownsRow _ _ _ _ _ _ _
    rw [htk.out]; exact hown
   have HB' : Hid (Below w.heap.size w w1) := (HB.out.alloc HB.out.size _).trans ((Below.refl _ _).grown hg (by have := HB.out.size; simp; omega) (fun i hi => (HO.out.lt i hi).1))
   clear hown hg hnx hne
   go_wp2
   go_roundw
   case rel => exact ⟨k + 1, by omega, by have := HI.out; congr 1; omega, HO'.out, HB'.out⟩
   case measure => simp [intOf]
  ·obtain rfl : k = m := by omega
   have hd : decide ((0 : Int) ≤ (k : Int) - 1 - (k : Int)) = false := by simp; omega
   have HO2 : Hid (wr.ownsRow w.heap.size 5 1 u5 k (bytesV (be n k))) := by
    have := HO.out; rw [List.take_of_length_le (by rw [be_length]; omega)] at this; exact this
   go_wp2
   go_ret
   exact ⟨⟨_, rfl, HO2.out⟩, HB.out⟩
end Go.Proofs.YtnejjfglkindjaaGreatDoor.RW
