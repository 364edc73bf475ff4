/- PARTS, JOINED: THE WALKS OF A DISK: a step to a file; bytes put, a cut, a sync. Conditions: none. THE WALKS OF A DISK: bytes put, a cut, a sync. Conditions: none. THE WALKS OF A DISK: what is asked wrongly; what a file keeps; sizes and units. Conditions: none. A DISK CLONED. Conditions: none. WHAT A CALL LEAVES OF A DISK, whatever is asked; what calls do, one behind the other. Conditions: none. THE WALKS OF A DISK: a crash that keeps some units. Conditions: none. THE CALLS OF A STATEMENT ON DISKS, as they lie in memory; are there not too many? Conditions: none. CALLS PLAYED, one behind the other. Conditions: none. PLAIN PART OF DiskKeeps: behind a sync nothing waits; a crash keeps the first bytes of what was put behind it. Conditions: none. THE WALKS OF THE WRITER: bytes one behind the other, room and a fault; each call as a plain function of what the writer held. Conditions: parts that stay as they are while the writer's own blocks turn. THE WALKS OF THE WRITER, on: put with any fault, Bytes, Id, Hint, Ids, Num, New, Len, Err, Done. Conditions: as in the first part. -/
import Derived.Test.YtnejjfglkindjaaGreatDoorVb1
import Derived.Test.YtnejjfglkindjaaGreatDoorVb2
import Derived.Test.YtnejjfglkindjaaGreatDoorVb3
import Derived.Laws.Tables
import Derived.Laws.CopyOwn
import Derived.Test.YtnejjfglkindjaaGreatDoorProg
import Derived.BigQuiet
import Derived.Deep.QuietTactic
namespace Go.Proofs.YtnejjfglkindjaaGreatDoor.Dk
open Go.RowKit Go.Mir

theorem LeftD.row {w w' : World} {base db : Nat} {vs : List FV} {d d' : DD} (_h : DAt w base db vs d) (hd : DAt w' base db vs d') (ht : Turns (fun k => k = db) w w') : LeftD base db vs d' w w' :=
  ⟨vs, hd, ht.imp (fun _k _ hk => .inl hk), fun _k hk => .inl hk⟩
theorem LeftD.trans {w w1 w2 : World} {base db : Nat} {vs vs1 : List FV} {d2 : DD} (h0 : ∀ k, DOwn db vs1 k → DOwn db vs k ∨ w.heap.size ≤ k) (ht : Turns (DOwn db vs) w w1) (h : LeftD base db vs1 d2 w1 w2) : LeftD base db vs d2 w w2 := by
  obtain ⟨vs2, hd, ht2, hn⟩ := h
  refine ⟨vs2, hd, ht.trans ht2 (fun k hk hs => ?_), fun k hk => ?_⟩
  · rcases h0 k hs with h | h
    · exact h
    · omega
  · rcases hn k hk with hn | hn
    · exact h0 k hn
    · exact .inr (Nat.le_trans ht.size hn)
/-- what a step answers -/
def doE (d : DD) (i : Nat) (f : FD) (s : St) : Int :=
  if d.down = true then 18 else if d.room < usedL d.fs - f.need + max f.need (s.size f.now.length) then 17 else if (setF d i (f.take s)).burn.down = true then 18 else 0
def doD (d : DD) (i : Nat) (f : FD) (s : St) : DD :=
  if d.down = true then d else if d.room < usedL d.fs - f.need + max f.need (s.size f.now.length) then d else (setF d i (f.take s)).burn

set_option maxRecDepth 100000 in
theorem do_out {base db : Nat} {vs : List FV} {d : DD} (w : World) (h : DAt w base db vs d) (n : Int) (hn : n < 0 ∨ 3 ≤ n) (sv : Value) (hsv : (∃ v, sv = .iface 109 v) ∨ ∃ z, sv = .iface 169 (.agg #[.int .i64 z])) :
    Calls Tryz.prog 47 #[.pointer (some ⟨db, 0, none⟩), .int .i64 n, sv] w fun e w' => e = .returned (.int .i64 1) ∧ Below w.heap.size w w' := by
  have H := Lib.hid h
  have HN := Lib.hid hn
  clear h hn
  rcases hsv with ⟨v, rfl⟩ | ⟨z, rfl⟩
  · have hta := ta_pc v
    go_enter Tryz.func47, Tryz.ntmps47
    go_wp2_with fail
    refine (at_out w H.out n HN.out).mono ?_
    rintro e w' ⟨rfl, rfl⟩
    have hb := Below.allocs w (.cells #[.int .i64 0] 169)
    have HB := Lib.hid hb
    have HA := Lib.hid (H.out.below hb)
    clear hb
    go_upto_region 3 with fail
    generalize w.alloc (.cells #[.int .i64 0] 169) = w1 at *
    go_wp2_with fail
    refine (none_any _ HA.out).mono ?_
    rintro e w' ⟨rfl, rfl⟩
    go_wp2_with fail
    refine wp_region_grow (by kernel_rfl) (by kernel_rfl) ?_
    repeat (first
      | ((with_reducible refine wpQuietGd ?_); (with_reducible refine wpQuiet_skip ?_ ?_); (· rfl); simp only [Act.put, List.setIfInBounds_toArray, List.set_cons_zero, List.set_cons_succ])
      | quiet_step (fail))
    refine wpQuiet_nil ?_
    intro w2 hb2
    have HB2 := Lib.hid (HB.out.trans (hb2.mono HB.out.size))
    clear hb2
    go_wp2_with fail
    go_ret
    exact ⟨rfl, HB2.out⟩
  · have hta := ta_cc (.agg #[.int .i64 z])
    go_enter Tryz.func47, Tryz.ntmps47
    go_wp2_with fail
    refine (at_out w H.out n HN.out).mono ?_
    rintro e w' ⟨rfl, rfl⟩
    have hb := Below.allocs w (.cells #[.int .i64 z] 169)
    have HB := Lib.hid hb
    have HA := Lib.hid (H.out.below hb)
    clear hb
    go_upto_region 3 with fail
    generalize w.alloc (.cells #[.int .i64 z] 169) = w1 at *
    go_wp2_with fail
    refine (none_any _ HA.out).mono ?_
    rintro e w' ⟨rfl, rfl⟩
    go_wp2_with fail
    refine wp_region_grow (by kernel_rfl) (by kernel_rfl) ?_
    repeat (first
      | ((with_reducible refine wpQuietGd ?_); (with_reducible refine wpQuiet_skip ?_ ?_); (· rfl); simp only [Act.put, List.setIfInBounds_toArray, List.set_cons_zero, List.set_cons_succ])
      | quiet_step (fail))
    refine wpQuiet_nil ?_
    intro w2 hb2
    have HB2 := Lib.hid (HB.out.trans (hb2.mono HB.out.size))
    clear hb2
    go_wp2_with fail
    go_ret
    exact ⟨rfl, HB2.out⟩

theorem used_grow {base db : Nat} {vs : List FV} {d : DD} (w : World) (h : DAt w base db vs d) : Calls Tryz.prog 93 #[.pointer (some ⟨db, 0, none⟩)] w fun e w' => e = .returned (.int .i64 (usedL d.fs : Int)) ∧ Below w.heap.size w w' :=
  (used_any w h).mono fun _e _w' ⟨h1, h2⟩ => ⟨h1, h2 ▸ Below.refl _ _⟩
theorem units_fit {s : St} {d : DD} {f : FD} {n1 : Nat} (_h : n1 = max f.need (s.size f.now.length)) (hle : ¬ d.room < usedL d.fs - f.need + max f.need (s.size f.now.length)) (hr : d.room ≤ 65536) (_hu : s.units ≤ 140737488355328) : s.units ≤ 65536 := by
  cases s with
  | put b => simp only [St.size, St.units] at *; omega
  | cut n => simp only [St.units]; omega
def DoP (base db : Nat) (vs : List FV) (d : DD) (i : Nat) (f : FD) (s : St) (w : World) (e : Ending) (w' : World) : Prop := e = .returned (.int .i64 (doE d i f s)) ∧ LeftD base db vs (doD d i f s) w w'
set_option maxRecDepth 100000 in
set_option maxHeartbeats 1600000 in
theorem do_in {base db : Nat} {vs : List FV} {d : DD} (w : World) (h : DAt w base db vs d) (hbase : base ≤ w.heap.size) (i : Nat) (hi : i < d.fs.length) (f : FD) (hf : d.fs[i] = f) (sv : Value) (s : St) (hs : StAt w base sv s)
    (hok : s.ok f.now.length) (hu : s.units ≤ 140737488355328) (hfew : f.steps.length + 1 ≤ 4398046511104) :
    Calls Tryz.prog 47 #[.pointer (some ⟨db, 0, none⟩), .int .i64 (i : Int), sv] w (DoP base db vs d i f s w) := by
  have hv : i < vs.length := by have := h.n3; have := h.m3; omega
  have hi3 : i < 3 := by have := h.m3; omega
  have hF := h.each i _ _ (List.getElem?_eq_getElem hv) (List.getElem?_eq_getElem hi)
  rw [hf] at hF
  have HND : Hid ((vs[i]'hv).nd = f.need) := hF.need
  have hle := usedL_mem hi
  rw [hf] at hle
  have hused := h.used
  have hroom1 := h.room1
  have HROOM := Lib.hid hroom1.2
  have HNL : Hid (f.now.length ≤ 65536) := by have := hF.ok.le; show _ ≤ _; omega
  obtain ⟨U, hU⟩ : ∃ U, U = usedL d.fs := ⟨_, rfl⟩
  have HUE := Lib.hid hU
  rw [← hU] at hle hused
  obtain ⟨z, hz⟩ : ∃ z, z = s.size f.now.length := ⟨_, rfl⟩
  have HZE := Lib.hid hz
  have HZL : Hid (z ≤ 281474976710656) := by
    show _ ≤ _
    rw [hz]
    have := HNL.out
    cases s with
    | put b => simp only [St.size, St.units] at *; omega
    | cut n => simp only [St.size, St.ok] at *; omega
  obtain ⟨n1, hn1⟩ : ∃ n1, n1 = max f.need z := ⟨_, rfl⟩
  have HN1 := Lib.hid hn1
  have HN1M : Hid (max f.need (s.size f.now.length) = n1) := by show _ = _; rw [← hz, hn1]
  have HN1L : Hid (n1 ≤ 281474976776192) := by have := HZL.out; show _ ≤ _; omega
  have HMX1 : Hid ((if ((f.need : Nat) : Int) < ((z : Nat) : Int) then ((z : Nat) : Int) else ((f.need : Nat) : Int)) = (n1 : Int) ∧ (if f.need < z then ((z : Nat) : Int) else ((f.need : Nat) : Int)) = (n1 : Int)) := by
    show _ ∧ _
    constructor <;> (split <;> omega)
  have H := Lib.hid h
  have HFE := Lib.hid hf
  have HS := Lib.hid hs
  have HOKS := Lib.hid hok
  have HUS := Lib.hid hu
  have HFEW := Lib.hid hfew
  have HBASE := Lib.hid hbase
  have HI := Lib.hid hi
  have HFF := Lib.hid hF
  have HV := Lib.hid hv
  clear hn1 hz hU hF hf h hu hfew
  cases s with
  | put b =>
    obtain ⟨bv, rfl, hrd⟩ := hs
    obtain ⟨p, c, rfl, hbs⟩ := hrd.bs
    clear hrd hbs hok
    obtain ⟨SV, hSV⟩ : ∃ SV, SV = Value.iface 109 (.agg #[.slice p b.length c]) := ⟨_, rfl⟩
    have hta : ∀ w, (Instr.typeAssert SV 165 169 true).run Tryz.prog w = .ok (.tuple #[.agg #[.int .i64 0], .bool false]) w := fun w => by rw [hSV]; exact ta_pc _ w
    rw [← hSV] at HS ⊢
    clear hSV
    go_enter Tryz.func47, Tryz.ntmps47
    go_wp2_with fail
    refine (at_in w H.out i hi3).mono ?_
    rintro e w' ⟨rfl, rfl⟩
    have hb := Below.allocs w (.cells #[.int .i64 0] 169)
    have HB := Lib.hid hb
    have HA := Lib.hid (H.out.below hb)
    clear hb
    go_upto_region 3 with fail
    generalize w.alloc (.cells #[.int .i64 0] 169) = w1 at *
    go_wp2_with fail
    refine (none_any _ HA.out).mono ?_
    rintro e w' ⟨rfl, rfl⟩
    clear hta
    go_wp2_with fail
    refine wp_region_grow (by kernel_rfl) (by kernel_rfl) ?_
    repeat (first
      | ((with_reducible refine wpQuietGd ?_); (with_reducible refine wpQuiet_skip ?_ ?_); (· rfl); simp only [Act.put, List.setIfInBounds_toArray, List.set_cons_zero, List.set_cons_succ])
      | quiet_step (fail))
    refine wpQuiet_nil ?_
    intro w2 hb2
    have HBx := Lib.hid (HB.out.trans (hb2.mono HB.out.size))
    have HAx := Lib.hid (HA.out.below hb2)
    clear hb2 HB HA w1
    have HB := HBx
    have HA := HAx
    clear HBx HAx
    generalize hst : St.put b = s at *
    clear hst
    generalize hw2 : w2 = w1 at *
    clear hw2 w2
    have HDN1 := Lib.hid (HA.out.cells.2.2.1)
    cases hdn : d.down with
    | true =>
      have hc := HDN1.out
      rw [hdn] at hc
      have HFIN : Hid (∀ w', Below w.heap.size w w' → DoP base db vs d i f s w (.returned (.int .i64 18)) w') := fun w' hb => by
        refine ⟨by unfold doE; rw [if_pos hdn], vs, ?_, Turns.of_below hb, fun k hk => .inl hk⟩
        unfold doD
        rw [if_pos hdn]
        exact H.out.below hb
      clear hdn
      go_wp2_with fail
      go_ret
      exact HFIN.out _ HB.out
    | false =>
      have HDN := Lib.hid hdn
      have hc := HDN1.out
      rw [hdn] at hc
      clear hdn
      go_upto_region 9 with fail
      have hcn := (HA.out.file i HV.out).2.2.2
      rw [HND.out] at hcn
      have hcr := HA.out.cells.1
      have hg1 := cell_grown hcn
      have hg2 := cell_grown hcr
      have HAFT : Hid (∀ y : Grown w1, Calls Tryz.prog 94 #[.pointer (some ⟨db, i * 4, none⟩), SV] y.v fun e w' => e = .returned (.int .i64 (z : Int)) ∧ Below y.v.heap.size y.v w') := fun y => by
        have := after_any y.v (HA.out.below y.b) i HI.out SV s (HS.out.touch (Turns.of_below (S := fun _ => False) (HB.out.trans (y.b.mono HB.out.size))) (fun _ _ _ _ h => h)) (by rw [HFE.out]; have := HZL.out; rw [HZE.out] at this; omega)
        rw [HFE.out, ← HZE.out] at this
        exact this
      have HUSE : Hid (∀ y : Grown w1, Calls Tryz.prog 93 #[.pointer (some ⟨db, 0, none⟩)] y.v fun e w' => e = .returned (.int .i64 (U : Int)) ∧ Below y.v.heap.size y.v w') := fun y => by
        have := used_grow y.v (HA.out.below y.b)
        rwa [← HUE.out] at this
      obtain ⟨hmx1, hmx2⟩ := HMX1.out
      have hsub : (U : Int) - (f.need : Int) = ((U - f.need : Nat) : Int) := by omega
      have hws : IntKind.i64.wrap ((U : Int) - (f.need : Int)) = ((U - f.need : Nat) : Int) := by rw [hsub]; exact IntWalk.i64_in _ (by omega)
      have hws2 : IntKind.i64.wrap ((U - f.need : Nat) : Int) = ((U - f.need : Nat) : Int) := IntWalk.i64_in _ (by omega)
      have hwa : IntKind.i64.wrap (((U - f.need : Nat) : Int) + (n1 : Int)) = ((U - f.need : Nat) : Int) + (n1 : Int) := IntWalk.i64_in _ (by have := HN1L.out; omega)
      refine wp_region_grow (by kernel_rfl) (by kernel_rfl) ?_
      repeat (first
        | ((with_reducible refine wpQuietGd ?_); (with_reducible refine wpQuiet_skip ?_ ?_); (· rfl); simp only [Act.put, List.setIfInBounds_toArray, List.set_cons_zero, List.set_cons_succ])
        | quiet_step ((first | (go_at_call 94; exact Calls.grow_of (HAFT.out _)) | (go_at_call 93; exact Calls.grow_of (HUSE.out _)))))
      refine wpQuiet_nil ?_
      intro w2 hb2
      have HA2 := Lib.hid (HA.out.below hb2)
      have HB2 := Lib.hid (HB.out.trans (hb2.mono HB.out.size))
      clear hb2 hg1 hg2 hcn hcr hc HAFT HUSE hws hws2 hwa hsub hmx1 hmx2
      by_cases hbig : (d.room : Int) < ((U - f.need : Nat) : Int) + (n1 : Int)
      · have e1 : decide ((d.room : Int) < ((U - f.need : Nat) : Int) + (n1 : Int)) = true := decide_eq_true hbig
        have e2 : decide (d.room < U - f.need + n1) = true := decide_eq_true (by omega)
        have HFIN : Hid (∀ w', Below w.heap.size w w' → DoP base db vs d i f s w (.returned (.int .i64 17)) w') := fun w' hb => by
          have hgt : d.room < usedL d.fs - f.need + max f.need (s.size f.now.length) := by
            have := HN1.out; have := HUE.out; have := HZE.out; have := HN1M.out; omega
          refine ⟨by unfold doE; rw [HDN.out, if_neg (by decide), if_pos hgt], vs, ?_, Turns.of_below hb, fun k hk => .inl hk⟩
          unfold doD
          rw [HDN.out, if_neg (by decide), if_pos hgt]
          exact H.out.below hb
        go_wp2_with fail
        go_ret
        exact HFIN.out _ HB2.out
      · have e1 : decide ((d.room : Int) < ((U - f.need : Nat) : Int) + (n1 : Int)) = false := decide_eq_false hbig
        have e2 : decide (d.room < U - f.need + n1) = false := decide_eq_false (by omega)
        have HLE : Hid (¬ d.room < usedL d.fs - f.need + max f.need (s.size f.now.length)) := by
          have := HN1.out; have := HUE.out; have := HZE.out; have := HN1M.out; show ¬ _; omega
        have HTK := Lib.hid (take_any w2 HA2.out (Nat.le_trans HBASE.out HB2.out.size) i HI.out f HFE.out SV s (HS.out.touch (Turns.of_below (S := fun _ => False) HB2.out) (fun _ _ _ _ h => h)) HOKS.out (units_fit HN1M.out.symm HLE.out HROOM.out HUS.out) HFEW.out (by have := HLE.out; show usedL d.fs - f.need + max f.need (s.size f.now.length) ≤ d.room; omega))
        have hbig2 : ((U - f.need : Nat) : Int) + (n1 : Int) ≤ (d.room : Int) := by omega
        go_wp2_with fail
        clear hbig hbig2
        refine (HTK.out).mono ?_
        rintro e w3 ⟨rfl, vs3, hd3, ht3, hn3⟩
        have HD3 := Lib.hid hd3
        have HT3 : Hid (Turns (DOwn db vs) w w3) := (Turns.of_below HB2.out).trans ht3 (fun _ _ h => h)
        have HN3 : Hid (∀ k, DOwn db vs3 k → DOwn db vs k ∨ w.heap.size ≤ k) := fun k hk => (hn3 k hk).imp id (fun h => Nat.le_trans HB2.out.size h)
        have HBN := Lib.hid (burn_any w3 hd3)
        clear hd3 ht3 hn3 HTK
        go_wp2_with fail
        refine (HBN.out).mono ?_
        rintro e w4 ⟨rfl, hd4, ht4⟩
        have HFIN : Hid (∀ v, v = doE d i f s → DoP base db vs d i f s w (.returned (.int .i64 v)) w4) := fun v hv => by
          refine ⟨by rw [hv], ?_⟩
          have := LeftD.trans HN3.out HT3.out (LeftD.row HD3.out hd4 ht4)
          unfold doD
          rw [HDN.out, if_neg (by decide), if_neg HLE.out]
          exact this
        have HDE : Hid (doE d i f s = if (setF d i (f.take s)).burn.down = true then 18 else 0) := by show _ = _; unfold doE; rw [HDN.out, if_neg (by decide), if_neg HLE.out]
        clear hd4 ht4
        cases hbd : (setF d i (f.take s)).burn.down with
        | true =>
          have HV18 := Lib.hid (HFIN.out 18 (by rw [HDE.out, hbd]; rfl))
          clear hbd
          go_wp2_with fail
          go_ret
          exact HV18.out
        | false =>
          have HV0 := Lib.hid (HFIN.out 0 (by rw [HDE.out, hbd]; rfl))
          clear hbd
          go_wp2_with fail
          go_ret
          exact HV0.out
  | cut m =>
    cases hs
    obtain ⟨SV, hSV⟩ : ∃ SV, SV = Value.iface 169 (.agg #[.int .i64 (m : Int)]) := ⟨_, rfl⟩
    have hta : ∀ w, (Instr.typeAssert SV 165 169 true).run Tryz.prog w = .ok (.tuple #[.agg #[.int .i64 (m : Int)], .bool true]) w := fun w => by rw [hSV]; exact ta_cc _ w
    rw [← hSV] at HS ⊢
    have hmn : m ≤ f.now.length := hok
    clear hSV hok
    go_enter Tryz.func47, Tryz.ntmps47
    go_wp2_with fail
    refine (at_in w H.out i hi3).mono ?_
    rintro e w' ⟨rfl, rfl⟩
    have hb := Below.allocs w (.cells #[.int .i64 (m : Int)] 169)
    have HB := Lib.hid hb
    have HA := Lib.hid (H.out.below hb)
    have hcm : (w.alloc (.cells #[.int .i64 (m : Int)] 169)).cell? ⟨w.heap.size, 0, none⟩ = some (.int .i64 (m : Int)) := by rw [cell_of_row _ _ _ _ _ _ (heap_alloc_last _ _)]; rfl
    clear hb
    go_upto_region 3 with fail
    generalize w.alloc (.cells #[.int .i64 (m : Int)] 169) = w1 at *
    go_wp2_with fail
    refine (none_any _ HA.out).mono ?_
    rintro e w' ⟨rfl, rfl⟩
    clear hta
    obtain ⟨pn, cn, hnv, hbn⟩ := HFF.out.now.bs
    have hc1 := (HA.out.file i HV.out).2.1
    rw [hnv] at hc1
    have hg1 := cell_grown hc1
    have hg2 := cell_grown hcm
    have hm0 : decide ((m : Int) < 0) = false := decide_eq_false (by omega)
    have hm1 : decide ((f.now.length : Int) < (m : Int)) = false := decide_eq_false (by omega)
    have hm2 : decide (f.now.length < m) = false := decide_eq_false (by omega)
    clear hbn hnv
    go_upto_region 5 with fail
    refine wp_region_grow (by kernel_rfl) (by kernel_rfl) ?_
    repeat (first
      | ((with_reducible refine wpQuietGd ?_); (with_reducible refine wpQuiet_skip ?_ ?_); (· rfl); simp only [Act.put, List.setIfInBounds_toArray, List.set_cons_zero, List.set_cons_succ])
      | quiet_step (fail))
    refine wpQuiet_nil ?_
    intro w2 hb2
    have HBx := Lib.hid (HB.out.trans (hb2.mono HB.out.size))
    have HAx := Lib.hid (HA.out.below hb2)
    clear hb2 HB HA hg1 hg2 hcm hc1 hm0 hm1 hm2 hmn w1
    have HB := HBx
    have HA := HAx
    clear HBx HAx
    generalize hst : St.cut m = s at *
    clear hst
    generalize hw2 : w2 = w1 at *
    clear hw2 w2
    have HDN1 := Lib.hid (HA.out.cells.2.2.1)
    cases hdn : d.down with
    | true =>
      have hc := HDN1.out
      rw [hdn] at hc
      have HFIN : Hid (∀ w', Below w.heap.size w w' → DoP base db vs d i f s w (.returned (.int .i64 18)) w') := fun w' hb => by
        refine ⟨by unfold doE; rw [if_pos hdn], vs, ?_, Turns.of_below hb, fun k hk => .inl hk⟩
        unfold doD
        rw [if_pos hdn]
        exact H.out.below hb
      clear hdn
      go_wp2_with fail
      go_ret
      exact HFIN.out _ HB.out
    | false =>
      have HDN := Lib.hid hdn
      have hc := HDN1.out
      rw [hdn] at hc
      clear hdn
      go_upto_region 9 with fail
      have hcn := (HA.out.file i HV.out).2.2.2
      rw [HND.out] at hcn
      have hcr := HA.out.cells.1
      have hg1 := cell_grown hcn
      have hg2 := cell_grown hcr
      have HAFT : Hid (∀ y : Grown w1, Calls Tryz.prog 94 #[.pointer (some ⟨db, i * 4, none⟩), SV] y.v fun e w' => e = .returned (.int .i64 (z : Int)) ∧ Below y.v.heap.size y.v w') := fun y => by
        have := after_any y.v (HA.out.below y.b) i HI.out SV s (HS.out.touch (Turns.of_below (S := fun _ => False) (HB.out.trans (y.b.mono HB.out.size))) (fun _ _ _ _ h => h)) (by rw [HFE.out]; have := HZL.out; rw [HZE.out] at this; omega)
        rw [HFE.out, ← HZE.out] at this
        exact this
      have HUSE : Hid (∀ y : Grown w1, Calls Tryz.prog 93 #[.pointer (some ⟨db, 0, none⟩)] y.v fun e w' => e = .returned (.int .i64 (U : Int)) ∧ Below y.v.heap.size y.v w') := fun y => by
        have := used_grow y.v (HA.out.below y.b)
        rwa [← HUE.out] at this
      obtain ⟨hmx1, hmx2⟩ := HMX1.out
      have hsub : (U : Int) - (f.need : Int) = ((U - f.need : Nat) : Int) := by omega
      have hws : IntKind.i64.wrap ((U : Int) - (f.need : Int)) = ((U - f.need : Nat) : Int) := by rw [hsub]; exact IntWalk.i64_in _ (by omega)
      have hws2 : IntKind.i64.wrap ((U - f.need : Nat) : Int) = ((U - f.need : Nat) : Int) := IntWalk.i64_in _ (by omega)
      have hwa : IntKind.i64.wrap (((U - f.need : Nat) : Int) + (n1 : Int)) = ((U - f.need : Nat) : Int) + (n1 : Int) := IntWalk.i64_in _ (by have := HN1L.out; omega)
      refine wp_region_grow (by kernel_rfl) (by kernel_rfl) ?_
      repeat (first
        | ((with_reducible refine wpQuietGd ?_); (with_reducible refine wpQuiet_skip ?_ ?_); (· rfl); simp only [Act.put, List.setIfInBounds_toArray, List.set_cons_zero, List.set_cons_succ])
        | quiet_step ((first | (go_at_call 94; exact Calls.grow_of (HAFT.out _)) | (go_at_call 93; exact Calls.grow_of (HUSE.out _)))))
      refine wpQuiet_nil ?_
      intro w2 hb2
      have HA2 := Lib.hid (HA.out.below hb2)
      have HB2 := Lib.hid (HB.out.trans (hb2.mono HB.out.size))
      clear hb2 hg1 hg2 hcn hcr hc HAFT HUSE hws hws2 hwa hsub hmx1 hmx2
      by_cases hbig : (d.room : Int) < ((U - f.need : Nat) : Int) + (n1 : Int)
      · have e1 : decide ((d.room : Int) < ((U - f.need : Nat) : Int) + (n1 : Int)) = true := decide_eq_true hbig
        have e2 : decide (d.room < U - f.need + n1) = true := decide_eq_true (by omega)
        have HFIN : Hid (∀ w', Below w.heap.size w w' → DoP base db vs d i f s w (.returned (.int .i64 17)) w') := fun w' hb => by
          have hgt : d.room < usedL d.fs - f.need + max f.need (s.size f.now.length) := by
            have := HN1.out; have := HUE.out; have := HZE.out; have := HN1M.out; omega
          refine ⟨by unfold doE; rw [HDN.out, if_neg (by decide), if_pos hgt], vs, ?_, Turns.of_below hb, fun k hk => .inl hk⟩
          unfold doD
          rw [HDN.out, if_neg (by decide), if_pos hgt]
          exact H.out.below hb
        go_wp2_with fail
        go_ret
        exact HFIN.out _ HB2.out
      · have e1 : decide ((d.room : Int) < ((U - f.need : Nat) : Int) + (n1 : Int)) = false := decide_eq_false hbig
        have e2 : decide (d.room < U - f.need + n1) = false := decide_eq_false (by omega)
        have HLE : Hid (¬ d.room < usedL d.fs - f.need + max f.need (s.size f.now.length)) := by
          have := HN1.out; have := HUE.out; have := HZE.out; have := HN1M.out; show ¬ _; omega
        have HTK := Lib.hid (take_any w2 HA2.out (Nat.le_trans HBASE.out HB2.out.size) i HI.out f HFE.out SV s (HS.out.touch (Turns.of_below (S := fun _ => False) HB2.out) (fun _ _ _ _ h => h)) HOKS.out (units_fit HN1M.out.symm HLE.out HROOM.out HUS.out) HFEW.out (by have := HLE.out; show usedL d.fs - f.need + max f.need (s.size f.now.length) ≤ d.room; omega))
        have hbig2 : ((U - f.need : Nat) : Int) + (n1 : Int) ≤ (d.room : Int) := by omega
        go_wp2_with fail
        clear hbig hbig2
        refine (HTK.out).mono ?_
        rintro e w3 ⟨rfl, vs3, hd3, ht3, hn3⟩
        have HD3 := Lib.hid hd3
        have HT3 : Hid (Turns (DOwn db vs) w w3) := (Turns.of_below HB2.out).trans ht3 (fun _ _ h => h)
        have HN3 : Hid (∀ k, DOwn db vs3 k → DOwn db vs k ∨ w.heap.size ≤ k) := fun k hk => (hn3 k hk).imp id (fun h => Nat.le_trans HB2.out.size h)
        have HBN := Lib.hid (burn_any w3 hd3)
        clear hd3 ht3 hn3 HTK
        go_wp2_with fail
        refine (HBN.out).mono ?_
        rintro e w4 ⟨rfl, hd4, ht4⟩
        have HFIN : Hid (∀ v, v = doE d i f s → DoP base db vs d i f s w (.returned (.int .i64 v)) w4) := fun v hv => by
          refine ⟨by rw [hv], ?_⟩
          have := LeftD.trans HN3.out HT3.out (LeftD.row HD3.out hd4 ht4)
          unfold doD
          rw [HDN.out, if_neg (by decide), if_neg HLE.out]
          exact this
        have HDE : Hid (doE d i f s = if (setF d i (f.take s)).burn.down = true then 18 else 0) := by show _ = _; unfold doE; rw [HDN.out, if_neg (by decide), if_neg HLE.out]
        clear hd4 ht4
        cases hbd : (setF d i (f.take s)).burn.down with
        | true =>
          have HV18 := Lib.hid (HFIN.out 18 (by rw [HDE.out, hbd]; rfl))
          clear hbd
          go_wp2_with fail
          go_ret
          exact HV18.out
        | false =>
          have HV0 := Lib.hid (HFIN.out 0 (by rw [HDE.out, hbd]; rfl))
          clear hbd
          go_wp2_with fail
          go_ret
          exact HV0.out
end Go.Proofs.YtnejjfglkindjaaGreatDoor.Dk

namespace Go.Proofs.YtnejjfglkindjaaGreatDoor.Dk
open Go.RowKit Go.Mir

theorem LeftD.from {w w1 w2 : World} {base db : Nat} {vs : List FV} {d2 : DD} (hb : Below w.heap.size w w1) (h : LeftD base db vs d2 w1 w2) : LeftD base db vs d2 w w2 :=
  LeftD.trans (fun _k hk => .inl hk) (Turns.of_below hb) h
theorem wpList_build {P : Program} {w : World} {ops : Array Oper} {rest : List Oper} {o : Oper} {a : Act} {Q : Exit → Act → World → Prop} (hgd : o.guard = none) (t : TypeId) (parts : Array (Nat × Operand)) (ho : o.op = .build t parts)
    (vals : List (Nat × Value)) (hv : (parts.toList.map fun p => (p.1, a.eval p.2)) = vals) (cells : Array Value) (h : P.built t vals = some cells) (k : wpList P ops Q rest (a.put o.dst (.agg cells)) w) : wpList P ops Q (o :: rest) a w := by
  refine wpList_plain hgd fun K hK => ?_
  unfold Oper.wp execOp
  have hb : P.built t (parts.map fun p => (p.1, a.eval p.2)).toList = some cells := by rw [Array.toList_map, hv]; exact h
  simp only [ho, Sem.run_bind, Sem.run_pure, Result.andThen_ok, run_build w t _ cells hb]
  exact hK _ _ k
theorem build_put (p : Option Addr) (n c : Nat) : Tryz.prog.built 109 [(0, .slice p n c)] = some #[.slice p n c] := by kernel_rfl
theorem build_cut (n : Int) : Tryz.prog.built 169 [(0, .int .i64 n)] = some #[.int .i64 n] := by kernel_rfl
set_option maxRecDepth 100000 in
theorem append_in {base db : Nat} {vs : List FV} {d : DD} (w : World) (h : DAt w base db vs d) (hbase : base ≤ w.heap.size) (i : Nat) (hi : i < d.fs.length) (f : FD) (hf : d.fs[i] = f) (p : Option Addr) (n c : Nat) (b : List UInt8) (hb : Bs w p n c b) (hn : n ≤ 140737488355328) (hfew : f.steps.length + 1 ≤ 4398046511104) :
    Calls Tryz.prog 24 #[.pointer (some ⟨db, 0, none⟩), .int .i64 (i : Int), .slice p n c] w (DoP base db vs d i f (.put b) w) := by
  have HBS := Lib.hid hb
  have hle := hb.le
  have hmax := hb.max
  have HNL : Hid (b.length = n) := hb.length
  have H := Lib.hid h
  have HBASE := Lib.hid hbase
  have HI := Lib.hid hi
  have HFE := Lib.hid hf
  clear hb h hf
  go_enter Tryz.func24, Tryz.ntmps24
  go_wp2_with (refine wpList_append_nx rfl _ _ 22 rfl (base := w.heap.size) Tryz.underlying22 info8 rfl (by omega) rfl (World.ownsRow_nil _ _ _ _) rfl HBS.out (bytesV_one _) ⟨by omega, by omega⟩ (Nat.le_refl _) ?_)
  intro p9 c9 w9 ho9 hg9 _ _
  have hb9 : Below w.heap.size w w9 := (Below.refl _ _).grown hg9 (Nat.le_refl _) (fun k hk => by simp [Value.ownBlock] at hk)
  have HB9 := Lib.hid hb9
  have HR9 : Hid (Rd w9 base (.slice p9 n c9) b) := by
    have := ho9
    rw [← HNL.out] at this ⊢
    exact (Rd.of_own this).base HBASE.out
  have HDO := Lib.hid (do_in w9 (H.out.below hb9) (Nat.le_trans HBASE.out hb9.size) i HI.out f HFE.out (.iface 109 (.agg #[.slice p9 n c9])) (.put b) ⟨_, rfl, HR9.out⟩ trivial (by show b.length ≤ _; rw [HNL.out]; exact hn) hfew)
  clear ho9 hg9 hb9
  go_wp2_with ((with_reducible refine wpAt 11 ?_); refine wpList_build rfl 109 _ rfl [(0, .slice p9 n c9)] rfl _ (build_put _ _ _) ?_)
  refine (HDO.out).mono ?_
  rintro e w2 ⟨rfl, hl⟩
  have HL := Lib.hid (LeftD.from HB9.out hl)
  clear hl
  go_wp2_with fail
  go_ret
  exact ⟨rfl, HL.out⟩
set_option maxRecDepth 100000 in
theorem cut_in {base db : Nat} {vs : List FV} {d : DD} (w : World) (h : DAt w base db vs d) (hbase : base ≤ w.heap.size) (i : Nat) (hi : i < d.fs.length) (f : FD) (hf : d.fs[i] = f) (m : Nat) (hm : m ≤ f.now.length) (hfew : f.steps.length + 1 ≤ 4398046511104) :
    Calls Tryz.prog 87 #[.pointer (some ⟨db, 0, none⟩), .int .i64 (i : Int), .int .i64 (m : Int)] w (DoP base db vs d i f (.cut m) w) := by
  have HDO := Lib.hid (do_in w h hbase i hi f hf (.iface 169 (.agg #[.int .i64 (m : Int)])) (.cut m) rfl hm (by show 1 ≤ _; omega) hfew)
  clear h hf
  go_enter Tryz.func87, Tryz.ntmps87
  go_wp2_with ((with_reducible refine wpAt 10 ?_); refine wpList_build rfl 169 _ rfl [(0, .int .i64 (m : Int))] rfl _ (build_cut _) ?_)
  refine (HDO.out).mono ?_
  rintro e w2 ⟨rfl, hl⟩
  have HL := Lib.hid hl
  clear hl
  go_wp2_with fail
  go_ret
  exact ⟨rfl, HL.out⟩
/-- a sync -/
def syncD (d : DD) (i : Nat) (f : FD) : DD := if d.down = true then d else if d.burn.down = true then d.burn else setF d.burn i (f.settle (unitsAll f.steps))
def syncE (d : DD) : Int := if d.down = true then 18 else if d.burn.down = true then 18 else 0
theorem sync_down {d : DD} (i : Nat) (f : FD) (h : d.down = true) : syncD d i f = d ∧ syncE d = 18 := by unfold syncD syncE; rw [if_pos h, if_pos h]; exact ⟨rfl, rfl⟩
theorem sync_burnt {d : DD} (i : Nat) (f : FD) (h : d.down = false) (hb : d.burn.down = true) : syncD d i f = d.burn ∧ syncE d = 18 := by
  unfold syncD syncE
  simp [h, hb]
theorem sync_ok {d : DD} (i : Nat) (f : FD) (h : d.down = false) (hb : d.burn.down = false) : syncD d i f = setF d.burn i (f.settle (unitsAll f.steps)) ∧ syncE d = 0 := by
  unfold syncD syncE
  simp [h, hb]
theorem burn_fs (d : DD) : d.burn.fs = d.fs := by unfold DD.burn; split <;> rfl
set_option maxRecDepth 100000 in
set_option maxHeartbeats 800000 in
theorem sync_in {base db : Nat} {vs : List FV} {d : DD} (w : World) (h : DAt w base db vs d) (hbase : base ≤ w.heap.size) (i : Nat) (hi : i < d.fs.length) (f : FD) (hf : d.fs[i] = f) :
    Calls Tryz.prog 79 #[.pointer (some ⟨db, 0, none⟩), .int .i64 (i : Int)] w fun e w' => e = .returned (.int .i64 (syncE d)) ∧ LeftD base db vs (syncD d i f) w w' := by
  have H := Lib.hid h
  have hi3 : i < 3 := by have := h.m3; omega
  have hc := h.cells.2.2.1
  have HI := Lib.hid hi
  have HFE := Lib.hid hf
  have HBASE := Lib.hid hbase
  clear h hf
  cases hdn : d.down with
  | true =>
    have HFIN : Hid (LeftD base db vs (syncD d i f) w w ∧ syncE d = 18) := by
      obtain ⟨e1, e2⟩ := sync_down i f hdn
      show _ ∧ _
      rw [e1]
      exact ⟨⟨vs, H.out, Turns.refl _ _, fun k hk => .inl hk⟩, e2⟩
    rw [hdn] at hc
    clear hdn
    go_enter Tryz.func79, Tryz.ntmps79
    go_wp2_with fail
    refine (at_in w H.out i hi3).mono ?_
    rintro e w' ⟨rfl, rfl⟩
    go_wp2_with fail
    refine (none_any w H.out).mono ?_
    rintro e w' ⟨rfl, rfl⟩
    go_wp2_with fail
    go_ret
    exact ⟨by rw [HFIN.out.2]; rfl, HFIN.out.1⟩
  | false =>
    have HDN := Lib.hid hdn
    rw [hdn] at hc
    clear hdn
    go_enter Tryz.func79, Tryz.ntmps79
    go_wp2_with fail
    refine (at_in w H.out i hi3).mono ?_
    rintro e w' ⟨rfl, rfl⟩
    go_wp2_with fail
    refine (none_any w H.out).mono ?_
    rintro e w' ⟨rfl, rfl⟩
    go_wp2_with fail
    refine (burn_any w H.out).mono ?_
    rintro e w1 ⟨rfl, hd1, ht1⟩
    have HD1 := Lib.hid hd1
    have HT1 := Lib.hid ht1
    clear hd1 ht1 hc
    cases hbd : d.burn.down with
    | true =>
      have HFIN : Hid (LeftD base db vs (syncD d i f) w w1 ∧ syncE d = 18) := by
        obtain ⟨e1, e2⟩ := sync_burnt i f HDN.out hbd
        show _ ∧ _
        rw [e1]
        exact ⟨LeftD.row H.out HD1.out HT1.out, e2⟩
      clear hbd
      go_wp2_with fail
      go_ret
      exact ⟨by rw [HFIN.out.2]; rfl, HFIN.out.1⟩
    | false =>
      have HBD := Lib.hid hbd
      have HI1 : Hid (i < d.burn.fs.length) := by show _ < _; rw [burn_fs]; exact HI.out
      have HF1 : Hid (d.burn.fs[i]'HI1.out = f) := by
        show _ = _
        rw [← HFE.out]
        congr 1
        exact burn_fs d
      have HU := Lib.hid (fileUnits_any w1 HD1.out i HI1.out)
      rw [HF1.out] at HU
      have HUB : Hid (unitsAll f.steps ≤ 4611686018427387904) := by
        show _ ≤ _
        have hv : i < vs.length := by have := H.out.n3; omega
        have h1 := (HD1.out.each i _ _ (List.getElem?_eq_getElem hv) (List.getElem?_eq_getElem HI1.out)).ok.un
        have h2 := HD1.out.few _ (List.getElem_mem HI1.out)
        rw [HF1.out] at h1 h2
        omega
      clear hbd
      go_wp2_with fail
      refine (HU.out).mono ?_
      rintro e w2 ⟨rfl, hb2⟩
      have HB2 := Lib.hid hb2
      have HST := Lib.hid (settle_any w2 (HD1.out.below hb2) (Nat.le_trans HBASE.out (Nat.le_trans HT1.out.size hb2.size)) i HI1.out f HF1.out (unitsAll f.steps) HUB.out)
      clear hb2 HU
      go_wp2_with fail
      refine (HST.out).mono ?_
      rintro e w3 ⟨rfl, ⟨vs3, hd3, hn3⟩, ht3⟩
      have HFIN : Hid (LeftD base db vs (syncD d i f) w w3 ∧ syncE d = 0) := by
        obtain ⟨e1, e2⟩ := sync_ok i f HDN.out HBD.out
        show _ ∧ _
        rw [e1]
        refine ⟨⟨vs3, hd3, ?_, fun k hk => ?_⟩, e2⟩
        · exact ((HT1.out.trans (Turns.of_below (S := fun k => k = db) HB2.out) (fun _ _ h => h)).trans ht3 (fun _ _ h => h)).imp (fun k _ hk => .inl hk)
        · rcases hk with hk | ⟨v, hv, hk⟩
          · exact .inl (.inl hk)
          · exact .inl (.inr (hn3 v hv k hk))
      clear hd3 ht3 hn3
      go_wp2_with fail
      go_ret
      exact ⟨by rw [HFIN.out.2]; rfl, HFIN.out.1⟩
/-- what a file holds -/
theorem read_in {base db : Nat} {vs : List FV} {d : DD} (w : World) (h : DAt w base db vs d) (i : Nat) (hi : i < d.fs.length) :
    Calls Tryz.prog 54 #[.pointer (some ⟨db, 0, none⟩), .int .i64 (i : Int)] w (RdP w.heap.size d.fs[i].now w) := by
  have hv : i < vs.length := by have := h.n3; have := h.m3; omega
  have hi3 : i < 3 := by have := h.m3; omega
  have H := Lib.hid h
  have hc := (h.file i hv).2.1
  have hF := h.each i _ _ (List.getElem?_eq_getElem hv) (List.getElem?_eq_getElem hi)
  have hle := usedL_mem hi
  have hused := h.used
  have hroom1 := h.room1
  have hnl : d.fs[i].now.length ≤ 65536 := by have := hF.ok.le; omega
  obtain ⟨pn, cn, hnv, hbn⟩ := hF.now.bs
  rw [hnv] at hc
  generalize d.fs[i].now = l at *
  have HBN := Lib.hid hbn
  have hl1 := hbn.le
  have hl2 := hbn.max
  clear hbn hF hnv h hle hused
  go_enter Tryz.func54, Tryz.ntmps54
  go_wp2_with fail
  refine (at_in w H.out i hi3).mono ?_
  rintro e w' ⟨rfl, rfl⟩
  go_wp2_with (refine wpList_append_nx rfl _ _ 22 rfl (base := w.heap.size) Tryz.underlying22 info8 rfl (by omega) rfl (World.ownsRow_nil _ _ _ _) rfl HBN.out (bytesV_one _) ⟨by omega, by omega⟩ (Nat.le_refl _) ?_)
  intro p9 c9 w9 ho9 hg9 _ _
  have HB9 : Hid (Below w.heap.size w w9) := (Below.refl _ _).grown hg9 (Nat.le_refl _) (fun k hk => by simp [Value.ownBlock] at hk)
  have HR9 : Hid (Rd w9 w.heap.size (.slice p9 l.length c9) l) := Rd.of_own ho9
  clear ho9 hg9
  go_wp2_with fail
  go_ret
  exact ⟨p9, c9, rfl, HR9.out, HB9.out⟩
/-- a crash that keeps no unit -/
def crash0 (d : DD) : DD := ⟨d.fs.map (fun f => f.settle 0), d.room, 0, false⟩
def crashK (d : DD) (k : Nat) : DD := ⟨(d.fs.take k).map (fun f => f.settle 0) ++ d.fs.drop k, d.room, d.fuse, d.down⟩
theorem crashK_zero (d : DD) : crashK d 0 = d := by simp [crashK]
theorem crashK_step {d : DD} (h : d.fs.length = 3) (k : Nat) (hk : k < 3) (hk2 : k < (crashK d k).fs.length) : setF (crashK d k) k (((crashK d k).fs[k]'hk2).settle 0) = crashK d (k + 1) := by
  obtain ⟨fs, room, fuse, down⟩ := d
  obtain ⟨a, b, c, rfl⟩ := list3 h
  match k, hk with
  | 0, _ => rfl
  | 1, _ => rfl
  | 2, _ => rfl
set_option maxRecDepth 100000 in
set_option maxHeartbeats 800000 in
theorem crash_none {base db : Nat} {vs : List FV} {d : DD} (w : World) (h : DAt w base db vs d) (hbase : base ≤ w.heap.size) (c : Nat) (p : Option Addr) :
    Calls Tryz.prog 20 #[.pointer (some ⟨db, 0, none⟩), .slice p 0 c] w fun e w' => e = .returned (.tuple #[]) ∧ LeftD base db vs (crash0 d) w w' := by
  have H := Lib.hid h
  have HBASE := Lib.hid hbase
  have HM3 := Lib.hid h.m3
  clear h
  go_enter Tryz.func20, Tryz.ntmps20
  go_wp2_with fail
  refine (none_any w H.out).mono ?_
  rintro e w' ⟨rfl, rfl⟩
  go_wp2_with fail
  go_loopw [10] (fun j wr => ∃ k : Nat, k ≤ 3 ∧ j = .int .i64 k ∧ LeftD base db vs (crashK d k) w wr) (fun j _ => 3 - (intOf j).toNat)
  case atStart => exact ⟨0, by omega, rfl, vs, by rw [crashK_zero]; exact H.out, Turns.refl _ _, fun k hk => .inl hk⟩
  case round =>
    obtain ⟨k, hk, rfl, vs1, hd1, ht1, hn1⟩ := hrel
    have HD1 := Lib.hid hd1
    have HT1 := Lib.hid ht1
    have HN1 := Lib.hid hn1
    clear hd1 ht1 hn1
    by_cases hlt : k < 3
    · have hd : decide ((k : Int) < 3) = true := decide_eq_true (by omega)
      have hd2 : decide (k < 3) = true := decide_eq_true (by omega)
      have hk1 : (k : Int) < 3 := by omega
      have hk0 : (0 : Int) ≤ (k : Int) := by omega
      have e0 : decide ((k : Int) < 0) = false := decide_eq_false (by omega)
      have HKL : Hid (k < (crashK d k).fs.length) := by show _ < _; rw [HD1.out.m3]; exact hlt
      have HST := Lib.hid (settle_any wr HD1.out (Nat.le_trans HBASE.out HT1.out.size) k HKL.out _ rfl 0 (by omega))
      have e1 : decide ((k : Int) < 0) = false := decide_eq_false (by omega)
      go_wp2_with fail
      refine (HST.out).mono ?_
      rintro e w3 ⟨rfl, ⟨vs3, hd3, hn3⟩, ht3⟩
      have HL3 : Hid (LeftD base db vs (crashK d (k + 1)) w w3) := by
        rw [crashK_step HM3.out k hlt HKL.out] at hd3
        refine LeftD.trans HN1.out HT1.out ⟨vs3, hd3, ht3.imp (fun k _ hk => .inl hk), fun k hk => ?_⟩
        rcases hk with hk | ⟨v, hv, hk⟩
        · exact .inl (.inl hk)
        · exact .inl (.inr (hn3 v hv k hk))
      clear hd3 hn3 ht3 HST
      go_wp2_with fail
      go_roundw
      case rel => exact ⟨k + 1, by omega, by go_num, HL3.out⟩
      case measure => simp [intOf]; omega
    · have hd : decide ((k : Int) < 3) = false := decide_eq_false (by omega)
      have hd2 : decide (k < 3) = false := decide_eq_false (by omega)
      obtain rfl : k = 3 := by omega
      obtain ⟨hc0, hc1, hc2, hfz⟩ := HD1.out.cells
      have HL3 : Hid (LeftD base db vs (crash0 d) w ((wr.setCell ⟨db, 13, none⟩ (.int .i64 0)).setCell ⟨db, 14, none⟩ (.bool false))) := by
        have ht2 : Turns (fun k => k = db) wr ((wr.setCell ⟨db, 13, none⟩ (.int .i64 0)).setCell ⟨db, 14, none⟩ (.bool false)) := ((Turns.refl (fun k => k = db) wr).setCell (p := ⟨db, 13, none⟩) (fun _ => rfl) _).setCell (p := ⟨db, 14, none⟩) (fun _ => rfl) _
        obtain ⟨s1, _, _⟩ := dA_set HD1.out.n3 (crashK d 3).room (crashK d 3).fuse (crashK d 3).down
        obtain ⟨_, s2, _⟩ := dA_set HD1.out.n3 (crashK d 3).room 0 (crashK d 3).down
        have r2 := cell_put (off := 13) (.int .i64 0) HD1.out.row
        have s1' := s1 0
        rw [show ((0 : Nat) : Int) = (0 : Int) from rfl] at s1'
        rw [s1'] at r2
        have r3 := cell_put (off := 14) (.bool false) r2
        rw [s2 false] at r3
        have hd4 := HD1.out.reRow ht2 r3 (by omega)
        have he : (⟨(crashK d 3).fs, (crashK d 3).room, 0, false⟩ : DD) = crash0 d := by
          have := HM3.out
          obtain ⟨fs, room, fuse, down⟩ := d
          obtain ⟨a, b, c, rfl⟩ := list3 this
          rfl
        rw [he] at hd4
        exact LeftD.trans HN1.out HT1.out (LeftD.row HD1.out hd4 ht2)
      go_wp2_with fail
      go_end0
      exact ⟨rfl, HL3.out⟩
end Go.Proofs.YtnejjfglkindjaaGreatDoor.Dk

namespace Go.Proofs.YtnejjfglkindjaaGreatDoor.Dk
open Go.RowKit Go.Mir

set_option maxRecDepth 100000 in
set_option maxHeartbeats 1600000 in
theorem do_bad_lo {base db : Nat} {vs : List FV} {d : DD} (w : World) (h : DAt w base db vs d) (i : Nat) (hi : i < d.fs.length) (f : FD) (hf : d.fs[i] = f) (m : Int) (hm : m < 0) :
    Calls Tryz.prog 47 #[.pointer (some ⟨db, 0, none⟩), .int .i64 (i : Int), .iface 169 (.agg #[.int .i64 m])] w fun e w' => e = .returned (.int .i64 1) ∧ Below w.heap.size w w' := by
  have hv : i < vs.length := by have := h.n3; have := h.m3; omega
  have hi3 : i < 3 := by have := h.m3; omega
  have hF := h.each i _ _ (List.getElem?_eq_getElem hv) (List.getElem?_eq_getElem hi)
  rw [hf] at hF
  have hta := ta_cc (.agg #[.int .i64 m])
  have H := Lib.hid h
  have HFF := Lib.hid hF
  have HV := Lib.hid hv
  clear hF hf h
  go_enter Tryz.func47, Tryz.ntmps47
  go_wp2_with fail
  refine (at_in w H.out i hi3).mono ?_
  rintro e w' ⟨rfl, rfl⟩
  have hb := Below.allocs w (.cells #[.int .i64 m] 169)
  have HB := Lib.hid hb
  have HA := Lib.hid (H.out.below hb)
  have hcm : (w.alloc (.cells #[.int .i64 m] 169)).cell? ⟨w.heap.size, 0, none⟩ = some (.int .i64 m) := by rw [cell_of_row _ _ _ _ _ _ (heap_alloc_last _ _)]; rfl
  clear hb
  go_upto_region 3 with fail
  generalize w.alloc (.cells #[.int .i64 m] 169) = w1 at *
  go_wp2_with fail
  refine (none_any _ HA.out).mono ?_
  rintro e w' ⟨rfl, rfl⟩
  clear hta
  have hg2 := cell_grown hcm
  have hm0 : decide (m < 0) = true := decide_eq_true hm
  go_upto_region 5 with fail
  refine wp_region_grow (by kernel_rfl) (by kernel_rfl) ?_
  repeat (first
    | ((with_reducible refine wpQuietGd ?_); (with_reducible refine wpQuiet_skip ?_ ?_); (· rfl); simp only [Act.put, List.setIfInBounds_toArray, List.set_cons_zero, List.set_cons_succ])
    | quiet_step (fail))
  refine wpQuiet_nil ?_
  intro w2 hb2
  have HB2 := Lib.hid (HB.out.trans (hb2.mono HB.out.size))
  clear hb2
  go_wp2_with fail
  go_ret
  exact ⟨rfl, HB2.out⟩
set_option maxRecDepth 100000 in
set_option maxHeartbeats 1600000 in
theorem do_bad_hi {base db : Nat} {vs : List FV} {d : DD} (w : World) (h : DAt w base db vs d) (i : Nat) (hi : i < d.fs.length) (f : FD) (hf : d.fs[i] = f) (m : Int) (hm : (f.now.length : Int) < m) :
    Calls Tryz.prog 47 #[.pointer (some ⟨db, 0, none⟩), .int .i64 (i : Int), .iface 169 (.agg #[.int .i64 m])] w fun e w' => e = .returned (.int .i64 1) ∧ Below w.heap.size w w' := by
  have hv : i < vs.length := by have := h.n3; have := h.m3; omega
  have hi3 : i < 3 := by have := h.m3; omega
  have hF := h.each i _ _ (List.getElem?_eq_getElem hv) (List.getElem?_eq_getElem hi)
  rw [hf] at hF
  have hta := ta_cc (.agg #[.int .i64 m])
  have H := Lib.hid h
  have HFF := Lib.hid hF
  have HV := Lib.hid hv
  clear hF hf h
  go_enter Tryz.func47, Tryz.ntmps47
  go_wp2_with fail
  refine (at_in w H.out i hi3).mono ?_
  rintro e w' ⟨rfl, rfl⟩
  have hb := Below.allocs w (.cells #[.int .i64 m] 169)
  have HB := Lib.hid hb
  have HA := Lib.hid (H.out.below hb)
  have hcm : (w.alloc (.cells #[.int .i64 m] 169)).cell? ⟨w.heap.size, 0, none⟩ = some (.int .i64 m) := by rw [cell_of_row _ _ _ _ _ _ (heap_alloc_last _ _)]; rfl
  clear hb
  go_upto_region 3 with fail
  generalize w.alloc (.cells #[.int .i64 m] 169) = w1 at *
  go_wp2_with fail
  refine (none_any _ HA.out).mono ?_
  rintro e w' ⟨rfl, rfl⟩
  clear hta
  obtain ⟨pn, cn, hnv, hbn⟩ := HFF.out.now.bs
  have hc1 := (HA.out.file i HV.out).2.1
  rw [hnv] at hc1
  have hg1 := cell_grown hc1
  have hg2 := cell_grown hcm
  have hm0 : decide (m < 0) = false := decide_eq_false (by omega)
  have hm1 : decide ((f.now.length : Int) < m) = true := decide_eq_true hm
  clear hbn hnv
  go_upto_region 5 with fail
  refine wp_region_grow (by kernel_rfl) (by kernel_rfl) ?_
  repeat (first
    | ((with_reducible refine wpQuietGd ?_); (with_reducible refine wpQuiet_skip ?_ ?_); (· rfl); simp only [Act.put, List.setIfInBounds_toArray, List.set_cons_zero, List.set_cons_succ])
    | quiet_step (fail))
  refine wpQuiet_nil ?_
  intro w2 hb2
  have HB2 := Lib.hid (HB.out.trans (hb2.mono HB.out.size))
  clear hb2
  go_wp2_with fail
  go_ret
  exact ⟨rfl, HB2.out⟩
/-- a cut asked at whatever place -/
theorem cut_bad {base db : Nat} {vs : List FV} {d : DD} (w : World) (n m : Int) (hdo : Calls Tryz.prog 47 #[.pointer (some ⟨db, 0, none⟩), .int .i64 n, .iface 169 (.agg #[.int .i64 m])] w fun e w' => e = .returned (.int .i64 1) ∧ Below w.heap.size w w') (_h : DAt w base db vs d) :
    Calls Tryz.prog 87 #[.pointer (some ⟨db, 0, none⟩), .int .i64 n, .int .i64 m] w fun e w' => e = .returned (.int .i64 1) ∧ Below w.heap.size w w' := by
  have HDO := Lib.hid hdo
  clear hdo
  go_enter Tryz.func87, Tryz.ntmps87
  go_wp2_with ((with_reducible refine wpAt 10 ?_); refine wpList_build rfl 169 _ rfl [(0, .int .i64 m)] rfl _ (build_cut _) ?_)
  refine (HDO.out).mono ?_
  rintro e w2 ⟨rfl, hl⟩
  have HL := Lib.hid hl
  clear hl
  go_wp2_with fail
  go_ret
  exact ⟨rfl, HL.out⟩
set_option maxRecDepth 100000 in
theorem append_out {base db : Nat} {vs : List FV} {d : DD} (w : World) (h : DAt w base db vs d) (i : Int) (hi : i < 0 ∨ 3 ≤ i) (p : Option Addr) (n c : Nat) (b : List UInt8) (hb : Bs w p n c b) (hn : n ≤ 140737488355328) :
    Calls Tryz.prog 24 #[.pointer (some ⟨db, 0, none⟩), .int .i64 i, .slice p n c] w fun e w' => e = .returned (.int .i64 1) ∧ Below w.heap.size w w' := by
  have HBS := Lib.hid hb
  have hle := hb.le
  have hmax := hb.max
  have H := Lib.hid h
  have HI := Lib.hid hi
  clear hb h hi
  go_enter Tryz.func24, Tryz.ntmps24
  go_wp2_with (refine wpList_append_nx rfl _ _ 22 rfl (base := w.heap.size) Tryz.underlying22 info8 rfl (by omega) rfl (World.ownsRow_nil _ _ _ _) rfl HBS.out (bytesV_one _) ⟨by omega, by omega⟩ (Nat.le_refl _) ?_)
  intro p9 c9 w9 ho9 hg9 _ _
  have hb9 : Below w.heap.size w w9 := (Below.refl _ _).grown hg9 (Nat.le_refl _) (fun k hk => by simp [Value.ownBlock] at hk)
  have HB9 := Lib.hid hb9
  have HDO := Lib.hid (do_out w9 (H.out.below hb9) i HI.out (.iface 109 (.agg #[.slice p9 (0 + n) c9])) (.inl ⟨_, rfl⟩))
  rw [Nat.zero_add] at HDO
  clear ho9 hg9 hb9
  go_wp2_with ((with_reducible refine wpAt 11 ?_); refine wpList_build rfl 109 _ rfl [(0, .slice p9 n c9)] rfl _ (build_put _ _ _) ?_)
  refine (HDO.out).mono ?_
  rintro e w2 ⟨rfl, hl⟩
  have HL := Lib.hid (HB9.out.trans (hl.mono HB9.out.size))
  clear hl
  go_wp2_with fail
  go_ret
  exact ⟨rfl, HL.out⟩
set_option maxRecDepth 100000 in
theorem sync_out {base db : Nat} {vs : List FV} {d : DD} (w : World) (h : DAt w base db vs d) (i : Int) (hi : i < 0 ∨ 3 ≤ i) :
    Calls Tryz.prog 79 #[.pointer (some ⟨db, 0, none⟩), .int .i64 i] w fun e w' => e = .returned (.int .i64 1) ∧ w = w' := by
  have H := Lib.hid h
  have HI := Lib.hid hi
  clear h hi
  go_enter Tryz.func79, Tryz.ntmps79
  go_wp2_with fail
  refine (at_out w H.out i HI.out).mono ?_
  rintro e w' ⟨rfl, rfl⟩
  go_wp2_with fail
  refine (none_any w H.out).mono ?_
  rintro e w' ⟨rfl, rfl⟩
  go_wp2_with fail
  go_ret
  exact ⟨rfl, rfl⟩
set_option maxRecDepth 100000 in
/-- what a file keeps -/
theorem kept_in {base db : Nat} {vs : List FV} {d : DD} (w : World) (h : DAt w base db vs d) (i : Nat) (hi : i < d.fs.length) :
    Calls Tryz.prog 56 #[.pointer (some ⟨db, 0, none⟩), .int .i64 (i : Int)] w (RdP w.heap.size d.fs[i].kept w) := by
  have hv : i < vs.length := by have := h.n3; have := h.m3; omega
  have hi3 : i < 3 := by have := h.m3; omega
  have H := Lib.hid h
  have hc := (h.file i hv).1
  have hF := h.each i _ _ (List.getElem?_eq_getElem hv) (List.getElem?_eq_getElem hi)
  have hle := usedL_mem hi
  have hused := h.used
  have hroom1 := h.room1
  have hnl : d.fs[i].kept.length ≤ 65536 := by
    have := hF.ok.all 0
    rw [someU_zero] at this
    omega
  obtain ⟨pn, cn, hnv, hbn⟩ := hF.kept.bs
  rw [hnv] at hc
  generalize d.fs[i].kept = l at *
  have HBN := Lib.hid hbn
  have hl1 := hbn.le
  have hl2 := hbn.max
  clear hbn hF hnv h hle hused
  go_enter Tryz.func56, Tryz.ntmps56
  go_wp2_with fail
  refine (at_in w H.out i hi3).mono ?_
  rintro e w' ⟨rfl, rfl⟩
  go_wp2_with (refine wpList_append_nx rfl _ _ 22 rfl (base := w.heap.size) Tryz.underlying22 info8 rfl (by omega) rfl (World.ownsRow_nil _ _ _ _) rfl HBN.out (bytesV_one _) ⟨by omega, by omega⟩ (Nat.le_refl _) ?_)
  intro p9 c9 w9 ho9 hg9 _ _
  have HB9 : Hid (Below w.heap.size w w9) := (Below.refl _ _).grown hg9 (Nat.le_refl _) (fun k hk => by simp [Value.ownBlock] at hk)
  have HR9 : Hid (Rd w9 w.heap.size (.slice p9 l.length c9) l) := Rd.of_own ho9
  clear ho9 hg9
  go_wp2_with fail
  go_ret
  exact ⟨p9, c9, rfl, HR9.out, HB9.out⟩
set_option maxRecDepth 100000 in
/-- how long a file is -/
theorem size_in {base db : Nat} {vs : List FV} {d : DD} (w : World) (h : DAt w base db vs d) (i : Nat) (hi : i < d.fs.length) :
    Calls Tryz.prog 58 #[.pointer (some ⟨db, 0, none⟩), .int .i64 (i : Int)] w fun e w' => e = .returned (.int .i64 (d.fs[i].now.length : Int)) ∧ Below w.heap.size w w' := by
  have HR := Lib.hid (read_in w h i hi)
  clear h
  go_enter Tryz.func58, Tryz.ntmps58
  go_wp2_with fail
  refine (HR.out).mono ?_
  rintro e w2 ⟨p, c, rfl, _, hb⟩
  have HB := Lib.hid hb
  clear hb HR
  go_wp2_with fail
  go_ret
  exact ⟨rfl, HB.out⟩
set_option maxRecDepth 100000 in
/-- how many units wait -/
theorem units_in {base db : Nat} {vs : List FV} {d : DD} (w : World) (h : DAt w base db vs d) (i : Nat) (hi : i < d.fs.length) :
    Calls Tryz.prog 90 #[.pointer (some ⟨db, 0, none⟩), .int .i64 (i : Int)] w fun e w' => e = .returned (.int .i64 (unitsAll d.fs[i].steps : Int)) ∧ Below w.heap.size w w' := by
  have hi3 : i < 3 := by have := h.m3; omega
  have H := Lib.hid h
  have HU := Lib.hid (fileUnits_any w h i hi)
  clear h
  go_enter Tryz.func90, Tryz.ntmps90
  go_wp2_with fail
  refine (at_in w H.out i hi3).mono ?_
  rintro e w' ⟨rfl, rfl⟩
  go_wp2_with fail
  refine (HU.out).mono ?_
  rintro e w2 ⟨rfl, hb⟩
  have HB := Lib.hid hb
  clear hb HU
  go_wp2_with fail
  go_ret
  exact ⟨rfl, HB.out⟩
end Go.Proofs.YtnejjfglkindjaaGreatDoor.Dk

namespace Go.Proofs.YtnejjfglkindjaaGreatDoor.Dk
open Go.RowKit Go.Mir Go.Mir.Parts

theorem infoDisk (n : Nat) (h : n = 15) : (Tryz.prog.info? 105).map (·.size) = some n := by subst h; kernel_rfl
/-- a disk that no call made -/
def zDisk : Array Value := #[.slice none 0 0, .slice none 0 0, .slice none 0 0, .int .i64 0, .slice none 0 0, .slice none 0 0, .slice none 0 0, .int .i64 0, .slice none 0 0, .slice none 0 0, .slice none 0 0, .int .i64 0, .int .i64 0, .int .i64 0, .bool false]
theorem dA_fit {w : World} {base db : Nat} {vs : List FV} {d : DD} (h : DAt w base db vs d) : (dA vs d.room d.fuse d.down).size = 15 ∧ (dA vs d.room d.fuse d.down).all (·.oneCell') = true := by
  have hl : ∀ v ∈ vs, v.kv.oneCell' = true ∧ v.nv.oneCell' = true ∧ v.sv.oneCell' = true := fun v hv => by
    obtain ⟨i, hi⟩ := List.mem_iff_getElem?.1 hv
    have hlt : i < d.fs.length := by rw [h.m3, ← h.n3]; exact (List.getElem?_eq_some_iff.1 hi).1
    have hF := h.each i v _ hi (List.getElem?_eq_getElem hlt)
    obtain ⟨vals, ho, _⟩ := hF.steps
    obtain ⟨_, _, e1, _⟩ := hF.kept.bs
    obtain ⟨_, _, e2, _⟩ := hF.now.bs
    obtain ⟨_, _, e3, _⟩ := own_sl ho
    rw [e1, e2, e3]
    exact ⟨rfl, rfl, rfl⟩
  obtain ⟨a, b, c, rfl⟩ := list3 h.n3
  obtain ⟨a1, a2, a3⟩ := hl a (by simp)
  obtain ⟨b1, b2, b3⟩ := hl b (by simp)
  obtain ⟨c1, c2, c3⟩ := hl c (by simp)
  refine ⟨rfl, ?_⟩
  show (([a, b, c].flatMap fvL ++ _ : List Value).toArray).all _ = true
  simp [fvL, a1, a2, a3, b1, b2, b3, c1, c2, c3]
  exact ⟨rfl, rfl, rfl, rfl, rfl, rfl⟩
theorem Mid.no8 {w wr : World} {base db : Nat} {vs : List FV} {d : DD} {i : Nat} {v : FV} (h : Mid w wr base db vs d i v) : ∀ k M fr, wr.heap[k]? = some (.cells M 5 fr) → ¬ k = db := fun k M fr hk e => by
  subst e
  rw [h.row] at hk
  injection hk with e1
  injection e1 with _ e2
  exact absurd e2 (by decide)
/-- a file's row put anew -/
theorem clone_end {w w' : World} {base nb : Nat} {vs : List FV} {d : DD} {i : Nat} {f : FD} {v' : FV} {vals : List Value} (h : DAt w base nb vs d) (hi : i < d.fs.length) (hv : i < vs.length) (hf : d.fs[i] = f) (hm : Mid w w' base nb vs d i v')
    (hk : Rd w' base v'.kv f.kept) (hn : Rd w' base v'.nv f.now) (ho : w'.ownsRow base 165 1 v'.sv f.steps.length vals) (hvals : ∀ (i : Nat) x s, vals[i]? = some x → f.steps[i]? = some s → StAt w base x s) (hnd : v'.nd = f.need)
    (hfr : ∀ k, v'.sv.ownBlock = some k → w.heap.size ≤ k) : DAt w' base nb (vs.set i v') d := by
  have hid : ∀ k M fr, w.heap[k]? = some (.cells M 5 fr) → ¬ k = nb := fun k M fr hk e => by
    subst e
    rw [h.row] at hk
    injection hk with e1
    injection e1 with _ e2
    exact absurd e2 (by decide)
  refine ⟨hm.row, h.low, by rw [List.length_set]; exact h.n3, h.m3, ?_, ?_, h.room1, h.fuse1, h.used, h.few⟩
  · intro j v g h1 h2
    rw [List.getElem?_set] at h1
    by_cases hij : i = j
    · subst hij
      rw [if_pos rfl, if_pos hv] at h1
      rw [List.getElem?_eq_getElem hi, hf] at h2
      cases h1; cases h2
      have hF := h.each i _ _ (List.getElem?_eq_getElem hv) (List.getElem?_eq_getElem hi)
      rw [hf] at hF
      exact ⟨hk, hn, ⟨vals, ho, fun j x s hx hs => (hvals j x s hx hs).touch hm.turn hid⟩, hnd, hF.ok⟩
    · rw [if_neg hij] at h1
      obtain ⟨vals', ho', _⟩ := (h.each j v g h1 h2).steps
      exact (h.each j v g h1 h2).touch hm.turn hid (fun k hk => own_ne_cells' ho' h.row (by decide) k hk)
  · intro j j' v v2 k h1 h2 h3 h4
    have key : ∀ (a : Nat) (va : FV), vs[a]? = some va → va.sv.ownBlock = some k → ¬ v'.sv.ownBlock = some k := fun a va hva hk hk2 => by
      have h5 := hfr k hk2
      have h6 := (h.ownLt k (.inr ⟨va, List.mem_of_getElem? hva, hk⟩)).2
      omega
    rw [List.getElem?_set] at h1 h2
    by_cases hij : i = j
    · subst hij
      rw [if_pos rfl, if_pos hv] at h1
      cases h1
      by_cases hij' : i = j'
      · exact hij'
      · rw [if_neg hij'] at h2
        exact absurd h3 (key j' v2 h2 h4)
    · rw [if_neg hij] at h1
      by_cases hij' : i = j'
      · subst hij'
        rw [if_pos rfl, if_pos hv] at h2
        cases h2
        exact absurd h4 (key j v h1 h3)
      · rw [if_neg hij'] at h2
        exact h.apart j j' v v2 k h1 h2 h3 h4
def CloneI (base nb B : Nat) (vs : List FV) (d : DD) (w : World) (k : Nat) (wr : World) : Prop :=
  ∃ vsr, DAt wr base nb vsr d ∧ Below B w wr ∧ ∀ (j : Nat) v, vsr[j]? = some v → (j < k → ∀ b, v.sv.ownBlock = some b → B ≤ b) ∧ (k ≤ j → vs[j]? = some v)
def CloneP (base : Nat) (d : DD) (w : World) (e : Ending) (w' : World) : Prop := ∃ nb vs', e = .returned (.pointer (some ⟨nb, 0, none⟩)) ∧ DAt w' base nb vs' d ∧ Below w.heap.size w w' ∧ ∀ k, DOwn nb vs' k → w.heap.size ≤ k
theorem CloneI.done {base nb : Nat} {vs : List FV} {d : DD} {w wr : World} (h : CloneI base nb w.heap.size vs d w 3 wr) (hnb : w.heap.size ≤ nb) : CloneP base d w (.returned (.pointer (some ⟨nb, 0, none⟩))) wr := by
  obtain ⟨vsr, hd, hb, hf⟩ := h
  refine ⟨nb, vsr, rfl, hd, hb, fun k hk => ?_⟩
  rcases hk with rfl | ⟨v, hv, hk⟩
  · exact hnb
  · obtain ⟨i, hi⟩ := List.mem_iff_getElem?.1 hv
    have hlt : i < 3 := by rw [← hd.n3]; exact (List.getElem?_eq_some_iff.1 hi).1
    exact (hf i v hi).1 hlt k hk
theorem CloneI.step {base nb B : Nat} {vs vsr : List FV} {d : DD} {w wr w' : World} {k : Nat} {v' : FV} (hd : DAt w' base nb (vsr.set k v') d) (hb : Below B w wr) (ht : Turns (fun k => k = nb) wr w') (hnb : B ≤ nb) (hB : B ≤ wr.heap.size)
    (hf : ∀ (j : Nat) v, vsr[j]? = some v → (j < k → ∀ b, v.sv.ownBlock = some b → B ≤ b) ∧ (k ≤ j → vs[j]? = some v)) (hk : k < vsr.length) (hfr : ∀ b, v'.sv.ownBlock = some b → wr.heap.size ≤ b) : CloneI base nb B vs d w (k + 1) w' := by
  refine ⟨_, hd, hb.trans (ht.below hB (fun i hi => by rw [hi]; exact hnb)), fun j v hj => ?_⟩
  rw [List.getElem?_set] at hj
  by_cases hkj : k = j
  · subst hkj
    rw [if_pos rfl, if_pos hk] at hj
    cases hj
    exact ⟨fun _ b hb => Nat.le_trans hB (hfr b hb), fun h => by omega⟩
  · rw [if_neg hkj] at hj
    exact ⟨fun h => (hf j v hj).1 (by omega), fun h => (hf j v hj).2 (by omega)⟩
end Go.Proofs.YtnejjfglkindjaaGreatDoor.Dk

namespace Go.Proofs.YtnejjfglkindjaaGreatDoor.Dk
open Go.RowKit Go.Mir Go.Mir.Parts

/-- bytes put at whatever file -/
def putD (d : DD) (i : Int) (b : List UInt8) : DD := if 0 ≤ i then (match d.fs[i.toNat]? with | some f => doD d i.toNat f (.put b) | none => d) else d
/-- a cut at whatever file, to whatever size -/
def cutD (d : DD) (i m : Int) : DD := if 0 ≤ i then (match d.fs[i.toNat]? with | some f => if 0 ≤ m ∧ m ≤ (f.now.length : Int) then doD d i.toNat f (.cut m.toNat) else d | none => d) else d
/-- a sync at whatever file -/
def synD (d : DD) (i : Int) : DD := if 0 ≤ i then (match d.fs[i.toNat]? with | some f => syncD d i.toNat f | none => d) else d
theorem LeftD.same {w w' : World} {base db : Nat} {vs : List FV} {d : DD} (h : DAt w base db vs d) (hb : Below w.heap.size w w') : LeftD base db vs d w w' := ⟨vs, h.below hb, Turns.of_below hb, fun _ hk => .inl hk⟩
/-- a file of a disk's by its number -/
theorem file_cases {w : World} {base db : Nat} {vs : List FV} {d : DD} (h : DAt w base db vs d) (i : Int) :
    (∃ k : Nat, ∃ hk : k < d.fs.length, i = (k : Int) ∧ 0 ≤ i ∧ d.fs[i.toNat]? = some (d.fs[k]'hk) ∧ i.toNat = k) ∨ ((i < 0 ∨ 3 ≤ i) ∧ (¬ 0 ≤ i ∨ (0 ≤ i ∧ d.fs[i.toNat]? = none))) := by
  have h3 := h.m3
  by_cases h0 : 0 ≤ i
  · by_cases h1 : i < 3
    · have hk : i.toNat < d.fs.length := by omega
      exact .inl ⟨i.toNat, hk, by omega, h0, List.getElem?_eq_getElem hk, rfl⟩
    · exact .inr ⟨.inr (by omega), .inr ⟨h0, List.getElem?_eq_none (by omega)⟩⟩
  · exact .inr ⟨.inl (by omega), .inl h0⟩
def Said (base db : Nat) (vs : List FV) (d' : DD) (w : World) (e : Ending) (w' : World) : Prop := (∃ x, e = .returned (.int .i64 x)) ∧ LeftD base db vs d' w w'
theorem append_all {base db : Nat} {vs : List FV} {d : DD} (w : World) (h : DAt w base db vs d) (hbase : base ≤ w.heap.size) (i : Int) (p : Option Addr) (n c : Nat) (b : List UInt8) (hb : Bs w p n c b) (hn : n ≤ 140737488355328) (hfew : ∀ f ∈ d.fs, f.steps.length + 1 ≤ 4398046511104) :
    Calls Tryz.prog 24 #[.pointer (some ⟨db, 0, none⟩), .int .i64 i, .slice p n c] w (Said base db vs (putD d i b) w) := by
  rcases file_cases h i with ⟨k, hk, rfl, h0, hf, hki⟩ | ⟨ho, hr⟩
  · have e1 : putD d (k : Int) b = doD d k d.fs[k] (.put b) := by unfold putD; rw [if_pos h0, hf, hki]
    rw [e1]
    exact (append_in w h hbase k hk _ rfl p n c b hb hn (hfew _ (List.getElem_mem hk))).mono fun e w' ⟨h1, h2⟩ => ⟨⟨_, h1⟩, h2⟩
  · have e1 : putD d i b = d := by
      unfold putD
      rcases hr with hr | ⟨h0, hr⟩
      · rw [if_neg hr]
      · rw [if_pos h0, hr]
    rw [e1]
    exact (append_out w h i ho p n c b hb hn).mono fun e w' ⟨h1, h2⟩ => ⟨⟨_, h1⟩, LeftD.same h h2⟩
theorem cut_all {base db : Nat} {vs : List FV} {d : DD} (w : World) (h : DAt w base db vs d) (hbase : base ≤ w.heap.size) (i m : Int) (hfew : ∀ f ∈ d.fs, f.steps.length + 1 ≤ 4398046511104) :
    Calls Tryz.prog 87 #[.pointer (some ⟨db, 0, none⟩), .int .i64 i, .int .i64 m] w (Said base db vs (cutD d i m) w) := by
  rcases file_cases h i with ⟨k, hk, rfl, h0, hf, hki⟩ | ⟨ho, hr⟩
  · have e1 : cutD d (k : Int) m = if 0 ≤ m ∧ m ≤ ((d.fs[k]).now.length : Int) then doD d k d.fs[k] (.cut m.toNat) else d := by unfold cutD; rw [if_pos h0, hf, hki]
    rw [e1]
    by_cases hm : 0 ≤ m ∧ m ≤ ((d.fs[k]).now.length : Int)
    · rw [if_pos hm]
      have hmm : ((m.toNat : Nat) : Int) = m := by omega
      have := cut_in w h hbase k hk _ rfl m.toNat (by omega) (hfew _ (List.getElem_mem hk))
      rw [hmm] at this
      exact this.mono fun e w' ⟨h1, h2⟩ => ⟨⟨_, h1⟩, h2⟩
    · rw [if_neg hm]
      have hb : Calls Tryz.prog 47 #[.pointer (some ⟨db, 0, none⟩), .int .i64 (k : Int), .iface 169 (.agg #[.int .i64 m])] w fun e w' => e = .returned (.int .i64 1) ∧ Below w.heap.size w w' := by
        by_cases hl : m < 0
        · exact do_bad_lo w h k hk _ rfl m hl
        · exact do_bad_hi w h k hk _ rfl m (by omega)
      exact (cut_bad w _ m hb h).mono fun e w' ⟨h1, h2⟩ => ⟨⟨_, h1⟩, LeftD.same h h2⟩
  · have e1 : cutD d i m = d := by
      unfold cutD
      rcases hr with hr | ⟨h0, hr⟩
      · rw [if_neg hr]
      · rw [if_pos h0, hr]
    rw [e1]
    exact (cut_bad w i m (do_out w h i ho _ (.inr ⟨m, rfl⟩)) h).mono fun e w' ⟨h1, h2⟩ => ⟨⟨_, h1⟩, LeftD.same h h2⟩
theorem sync_all {base db : Nat} {vs : List FV} {d : DD} (w : World) (h : DAt w base db vs d) (hbase : base ≤ w.heap.size) (i : Int) :
    Calls Tryz.prog 79 #[.pointer (some ⟨db, 0, none⟩), .int .i64 i] w (Said base db vs (synD d i) w) := by
  rcases file_cases h i with ⟨k, hk, rfl, h0, hf, hki⟩ | ⟨ho, hr⟩
  · have e1 : synD d (k : Int) = syncD d k d.fs[k] := by unfold synD; rw [if_pos h0, hf, hki]
    rw [e1]
    exact (sync_in w h hbase k hk _ rfl).mono fun e w' ⟨h1, h2⟩ => ⟨⟨_, h1⟩, h2⟩
  · have e1 : synD d i = d := by
      unfold synD
      rcases hr with hr | ⟨h0, hr⟩
      · rw [if_neg hr]
      · rw [if_pos h0, hr]
    rw [e1]
    exact (sync_out w h i ho).mono fun e w' ⟨h1, h2⟩ => ⟨⟨_, h1⟩, h2 ▸ LeftD.same h (Below.refl _ _)⟩
end Go.Proofs.YtnejjfglkindjaaGreatDoor.Dk

namespace Go.Proofs.YtnejjfglkindjaaGreatDoor.Dk
open Go.RowKit Go.Mir

/-- how many units a crash keeps -/
def crU (us : List Int) (k : Nat) (f : FD) : Nat := match us[k]? with
  | some x => ((x.tmod ((unitsAll f.steps + 1 : Nat) : Int) + ((unitsAll f.steps + 1 : Nat) : Int)).tmod ((unitsAll f.steps + 1 : Nat) : Int)).toNat
  | none => 0
def crF (us : List Int) : Nat → List FD → List FD
  | _, [] => []
  | k, f :: r => f.settle (crU us k f) :: crF us (k + 1) r
def crashD (us : List Int) (d : DD) : DD := ⟨crF us 0 d.fs, d.room, 0, false⟩
def crashM (us : List Int) (d : DD) (k : Nat) : DD := ⟨crF us 0 (d.fs.take k) ++ d.fs.drop k, d.room, d.fuse, d.down⟩
theorem crashM_zero (us : List Int) (d : DD) : crashM us d 0 = d := by simp [crashM, crF]
theorem crashM_get {us : List Int} {d : DD} (h : d.fs.length = 3) (k : Nat) (hk : k < 3) (hk2 : k < (crashM us d k).fs.length) : (crashM us d k).fs[k]'hk2 = d.fs[k]'(by omega) := by
  obtain ⟨fs, room, fuse, down⟩ := d
  obtain ⟨a, b, c, rfl⟩ := list3 h
  match k, hk with
  | 0, _ => rfl
  | 1, _ => rfl
  | 2, _ => rfl
theorem crashM_step {us : List Int} {d : DD} (h : d.fs.length = 3) (k : Nat) (hk : k < 3) : setF (crashM us d k) k ((d.fs[k]'(by omega)).settle (crU us k (d.fs[k]'(by omega)))) = crashM us d (k + 1) := by
  obtain ⟨fs, room, fuse, down⟩ := d
  obtain ⟨a, b, c, rfl⟩ := list3 h
  match k, hk with
  | 0, _ => rfl
  | 1, _ => rfl
  | 2, _ => rfl
theorem crU_le {us : List Int} {k : Nat} {f : FD} : crU us k f ≤ unitsAll f.steps := by
  unfold crU
  cases us[k]? with
  | none => exact Nat.zero_le _
  | some x =>
    dsimp only
    have h0 : (0 : Int) < ((unitsAll f.steps + 1 : Nat) : Int) := by omega
    have h1 := Int.tmod_lt_of_pos (x.tmod ((unitsAll f.steps + 1 : Nat) : Int) + ((unitsAll f.steps + 1 : Nat) : Int)) h0
    omega
/-- ints in memory -/
structure Ns (w : World) (p : Option Addr) (n c : Nat) (us : List Int) : Prop where
  sl : Sl w p n c 1 (us.map (Value.int .i64))
  count : us.length = n
  bd : ∀ x ∈ us, -9223372036854775808 ≤ x ∧ x ≤ 9223372036854775807
theorem Ns.turn {S : Nat → Prop} {w w' : World} {p : Option Addr} {n c : Nat} {us : List Int} (h : Ns w p n c us) (ht : Turns S w w') (hs : ∀ a, p = some a → ¬ S a.block) : Ns w' p n c us := ⟨h.sl.touch ht (fun a ha _ hk => hs a ha hk), h.count, h.bd⟩

set_option maxRecDepth 100000 in
set_option maxHeartbeats 1600000 in
theorem crash_any {base db : Nat} {vs : List FV} {d : DD} (w : World) (h : DAt w base db vs d) (hbase : base ≤ w.heap.size) (us : List Int) (p : Option Addr) (c : Nat) (hN : Ns w p us.length c us) (hap : ∀ a, p = some a → ¬ DOwn db vs a.block ∧ a.block < w.heap.size) :
    Calls Tryz.prog 20 #[.pointer (some ⟨db, 0, none⟩), .slice p us.length c] w fun e w' => e = .returned (.tuple #[]) ∧ LeftD base db vs (crashD us d) w w' := by
  have H := Lib.hid h
  have HBASE := Lib.hid hbase
  have HM3 := Lib.hid h.m3
  have HN := Lib.hid hN
  have HAP := Lib.hid hap
  have hle := hN.sl.le
  have hmax := hN.sl.max
  clear h hN hap
  go_enter Tryz.func20, Tryz.ntmps20
  go_wp2_with fail
  refine (none_any w H.out).mono ?_
  rintro e w' ⟨rfl, rfl⟩
  go_wp2_with fail
  go_loopw [10] (fun j wr => ∃ k : Nat, k ≤ 3 ∧ j = .int .i64 k ∧ LeftD base db vs (crashM us d k) w wr) (fun j _ => 3 - (intOf j).toNat)
  case atStart => exact ⟨0, by omega, rfl, vs, by rw [crashM_zero]; exact H.out, Turns.refl _ _, fun k hk => .inl hk⟩
  case round =>
    obtain ⟨k, hk, rfl, vs1, hd1, ht1, hn1⟩ := hrel
    have HD1 := Lib.hid hd1
    have HT1 := Lib.hid ht1
    have HN1 := Lib.hid hn1
    clear hd1 ht1 hn1
    by_cases hlt : k < 3
    · have hd : decide ((k : Int) < 3) = true := decide_eq_true (by omega)
      have hd2 : decide (k < 3) = true := decide_eq_true (by omega)
      have hk1 : (k : Int) < 3 := by omega
      have hk0 : (0 : Int) ≤ (k : Int) := by omega
      have HKL : Hid (k < (crashM us d k).fs.length) := by show _ < _; rw [HD1.out.m3]; exact hlt
      have HFE : Hid ((crashM us d k).fs[k]'HKL.out = d.fs[k]'(by have := HM3.out; omega)) := crashM_get HM3.out k hlt HKL.out
      have HSP := Lib.hid (crashM_step (us := us) HM3.out k hlt)
      have HU := Lib.hid (fileUnits_any wr HD1.out k HKL.out)
      rw [HFE.out] at HU
      have HUB : Hid (unitsAll (d.fs[k]'(by have := HM3.out; omega)).steps ≤ 1152921504606846976) := by
        show _ ≤ _
        have hv : k < vs1.length := by have := HD1.out.n3; omega
        have h1 := (HD1.out.each k _ _ (List.getElem?_eq_getElem hv) (List.getElem?_eq_getElem HKL.out)).ok.un
        have h2 := HD1.out.few _ (List.getElem_mem HKL.out)
        rw [HFE.out] at h1 h2
        omega
      have HCU : Hid (crU us k (d.fs[k]'(by have := HM3.out; omega)) ≤ unitsAll (d.fs[k]'(by have := HM3.out; omega)).steps) := crU_le
      generalize hff : d.fs[k]'(by have := HM3.out; omega) = f at *
      clear hff
      by_cases hku : k < us.length
      · have e0 : decide ((k : Int) < (us.length : Int)) = true := decide_eq_true (by omega)
        have e1 : decide (k < us.length) = true := decide_eq_true hku
        obtain ⟨g, o, rfl⟩ := HN.out.sl.addr (by omega) (by omega)
        have hcx : wr.cell? ⟨g, o + k, none⟩ = some (.int .i64 (us[k]'hku)) := HT1.out.cell (HN.out.sl.at (by simp [hku])) (fun hs => (HAP.out _ rfl).1 hs)
        have HXE : Hid (us[k]? = some (us[k]'hku)) := List.getElem?_eq_getElem hku
        have HXB := Lib.hid (HN.out.bd _ (List.getElem_mem hku))
        generalize us[k] = x at *
        have HCE : Hid (crU us k f = ((x.tmod ((unitsAll f.steps + 1 : Nat) : Int) + ((unitsAll f.steps + 1 : Nat) : Int)).tmod ((unitsAll f.steps + 1 : Nat) : Int)).toNat) := by show _ = _; unfold crU; rw [HXE.out]
        generalize hua : unitsAll f.steps = ua at *
        obtain ⟨A, hA⟩ : ∃ A, A = ua + 1 := ⟨_, rfl⟩
        have hA0 : 1 ≤ A := by omega
        have hAB : A ≤ 1152921504606846977 := by have := HUB.out; omega
        rw [← hA] at HCE
        have hua1 : IntKind.i64.wrap ((ua : Int) + 1) = (A : Int) := by rw [show ((ua : Int) + 1) = (A : Int) by omega]; exact IntWalk.i64_in _ (by omega)
        have hua2 : (ua : Int) + 1 = (A : Int) := by omega
        obtain ⟨r, hr⟩ : ∃ r, x.tmod (A : Int) = r := ⟨_, rfl⟩
        have hr1 : -(A : Int) < r ∧ r < (A : Int) := by
          rw [← hr]
          exact ⟨Int.lt_tmod_of_pos x (by omega), Int.tmod_lt_of_pos x (by omega)⟩
        obtain ⟨mm, hmm⟩ : ∃ mm : Nat, (r + (A : Int)).tmod (A : Int) = (mm : Int) := by
          have h1 : 0 ≤ (r + (A : Int)).tmod (A : Int) := Int.tmod_nonneg _ (by omega)
          exact ⟨((r + (A : Int)).tmod (A : Int)).toNat, by omega⟩
        have HME : Hid (mm = crU us k f) := by show _ = _; rw [HCE.out, hr, hmm]; simp
        have hmb : mm ≤ 4611686018427387904 := by have := HCU.out; have := HUB.out; have := HME.out; omega
        have hne0 : ((A : Int) == 0) = false := by rw [beq_eq_false_iff_ne]; omega
        have hne1 : ¬ (A : Int) = 0 := by omega
        have hne2 : ¬ A = 0 := by omega
        have hwr : IntKind.i64.wrap r = r := IntWalk.i64_in _ (by omega)
        have hws : IntKind.i64.wrap (r + (A : Int)) = r + (A : Int) := IntWalk.i64_in _ (by omega)
        have hwm : IntKind.i64.wrap (mm : Int) = (mm : Int) := IntWalk.i64_in _ (by omega)
        clear hA
        go_wp2_with fail
        refine (HU.out).mono ?_
        rintro e w2 ⟨rfl, hb2⟩
        have HB2 := Lib.hid hb2
        have hcx2 : w2.cell? ⟨g, o + k, none⟩ = some (.int .i64 x) := cell_below hcx hb2
        have HST := Lib.hid (settle_any w2 (HD1.out.below hb2) (Nat.le_trans HBASE.out (Nat.le_trans HT1.out.size hb2.size)) k HKL.out f HFE.out mm hmb)
        clear hb2 HU hcx
        go_wp2_with fail
        refine (HST.out).mono ?_
        rintro e w3 ⟨rfl, ⟨vs3, hd3, hn3⟩, ht3⟩
        have HL3 : Hid (LeftD base db vs (crashM us d (k + 1)) w w3) := by
          have hd3' := hd3
          have e1 : setF (crashM us d k) k (f.settle mm) = crashM us d (k + 1) := by rw [← HSP.out, HME.out]
          rw [e1] at hd3'
          refine LeftD.trans HN1.out HT1.out (LeftD.from HB2.out ⟨vs3, hd3', ht3.imp (fun k _ hk => .inl hk), fun k hk => ?_⟩)
          rcases hk with hk | ⟨v, hv, hk⟩
          · exact .inl (.inl hk)
          · exact .inl (.inr (hn3 v hv k hk))
        clear hd3 hn3 ht3 HST
        go_wp2_with fail
        go_roundw
        case rel => exact ⟨k + 1, by omega, by go_num, HL3.out⟩
        case measure => simp [intOf]; omega
      · have e0 : decide ((k : Int) < (us.length : Int)) = false := decide_eq_false (by omega)
        have e1 : decide (k < us.length) = false := decide_eq_false hku
        obtain ⟨mm, hmm⟩ : ∃ mm : Nat, mm = 0 := ⟨_, rfl⟩
        have HME : Hid (mm = crU us k f) := by show _ = _; unfold crU; rw [List.getElem?_eq_none (by omega), hmm]
        have HST := Lib.hid (settle_any wr HD1.out (Nat.le_trans HBASE.out HT1.out.size) k HKL.out f HFE.out mm (by omega))
        have hm0 : (mm : Int) = 0 := by omega
        rw [hm0] at HST
        clear hm0
        go_wp2_with fail
        refine (HST.out).mono ?_
        rintro e w3 ⟨rfl, ⟨vs3, hd3, hn3⟩, ht3⟩
        have HL3 : Hid (LeftD base db vs (crashM us d (k + 1)) w w3) := by
          have hd3' := hd3
          have e1 : setF (crashM us d k) k (f.settle mm) = crashM us d (k + 1) := by rw [← HSP.out, HME.out]
          rw [e1] at hd3'
          refine LeftD.trans HN1.out HT1.out (LeftD.from (Below.refl _ _) ⟨vs3, hd3', ht3.imp (fun k _ hk => .inl hk), fun k hk => ?_⟩)
          rcases hk with hk | ⟨v, hv, hk⟩
          · exact .inl (.inl hk)
          · exact .inl (.inr (hn3 v hv k hk))
        clear hd3 hn3 ht3 HST
        go_wp2_with fail
        go_roundw
        case rel => exact ⟨k + 1, by omega, by go_num, HL3.out⟩
        case measure => simp [intOf]; omega
    · have hd : decide ((k : Int) < 3) = false := decide_eq_false (by omega)
      have hd2 : decide (k < 3) = false := decide_eq_false (by omega)
      obtain rfl : k = 3 := by omega
      obtain ⟨hc0, hc1, hc2, hfz⟩ := HD1.out.cells
      have HL3 : Hid (LeftD base db vs (crashD us d) w ((wr.setCell ⟨db, 13, none⟩ (.int .i64 0)).setCell ⟨db, 14, none⟩ (.bool false))) := by
        have ht2 : Turns (fun k => k = db) wr ((wr.setCell ⟨db, 13, none⟩ (.int .i64 0)).setCell ⟨db, 14, none⟩ (.bool false)) := ((Turns.refl (fun k => k = db) wr).setCell (p := ⟨db, 13, none⟩) (fun _ => rfl) _).setCell (p := ⟨db, 14, none⟩) (fun _ => rfl) _
        obtain ⟨s1, _, _⟩ := dA_set HD1.out.n3 (crashM us d 3).room (crashM us d 3).fuse (crashM us d 3).down
        obtain ⟨_, s2, _⟩ := dA_set HD1.out.n3 (crashM us d 3).room 0 (crashM us d 3).down
        have r2 := cell_put (off := 13) (.int .i64 0) HD1.out.row
        have s1' := s1 0
        rw [show ((0 : Nat) : Int) = (0 : Int) from rfl] at s1'
        rw [s1'] at r2
        have r3 := cell_put (off := 14) (.bool false) r2
        rw [s2 false] at r3
        have hd4 := HD1.out.reRow ht2 r3 (by omega)
        have he : (⟨(crashM us d 3).fs, (crashM us d 3).room, 0, false⟩ : DD) = crashD us d := by
          have := HM3.out
          obtain ⟨fs, room, fuse, down⟩ := d
          obtain ⟨a, b, c, rfl⟩ := list3 this
          rfl
        rw [he] at hd4
        exact LeftD.trans HN1.out HT1.out (LeftD.row HD1.out hd4 ht2)
      go_wp2_with fail
      go_end0
      exact ⟨rfl, HL3.out⟩
end Go.Proofs.YtnejjfglkindjaaGreatDoor.Dk

namespace Go.Proofs.YtnejjfglkindjaaGreatDoor.Dk
open Go.RowKit Go.Mir Go.Mir.Parts

/-- what a call of the statement is -/
structure DOp where
  kind : Int
  file : Int
  n : Int
  b : List UInt8
  us : List Int
def dopA (o : DOp) (pb : Option Addr) (cb : Nat) (pu : Option Addr) (cu : Nat) : Array Value := #[.int .i64 o.kind, .int .i64 o.file, .int .i64 o.n, .slice pb o.b.length cb, .slice pu o.us.length cu]
structure DOpAt (w : World) (cs : List Value) (o : DOp) : Prop where
  form : ∃ pb cb pu cu, cs = (dopA o pb cb pu cu).toList ∧ Bs w pb o.b.length cb o.b ∧ Ns w pu o.us.length cu o.us
  kindB : -9223372036854775808 ≤ o.kind ∧ o.kind ≤ 9223372036854775807
  fileB : -9223372036854775808 ≤ o.file ∧ o.file ≤ 9223372036854775807
  nB : -9223372036854775808 ≤ o.n ∧ o.n ≤ 9223372036854775807
theorem Ns.below {w w' : World} {p : Option Addr} {n c : Nat} {us : List Int} (h : Ns w p n c us) (hb : Below w.heap.size w w') : Ns w' p n c us := ⟨h.sl.below hb, h.count, h.bd⟩
theorem DOpAt.below {w w' : World} {cs : List Value} {o : DOp} (h : DOpAt w cs o) (hb : Below w.heap.size w w') : DOpAt w' cs o := by
  obtain ⟨pb, cb, pu, cu, h1, h2, h3⟩ := h.form
  exact ⟨⟨pb, cb, pu, cu, h1, h2.below hb, h3.below hb⟩, h.kindB, h.fileB, h.nB⟩
structure DOps (w : World) (p : Option Addr) (n c : Nat) (os : List DOp) (rows : List (List Value)) : Prop where
  rs : Rs w p n c 5 rows
  count : os.length = n
  each : ∀ (i : Nat) r o, rows[i]? = some r → os[i]? = some o → DOpAt w r o
theorem DOps.below {w w' : World} {p : Option Addr} {n c : Nat} {os : List DOp} {rows : List (List Value)} (h : DOps w p n c os rows) (hb : Below w.heap.size w w') : DOps w' p n c os rows :=
  ⟨h.rs.below hb, h.count, fun i r o h1 h2 => (h.each i r o h1 h2).below hb⟩
theorem DOps.at {w : World} {b o n c : Nat} {os : List DOp} {rows : List (List Value)} (h : DOps w (some ⟨b, o, none⟩) n c os rows) (k : Nat) (hk : k < os.length) : ∃ pb cb pu cu, Bs w pb os[k].b.length cb os[k].b ∧ Ns w pu os[k].us.length cu os[k].us ∧ w.rangeAt b (o + k * 5) (dopA os[k] pb cb pu cu).toList := by
  have hkr : k < rows.length := by rw [h.rs.count, ← h.count]; exact hk
  obtain ⟨pb, cb, pu, cu, e, h1, h2⟩ := (h.each k _ os[k] (List.getElem?_eq_getElem hkr) (List.getElem?_eq_getElem hk)).form
  refine ⟨pb, cb, pu, cu, h1, h2, ?_⟩
  rw [← e]
  exact h.rs.row k hkr
theorem dopA_cell {w : World} {b : Nat} {o : DOp} {pb : Option Addr} {cb : Nat} {pu : Option Addr} {cu : Nat} {t : TypeId} {fr : Nat × Nat} (h : w.heap[b]? = some (.cells (dopA o pb cb pu cu) t fr)) :
    w.cell? ⟨b, 0, none⟩ = some (.int .i64 o.kind) ∧ w.cell? ⟨b, 1, none⟩ = some (.int .i64 o.file) ∧ w.cell? ⟨b, 2, none⟩ = some (.int .i64 o.n) ∧ w.cell? ⟨b, 3, none⟩ = some (.slice pb o.b.length cb) ∧ w.cell? ⟨b, 4, none⟩ = some (.slice pu o.us.length cu) := by
  refine ⟨?_, ?_, ?_, ?_, ?_⟩ <;> (rw [cell_of_row _ _ _ _ _ _ h]; rfl)
theorem dopA_one (o : DOp) (pb : Option Addr) (cb : Nat) (pu : Option Addr) (cu : Nat) : (dopA o pb cb pu cu).all (·.oneCell') = true := by
  unfold dopA
  simp [Value.oneCell']
def SmallP (w : World) (e : Ending) (w' : World) : Prop := ∃ sb : Bool, e = .returned (.bool sb) ∧ Below w.heap.size w w'
end Go.Proofs.YtnejjfglkindjaaGreatDoor.Dk

namespace Go.Proofs.YtnejjfglkindjaaGreatDoor.Dk
open Go.RowKit Go.Mir Go.Mir.Parts

/-- what a call does of a disk -/
def opD (d : DD) (o : DOp) : DD := if o.kind = 0 then putD d o.file o.b else if o.kind = 1 then cutD d o.file o.n else if o.kind = 2 then synD d o.file else if o.kind = 3 then ⟨d.fs, d.room, o.n.toNat, d.down⟩ else if o.kind = 4 then crashD o.us d else d
def playD : DD → List DOp → DD
  | d, [] => d
  | d, o :: r => playD (opD d o) r
theorem playD_take : ∀ (l : List DOp) (d : DD) (k : Nat) (h : k < l.length), playD d (l.take (k + 1)) = opD (playD d (l.take k)) l[k]
  | [], d, k, h => by simp at h
  | o :: r, d, 0, _ => by simp [playD]
  | o :: r, d, k + 1, h => by
    simp only [List.take_succ_cons, playD, List.getElem_cons_succ]
    exact playD_take r (opD d o) k (by simpa using h)
def FewD (d : DD) (N : Nat) : Prop := ∀ f ∈ d.fs, f.steps.length ≤ N
theorem FewD.mono {d : DD} {N M : Nat} (h : FewD d N) (hm : N ≤ M) : FewD d M := fun f hf => Nat.le_trans (h f hf) hm
theorem FewD.set {d : DD} {N i : Nat} {f : FD} (h : FewD d N) (hf : f.steps.length ≤ N) : FewD (setF d i f) N := fun g hg => by
  rcases List.mem_or_eq_of_mem_set hg with hg | hg
  · exact h g hg
  · rw [hg]; exact hf
theorem FewD.burn {d : DD} {N : Nat} (h : FewD d N) : FewD d.burn N := fun g hg => h g (by rw [burn_fs] at hg; exact hg)
theorem FewD.doD {d : DD} {N i : Nat} {f : FD} {s : St} (h : FewD d N) (hf : f.steps.length ≤ N) : FewD (doD d i f s) (N + 1) := by
  unfold Dk.doD
  split
  · exact h.mono (by omega)
  · split
    · exact h.mono (by omega)
    · refine FewD.burn (FewD.set (h.mono (by omega)) ?_)
      show (f.steps ++ [s]).length ≤ _
      rw [List.length_append]
      simp; omega
theorem FewD.syncD {d : DD} {N i : Nat} {f : FD} (h : FewD d N) : FewD (syncD d i f) N := by
  unfold Dk.syncD
  split
  · exact h
  · split
    · exact h.burn
    · exact FewD.set h.burn (Nat.zero_le _)
theorem crF_few (us : List Int) : ∀ (l : List FD) (k : Nat), ∀ f ∈ crF us k l, f.steps.length = 0
  | [], k, f, hf => by simp [crF] at hf
  | g :: r, k, f, hf => by
    rw [crF, List.mem_cons] at hf
    rcases hf with rfl | hf
    · rfl
    · exact crF_few us r (k + 1) f hf
theorem FewD.opD {d : DD} {N : Nat} (h : FewD d N) (o : DOp) : FewD (opD d o) (N + 1) := by
  have hs : FewD d (N + 1) := h.mono (by omega)
  unfold Dk.opD
  split
  · unfold putD
    split
    · split
      · rename_i f hf
        exact h.doD (h f (List.mem_of_getElem? hf))
      · exact hs
    · exact hs
  · split
    · unfold cutD
      split
      · split
        · rename_i f hf
          split
          · exact h.doD (h f (List.mem_of_getElem? hf))
          · exact hs
        · exact hs
      · exact hs
    · split
      · unfold synD
        split
        · split
          · exact hs.syncD
          · exact hs
        · exact hs
      · split
        · exact hs
        · split
          · intro f hf
            have := crF_few o.us d.fs 0 f hf
            omega
          · exact hs
theorem FewD.playD : ∀ (l : List DOp) {d : DD} {N : Nat}, FewD d N → FewD (playD d l) (N + l.length)
  | [], _, _, h => h
  | o :: r, _, N, h => by
    have := FewD.playD r (h.opD o)
    simp only [Dk.playD, List.length_cons]
    rw [show N + (r.length + 1) = N + 1 + r.length by omega]
    exact this
/-- a crash, whatever units are told -/
theorem crF_nil : ∀ (l : List FD) (k : Nat), crF [] k l = l.map (fun f => f.settle 0)
  | [], k => rfl
  | f :: r, k => by rw [crF, crF_nil r (k + 1)]; rfl
theorem crash_all {base db : Nat} {vs : List FV} {d : DD} (w : World) (h : DAt w base db vs d) (hbase : base ≤ w.heap.size) (us : List Int) (p : Option Addr) (c : Nat) (hN : Ns w p us.length c us) (B : Nat) (hB : B ≤ base) (hap : ∀ a, p = some a → 0 < us.length → a.block < B) :
    Calls Tryz.prog 20 #[.pointer (some ⟨db, 0, none⟩), .slice p us.length c] w fun e w' => e = .returned (.tuple #[]) ∧ LeftD base db vs (crashD us d) w w' := by
  cases us with
  | nil =>
    have e1 : crashD [] d = crash0 d := by unfold crashD crash0; rw [crF_nil]
    rw [e1]
    exact crash_none w h hbase c p
  | cons x r =>
    refine crash_any w h hbase (x :: r) p c hN (fun a ha => ?_)
    have h1 := hap a ha (by simp)
    exact ⟨fun ho => by have := (h.ownLt _ ho).1; omega, by omega⟩
theorem Ns.lt {w : World} {p : Option Addr} {n c : Nat} {us : List Int} (h : Ns w p n c us) : ∀ a, p = some a → 0 < us.length → a.block < w.heap.size := fun a ha h0 => by
  subst ha
  have := h.sl.cell a rfl 0 (.int .i64 us[0]) (by simp [h0])
  exact block_lt_of_cell this
end Go.Proofs.YtnejjfglkindjaaGreatDoor.Dk

namespace Go.Proofs.YtnejjfglkindjaaGreatDoor.Dk
open Go.RowKit Go.Mir

/-- how many bytes are kept -/
def keepN (L : Nat) (units : Int) : Nat := ((units.tmod ((L + 1 : Nat) : Int) + ((L + 1 : Nat) : Int)).tmod ((L + 1 : Nat) : Int)).toNat
theorem keepN_le (L : Nat) (units : Int) : keepN L units ≤ L := by
  unfold keepN
  have h0 : (0 : Int) < ((L + 1 : Nat) : Int) := by omega
  have h1 := Int.tmod_lt_of_pos (units.tmod ((L + 1 : Nat) : Int) + ((L + 1 : Nat) : Int)) h0
  omega
theorem keepN_eq (L : Nat) (units : Int) : (-(L : Int) ≤ units.tmod ((L : Int) + 1) ∧ units.tmod ((L : Int) + 1) ≤ (L : Int)) ∧ (units.tmod ((L : Int) + 1) + (L : Int) + 1).tmod ((L : Int) + 1) = (keepN L units : Int) ∧ (units.tmod ((L : Int) + 1) + (L : Int) + 1) % ((L : Int) + 1) = (keepN L units : Int) := by
  have h0 : (0 : Int) < (L : Int) + 1 := by omega
  have h1 := Int.tmod_lt_of_pos units h0
  have h2 := Int.lt_tmod_of_pos units h0
  unfold keepN
  have e : ((L + 1 : Nat) : Int) = (L : Int) + 1 := by omega
  rw [e]
  generalize units.tmod ((L : Int) + 1) = r at *
  have e2 : r + ((L : Int) + 1) = r + (L : Int) + 1 := by omega
  rw [e2]
  have h3 : 0 ≤ (r + (L : Int) + 1).tmod ((L : Int) + 1) := by rw [Int.tmod_eq_emod_of_nonneg (by omega)]; exact Int.emod_nonneg _ (by omega)
  have e3 : (r + (L : Int) + 1) % ((L : Int) + 1) = (r + (L : Int) + 1).tmod ((L : Int) + 1) := (Int.tmod_eq_emod_of_nonneg (by omega)).symm
  rw [e3]
  exact ⟨by omega, by omega, by omega⟩
theorem sync_cases (d : DD) : syncE d = 18 ∨ (syncE d = 0 ∧ d.down = false ∧ d.burn.down = false) := by
  unfold syncE
  cases h : d.down with
  | true => exact .inl (by simp)
  | false =>
    cases hb : d.burn.down with
    | true => exact .inl (by simp)
    | false => exact .inr ⟨by simp, rfl, rfl⟩
theorem sync_leaves {d : DD} (_h3 : d.fs.length = 3) (h1 : 1 < d.fs.length) (hd : d.down = false) (hb : d.burn.down = false) :
    ∃ f2 : FD, ∃ h : 1 < (syncD d 1 d.fs[1]).fs.length, (syncD d 1 d.fs[1]).fs[1] = f2 ∧ f2.kept = f2.now ∧ f2.steps = [] ∧ (syncD d 1 d.fs[1]).down = false := by
  have e := (sync_ok 1 d.fs[1] hd hb).1
  obtain ⟨hl, hg⟩ := List.getElem?_eq_some_iff.1 (show (syncD d 1 d.fs[1]).fs[1]? = some (d.fs[1].settle (unitsAll d.fs[1].steps)) by
    rw [e]
    show (d.burn.fs.set 1 _)[1]? = _
    rw [List.getElem?_set, if_pos rfl, if_pos (by rw [burn_fs]; exact h1)])
  exact ⟨_, hl, hg, rfl, rfl, by rw [e]; exact hb⟩
theorem keep_step {d2 : DD} {f2 : FD} (h3 : d2.fs.length = 3) (h1 : 1 < d2.fs.length) (hf : d2.fs[1] = f2) (hk : f2.kept = f2.now) (hs : f2.steps = []) (hd : d2.down = false) (b : List UInt8) (units : Int) :
    ∃ h : 1 < (crashD [0, units] (doD d2 1 f2 (.put b))).fs.length,
      (crashD [0, units] (doD d2 1 f2 (.put b))).fs[1].kept = (crashD [0, units] (doD d2 1 f2 (.put b))).fs[1].now ∧
      ((doE d2 1 f2 (.put b) = 17 ∧ (crashD [0, units] (doD d2 1 f2 (.put b))).fs[1].now = f2.now) ∨
       ((doE d2 1 f2 (.put b) = 18 ∨ doE d2 1 f2 (.put b) = 0) ∧ (crashD [0, units] (doD d2 1 f2 (.put b))).fs[1].now = f2.now ++ b.take (keepN b.length units))) := by
  obtain ⟨fs, room, fuse, down⟩ := d2
  obtain ⟨x, y, z, rfl⟩ := list3 h3
  have hy : y = f2 := hf
  subst hy
  have hd' : down = false := hd
  subst hd'
  by_cases hbig : room < usedL [x, y, z] - y.need + max y.need ((St.put b).size y.now.length)
  · have e1 : doE ⟨[x, y, z], room, fuse, false⟩ 1 y (.put b) = 17 := by unfold doE; rw [if_neg Bool.false_ne_true, if_pos hbig]
    have e2 : doD ⟨[x, y, z], room, fuse, false⟩ 1 y (.put b) = ⟨[x, y, z], room, fuse, false⟩ := by unfold doD; rw [if_neg Bool.false_ne_true, if_pos hbig]
    rw [e1, e2]
    refine ⟨(show 1 < 3 by decide), rfl, .inl ⟨rfl, ?_⟩⟩
    show someU y.kept y.steps _ = y.now
    rw [hs, hk]; rfl
  · have e1 : doE ⟨[x, y, z], room, fuse, false⟩ 1 y (.put b) = 18 ∨ doE ⟨[x, y, z], room, fuse, false⟩ 1 y (.put b) = 0 := by
      unfold doE; rw [if_neg Bool.false_ne_true, if_neg hbig]
      split
      · exact .inl rfl
      · exact .inr rfl
    have e2 : (doD ⟨[x, y, z], room, fuse, false⟩ 1 y (.put b)).fs = [x, y.take (.put b), z] := by
      unfold doD; rw [if_neg Bool.false_ne_true, if_neg hbig, burn_fs]; rfl
    have e3 : (crashD [0, units] (doD ⟨[x, y, z], room, fuse, false⟩ 1 y (.put b))).fs = [x.settle (crU [0, units] 0 x), (y.take (.put b)).settle (crU [0, units] 1 (y.take (.put b))), z.settle (crU [0, units] 2 z)] := by
      show crF _ 0 (doD _ _ _ _).fs = _
      rw [e2]; rfl
    simp only [e3]
    refine ⟨(show 1 < 3 by decide), rfl, .inr ⟨e1, ?_⟩⟩
    show someU y.kept (y.steps ++ [.put b]) (crU [0, units] 1 (y.take (.put b))) = _
    have hst : (y.take (.put b)).steps = [.put b] := by show y.steps ++ [_] = _; rw [hs]; rfl
    have hu : crU [0, units] 1 (y.take (.put b)) = keepN b.length units := by
      unfold crU keepN
      rw [hst]
      show (((units.tmod _ + _).tmod _)).toNat = _
      rfl
    rw [hu, hs, hk]
    show (St.put b).act y.now (min (keepN b.length units) b.length) = _
    rw [Nat.min_eq_left (keepN_le _ _)]
    rfl
theorem ns_lit (w : World) (t : TypeId) (us : List Int) (hl : us.length ≤ 65536) (hb : ∀ x ∈ us, -9223372036854775808 ≤ x ∧ x ≤ 9223372036854775807) : Ns (w.alloc (.cells (us.map (Value.int .i64)).toArray t)) (some ⟨w.heap.size, 0, none⟩) us.length us.length us :=
  ⟨⟨by rw [List.length_map, Nat.mul_one], Nat.le_refl _, by omega, fun h => (by cases h), fun a ha j u hu => by
    obtain rfl := Option.some.inj ha
    rw [add_none, Nat.zero_add, cell_of_row _ _ _ _ _ _ (heap_alloc_last _ _), ← Array.getElem?_toList]
    exact hu⟩, rfl, hb⟩
theorem Bs.upto {w : World} {p : Option Addr} {n c : Nat} {l : List UInt8} (h : Bs w p n c l) (k : Nat) (hk : k ≤ n) : Bs w p k c (l.take k) := by
  have hn := h.length
  refine ⟨by rw [bytesV_length, List.length_take, Nat.mul_one]; omega, Nat.le_trans hk h.le, h.max, fun hp => ?_, fun a ha j u hu => ?_⟩
  · exact h.nil0 hp
  · have h1 : (bytesV l)[j]? = some u := by
      simp only [bytesV, List.getElem?_map, List.getElem?_take] at hu ⊢
      split at hu
      · exact hu
      · simp at hu
    exact h.cell a ha j u h1
end Go.Proofs.YtnejjfglkindjaaGreatDoor.Dk

namespace Go.Proofs.YtnejjfglkindjaaGreatDoor.Wr
open Go.RowKit Go.Mir Go.Mir.Parts

theorem infoB : (Tryz.prog.info? 5).map (fun i => (i.zero, i.size, i.bytes)) = some (some (.int .u8 0), 1, 1) := by kernel_rfl

/-- a writer that a call made: its block, its bytes' slice, room, bytes, fault -/
structure WAt (w : World) (wb : Nat) (v : Value) (room : Nat) (l : List UInt8) (bad : Int) : Prop where
  blk : w.heap[wb]? = some (.cells #[.bool true, .int .i64 (room : Int), v, .int .i64 bad] 205 (0, 0))
  own : w.ownsRow 0 5 1 v l.length (bytesV l)
  sep : v.ownBlock ≠ some wb
  fits : l.length ≤ room
  roomy : room ≤ 9223372036854775807
/-- its blocks -/
def foot (wb : Nat) (v : Value) (k : Nat) : Prop := k = wb ∨ v.ownBlock = some k

theorem WAt.touch {S : Nat → Prop} {w w' : World} {wb : Nat} {v : Value} {room : Nat} {l : List UInt8} {bad : Int} (h : WAt w wb v room l bad) (ht : Turns S w w') (hS : ∀ k, foot wb v k → ¬ S k) : WAt w' wb v room l bad :=
  ⟨ht.keep h.blk (hS _ (.inl rfl)), own_touch h.own ht (fun k hk => hS k (.inr hk)), h.sep, h.fits, h.roomy⟩
theorem WAt.drew {w : World} {wb : Nat} {v : Value} {room : Nat} {l : List UInt8} {bad : Int} (h : WAt w wb v room l bad) : WAt w.drew wb v room l bad := ⟨h.blk, h.own, h.sep, h.fits, h.roomy⟩
theorem WAt.lt {w : World} {wb : Nat} {v : Value} {room : Nat} {l : List UInt8} {bad : Int} (h : WAt w wb v room l bad) : ∀ k, foot wb v k → k < w.heap.size := by
  intro k hk
  rcases hk with rfl | hk
  · exact (Array.getElem?_eq_some_iff.1 h.blk).1
  · exact (h.own.lt k hk).2

/-- the four cells -/
theorem WAt.cells {w : World} {wb : Nat} {v : Value} {room : Nat} {l : List UInt8} {bad : Int} (h : WAt w wb v room l bad) :
    w.cell? ⟨wb, 0, none⟩ = some (.bool true) ∧ w.cell? ⟨wb, 1, none⟩ = some (.int .i64 (room : Int)) ∧ w.cell? ⟨wb, 2, none⟩ = some v ∧ w.cell? ⟨wb, 3, none⟩ = some (.int .i64 bad) ∧ w.frozen? ⟨wb, 2, none⟩ = false ∧ w.frozen? ⟨wb, 3, none⟩ = false := by
  refine ⟨?_, ?_, ?_, ?_, frozen_of_row _ _ _ _ _ h.blk, frozen_of_row _ _ _ _ _ h.blk⟩ <;> (rw [cell_of_row _ _ _ _ _ _ h.blk]; rfl)

/-! ### is there none? -/
theorem none_made (wb : Nat) (w : World) (hc : w.cell? ⟨wb, 0, none⟩ = some (.bool true)) :
    Calls Tryz.prog 128 #[.pointer (some ⟨wb, 0, none⟩)] w fun e w' => e = .returned (.bool false) ∧ w = w' := by
  go_enter Tryz.func128, Tryz.ntmps128
  go_wp2
  go_ret
  exact ⟨rfl, rfl⟩
theorem none_zero (wb : Nat) (w : World) (hc : w.cell? ⟨wb, 0, none⟩ = some (.bool false)) :
    Calls Tryz.prog 128 #[.pointer (some ⟨wb, 0, none⟩)] w fun e w' => e = .returned (.bool true) ∧ w = w' := by
  go_enter Tryz.func128, Tryz.ntmps128
  go_wp2
  go_ret
  exact ⟨rfl, rfl⟩
theorem none_nil (w : World) :
    Calls Tryz.prog 128 #[.pointer none] w fun e w' => e = .returned (.bool true) ∧ w = w' := by
  go_enter Tryz.func128, Tryz.ntmps128
  go_wp2
  go_ret
  exact ⟨rfl, rfl⟩

/-! ### Fail -/
theorem fail_any (wb : Nat) (v : Value) (room : Nat) (l : List UInt8) (bad e0 : Int) (w : World) (h : WAt w wb v room l bad) :
    Calls Tryz.prog 129 #[.pointer (some ⟨wb, 0, none⟩), .int .i64 e0] w fun e w' => e = .returned (.tuple #[]) ∧ WAt w' wb v room l (if bad = 0 then e0 else bad) ∧ Turns (foot wb v) w w' := by
  obtain ⟨c0, c1, c2, c3, f2, f3⟩ := h.cells
  have HW := Lib.hid h
  by_cases hb : bad = 0
  · subst hb
    go_enter Tryz.func129, Tryz.ntmps129
    go_wp2_with (go_at_call 128; refine (none_made _ _ c0).mono ?_; rintro e w' ⟨rfl, rfl⟩)
    go_end0
    refine ⟨rfl, ?_, (Turns.refl _ _).setCell (fun _ => .inl rfl) _⟩
    try rw [if_pos rfl]
    exact ⟨by rw [heap_setCell_same _ _ _ _ _ _ HW.out.blk]; rfl, own_touch HW.out.own ((Turns.refl (fun k => k = wb) _).setCell (fun _ => rfl) _) (fun k hk e => HW.out.sep (by rw [hk, e])), HW.out.sep, HW.out.fits, HW.out.roomy⟩
  · have hb' : (bad == 0) = false := by simp [hb]
    go_enter Tryz.func129, Tryz.ntmps129
    go_wp2_with (go_at_call 128; refine (none_made _ _ c0).mono ?_; rintro e w' ⟨rfl, rfl⟩)
    go_end0
    try rw [if_neg hb]
    exact ⟨rfl, HW.out, Turns.refl _ _⟩

/-! ### put -/
/-- what is held behind 'put': bytes, fault -/
def putS (room : Nat) (l : List UInt8) (bad : Int) (fits : Bool) (ps : List (List UInt8)) : List UInt8 × Int :=
  if bad = 0 then (if fits then (if total ps ≤ room - l.length then (l ++ ps.flatten, 0) else (l, 3)) else (l, 1)) else (l, bad)

/-- what a call leaves of a writer -/
def Left (wb : Nat) (v : Value) (room : Nat) (r : List UInt8 × Int) (w w' : World) : Prop :=
  ∃ v', WAt w' wb v' room r.1 r.2 ∧ Turns (foot wb v) w w' ∧ NextV w v v'

set_option maxRecDepth 100000 in
set_option maxHeartbeats 400000 in
theorem put_sum (p : Option Addr) (n c : Nat) (ls : List (List UInt8)) (wb : Nat) (v : Value) (room : Nat) (l : List UInt8) (fits : Bool) (w : World) (h : WAt w wb v room l 0)
    (hP : ∀ w', Turns (foot wb v) w w' → Pts w' p n c ls) (hs : total ls ≤ 70368744177664) (hl : l.length ≤ 70368744177664) :
    Calls Tryz.prog 118 #[.pointer (some ⟨wb, 0, none⟩), .bool fits, .slice p n c] w fun e w' => e = .returned (.tuple #[]) ∧ Left wb v room (putS room l 0 fits ls) w w' := by
  obtain ⟨pv, cv, hv, hsv⟩ := own_sl h.own
  subst hv
  have hvle := hsv.le
  have hvmax := hsv.max
  clear hsv
  obtain ⟨c0, c1, c2, c3, f2, f3⟩ := h.cells
  have hroom := h.roomy
  have hfit := h.fits
  have HW := Lib.hid h
  have hp := hP w (Turns.refl _ _)
  have hle := hp.le
  have hmax := hp.max
  have hn := hp.len
  have HP := Lib.hid hp
  have HPP := Lib.hid hP
  clear h hp hP
  go_enter Tryz.func118, Tryz.ntmps118
  go_wp2_with (go_at_call 128; refine (none_made _ _ c0).mono ?_; rintro e w' ⟨rfl, rfl⟩)
  go_loop [6, 23] (fun x j => ∃ k : Nat, k ≤ n ∧ j = .int .i64 k ∧ x = .int .i64 ((total (ls.take k) : Nat) : Int)) (fun _ j => n - (intOf j).toNat)
  case atStart => exact ⟨0, by omega, rfl, rfl⟩
  case round =>
    obtain ⟨k, hk, rfl, rfl⟩ := hrel
    have htl := total_le ls k
    by_cases hlt : k < n
    · obtain ⟨b, o, rfl⟩ := HP.out.addr (by omega)
      obtain ⟨q, m, d, hc, hB⟩ := HP.out.cell _ rfl k (by omega)
      rw [add_none] at hc
      have htk := total_take ls k (by omega)
      have htl' := total_le ls (k + 1)
      rw [hB.length] at htk
      have HTK := Lib.hid htk
      have hsum : total (ls.take k) + m ≤ 4611686018427387904 := by omega
      clear htk htl' hB
      generalize hT : total (ls.take k) = T at *
      have HT := Lib.hid hT
      clear hT
      go_wp2
      go_round
      case rel => exact ⟨k + 1, by omega, by go_num, by rw [HTK.out]; go_num⟩
      case measure => simp [intOf]; omega
    · have hk' : k = ls.length := by omega
      rw [hk', List.take_length]
      generalize hT : total ls = T at *
      have HT := Lib.hid hT
      clear hT htl
      cases fits with
      | false =>
        go_wp2_with fail
        refine (fail_any wb _ room l 0 1 _ HW.out).mono ?_
        rintro e w1 ⟨rfl, hw1, ht1⟩
        have HW1 := Lib.hid hw1
        have HT1 := Lib.hid ht1
        clear hw1 ht1
        go_wp2_with fail
        refine bodyPost_ret (results_none rfl _ _ _) rfl ?_
        exact ⟨rfl, _, HW1.out, HT1.out, fun _ hk _ => hk⟩
      | true =>
        by_cases hT2 : T ≤ room - l.length
        · have hcmp : decide ((room : Int) - (l.length : Int) < (T : Int)) = false := by simp; omega
          have hput : Hid (putS room l 0 true ls = (l ++ ls.flatten, 0)) := by show _ = _; simp [putS, HT.out, hT2]
          have htot : l.length + T ≤ 140737488355328 ∧ l.length + T ≤ room := by omega
          go_wp2_with fail
          go_quiet (fail)
          go_wp2_with fail
          have HW2 : Hid (WAt (w.drewN nq) wb (.slice pv l.length cv) room l 0) := ⟨HW.out.blk, HW.out.own, HW.out.sep, HW.out.fits, HW.out.roomy⟩
          have HT2 : Hid (Turns (foot wb (.slice pv l.length cv)) w (w.drewN nq)) := ⟨rfl, rfl, rfl, Nat.le_refl _, fun _ _ _ => rfl⟩
          clear c0 c1 c2 c3 f2 f3
          generalize w.drewN nq = w2 at *
          go_loopw [53] (fun j wr => ∃ (k : Nat) (p1 : Option Addr) (n1 c1 : Nat), k ≤ n ∧ j = .int .i64 k ∧ WAt wr wb (.slice p1 n1 c1) room (l ++ (ls.take k).flatten) 0 ∧ Turns (foot wb (.slice pv l.length cv)) w wr ∧ NextV w (.slice pv l.length cv) (.slice p1 n1 c1)) (fun j _ => n - (intOf j).toNat)
          case atStart => exact ⟨0, pv, l.length, cv, by omega, rfl, by simpa using HW2.out, HT2.out, fun _ hk _ => hk⟩
          case round =>
            obtain ⟨k, p1, n1, c1, hk, rfl, hw1, ht1, hnx1⟩ := hrel
            by_cases hlt : k < n
            · obtain ⟨e0, e1, e2, e3, g2, g3⟩ := hw1.cells
              obtain ⟨b, o, rfl⟩ := HP.out.addr (by omega)
              obtain ⟨q, m, d, hc, hB⟩ := (HPP.out wr ht1).cell _ rfl k (by omega)
              rw [add_none] at hc
              have hlen : (l ++ (ls.take k).flatten).length = l.length + total (ls.take k) := by rw [List.length_append, total_flatten]
              have htk := total_take ls k (by omega)
              have htl' := total_le ls (k + 1)
              rw [hB.length] at htk
              rw [HT.out] at htl'
              have hfl : Hid (l ++ (ls.take (k+1)).flatten = (l ++ (ls.take k).flatten) ++ ls[k]) := by
                show _ = _
                rw [take_snoc ls k (by omega), List.flatten_append]; simp
              have hbd : Hid ((l ++ (ls.take k).flatten).length + m ≤ 9223372036854775807 ∧ ((l ++ (ls.take k).flatten).length + m) * 1 ≤ 140737488355328) := by
                show _ ∧ _
                rw [hlen]; omega
              have hfit' : Hid ((l ++ (ls.take (k+1)).flatten).length ≤ room) := by
                show _ ≤ _
                rw [List.length_append, total_flatten]; omega
              have HBm := Lib.hid hB.length
              have HS := Lib.hid hB
              have hleq : (l ++ (ls.take k).flatten).length + m = (l ++ (ls.take (k+1)).flatten).length := by rw [hfl.out, ← hB.length]; exact List.length_append.symm
              clear hlen htk htl' hB
              generalize l ++ (ls.take k).flatten = L at *
              generalize hL' : l ++ (ls.take (k+1)).flatten = L' at *
              have HL' := Lib.hid hL'
              have HLQ := Lib.hid hleq
              have HW1 := Lib.hid hw1
              have HT1 := Lib.hid ht1
              have HN1 := Lib.hid hnx1
              clear hw1 ht1 hnx1 hL' hleq
              go_wp2_with (at_builtin; refine wpList_append_nx rfl _ _ 22 rfl (base := 0) Tryz.underlying22 infoB rfl (by omega) rfl HW1.out.own rfl HS.out (bytesV_one _) hbd.out (Nat.zero_le _) ?_)
              intro p' c' w3 hown hg hnx hne
              have e2' : w3.cell? ⟨wb, 2, none⟩ = some (.slice p1 n1 c1) := hg.cell e2 (fun e => HW1.out.sep e.symm)
              have g2' : w3.frozen? ⟨wb, 2, none⟩ = false := by
                rw [World.frozen?_of_block (hg.block wb (Array.getElem?_eq_some_iff.1 HW1.out.blk).1 (fun e => HW1.out.sep e.symm))]; exact g2
              have HO := Lib.hid hown
              have HG := Lib.hid hg
              have HNX := Lib.hid hnx
              clear hown hg hnx hne
              go_wp2_with fail
              go_roundw
              case rel =>
                have hlt1 : wb < wr.heap.size := (Array.getElem?_eq_some_iff.1 HW1.out.blk).1
                have hb3 : w3.heap[wb]? = some (.cells #[.bool true, .int .i64 (room : Int), .slice p1 n1 c1, .int .i64 0] 205 (0, 0)) := by
                  rw [HG.out.block wb hlt1 (fun e => HW1.out.sep e.symm)]; exact HW1.out.blk
                have hsep : ¬ (Value.slice p' (L.length + m) c').ownBlock = some wb := by
                  intro e
                  rcases HNX.out wb e with h | h
                  · exact HW1.out.sep h
                  · omega
                refine ⟨k + 1, p', L.length + m, c', by omega, by go_num, ?_, ?_, ?_⟩
                rw [HL'.out]
                refine ⟨?_, ?_, hsep, hfit'.out, hroom⟩
                · rw [heap_setCell_same _ _ _ _ _ _ hb3]; rfl
                · have := own_touch HO.out ((Turns.refl (fun k => k = wb) _).setCell (p := ⟨wb, 2, none⟩) (fun _ => rfl) (.slice p' (L.length + m) c')) (fun k hk e => hsep (by rw [hk, e]))
                  rw [hfl.out, bytesV_append, ← hfl.out, ← HLQ.out]
                  exact this
                · refine HT1.out.trans ((Turns.grown (S := foot wb (.slice p1 n1 c1)) HG.out (fun k hk => .inr hk)).setCell (fun _ => .inl rfl) _) ?_
                  intro i hi hfi
                  rcases hfi with rfl | hfi
                  · exact .inl rfl
                  · exact .inr (HN1.out i hfi hi)
                · intro j hj hjl
                  rcases HNX.out j hj with h | h
                  · exact HN1.out j h hjl
                  · have := HT1.out.size; omega
              case measure => simp [intOf]; omega
            · have hk' : k = ls.length := by omega
              rw [hk', List.take_length] at hw1
              have HW1 := Lib.hid hw1
              have HT1 := Lib.hid ht1
              have HN1 := Lib.hid hnx1
              clear hw1 ht1 hnx1
              go_wp2_with fail
              go_end0
              exact ⟨rfl, _, by rw [hput.out]; exact HW1.out, HT1.out, HN1.out⟩
        · have hcmp : decide ((room : Int) - (l.length : Int) < (T : Int)) = true := by simp; omega
          have hput : Hid (putS room l 0 true ls = (l, 3)) := by show _ = _; simp [putS, HT.out, hT2]
          go_wp2_with fail
          go_quiet (fail)
          go_wp2_with fail
          have HW2 : Hid (WAt (w.drewN nq) wb (.slice pv l.length cv) room l 0) := ⟨HW.out.blk, HW.out.own, HW.out.sep, HW.out.fits, HW.out.roomy⟩
          have HT2 : Hid (Turns (foot wb (.slice pv l.length cv)) w (w.drewN nq)) := ⟨rfl, rfl, rfl, Nat.le_refl _, fun _ _ _ => rfl⟩
          refine (fail_any wb _ room l 0 3 _ HW2.out).mono ?_
          rintro e w1 ⟨rfl, hw1, ht1⟩
          have HW1 := Lib.hid hw1
          have HT1 : Hid (Turns (foot wb (.slice pv l.length cv)) w w1) := HT2.out.trans ht1 (fun _ _ h => h)
          clear hw1 ht1
          go_wp2_with fail
          refine bodyPost_ret (results_none rfl _ _ _) rfl ?_
          exact ⟨rfl, _, by rw [hput.out]; exact HW1.out, HT1.out, fun _ hk _ => hk⟩

end Go.Proofs.YtnejjfglkindjaaGreatDoor.Wr

namespace Go.Proofs.YtnejjfglkindjaaGreatDoor.Wr
open Go.RowKit Go.Mir Go.Mir.Parts

theorem Left.refl {w : World} {wb : Nat} {v : Value} {room : Nat} {l : List UInt8} {bad : Int} (h : WAt w wb v room l bad) : Left wb v room (l, bad) w w := ⟨v, h, Turns.refl _ _, fun _ hk _ => hk⟩

theorem put_any (p : Option Addr) (n c : Nat) (ls : List (List UInt8)) (wb : Nat) (v : Value) (room : Nat) (l : List UInt8) (bad : Int) (fits : Bool) (w : World) (h : WAt w wb v room l bad)
    (hP : ∀ w', Turns (foot wb v) w w' → Pts w' p n c ls) (hs : total ls ≤ 70368744177664) (hl : l.length ≤ 70368744177664) :
    Calls Tryz.prog 118 #[.pointer (some ⟨wb, 0, none⟩), .bool fits, .slice p n c] w fun e w' => e = .returned (.tuple #[]) ∧ Left wb v room (putS room l bad fits ls) w w' := by
  by_cases hb : bad = 0
  · subst hb
    exact put_sum p n c ls wb v room l fits w h hP hs hl
  · obtain ⟨c0, c1, c2, c3, f2, f3⟩ := h.cells
    have hb' : (bad != 0) = true := by simp [hb]
    have HL : Hid (Left wb v room (putS room l bad fits ls) w w) := by
      show Left _ _ _ _ _ _
      rw [putS, if_neg hb]; exact Left.refl h
    clear h hP
    go_enter Tryz.func118, Tryz.ntmps118
    go_wp2_with (go_at_call 128; refine (none_made _ _ c0).mono ?_; rintro e w' ⟨rfl, rfl⟩)
    refine bodyPost_ret (results_none rfl _ _ _) rfl ?_
    exact ⟨rfl, HL.out⟩

/-- what a part's slices in a new row are, while the writer's own blocks turn -/
theorem stable1 {w : World} {S : Nat → Prop} {p : Option Addr} {n c b : Nat} {l : List UInt8} (hB : ∀ w', Turns S w w' → Bs w' p n c l) (hS : ∀ k, S k → k < w.heap.size) (t : TypeId) (hb : b = w.heap.size) :
    ∀ w', Turns S (w.alloc (.cells #[.slice p n c] t)) w' → Pts w' (some ⟨b, 0, none⟩) 1 1 [l] := by
  intro w' ht
  subst hb
  have hT : Turns S w w' := ((Turns.refl S w).alloc _).trans ht (fun _ _ h => h)
  have hrow : w'.heap[w.heap.size]? = some (.cells #[.slice p n c] t) := ht.keep (heap_alloc_last _ _) (fun h => by have := hS _ h; omega)
  refine ⟨rfl, Nat.le_refl _, by omega, fun h => (by cases h), fun a ha j hj => ?_⟩
  obtain rfl := Option.some.inj ha
  obtain rfl : j = 0 := by simp at hj; omega
  exact ⟨p, n, c, by rw [add_none, cell_of_row _ _ _ _ _ _ hrow]; rfl, hB w' hT⟩

theorem Left.alloc {w : World} {wb : Nat} {v : Value} {room : Nat} {r : List UInt8 × Int} {o : Obj} {w' : World} (h : Left wb v room r (w.alloc o) w') : Left wb v room r w w' := by
  obtain ⟨v', h1, h2, h3⟩ := h
  exact ⟨v', h1, ((Turns.refl _ w).alloc o).trans h2 (fun _ _ h => h), fun k hk hlt => h3 k hk (by simp; omega)⟩
theorem WAt.alloc {w : World} {wb : Nat} {v : Value} {room : Nat} {l : List UInt8} {bad : Int} (h : WAt w wb v room l bad) (o : Obj) : WAt (w.alloc o) wb v room l bad :=
  h.touch (S := fun _ => False) ((Turns.refl _ w).alloc o) (fun _ _ h => h)

theorem bytes_any (p : Option Addr) (n c : Nat) (b : List UInt8) (wb : Nat) (v : Value) (room : Nat) (l : List UInt8) (bad : Int) (w : World) (h : WAt w wb v room l bad)
    (hB : ∀ w', Turns (foot wb v) w w' → Bs w' p n c b) (hs : b.length ≤ 70368744177664) (hl : l.length ≤ 70368744177664) :
    Calls Tryz.prog 82 #[.pointer (some ⟨wb, 0, none⟩), .slice p n c] w fun e w' => e = .returned (.tuple #[]) ∧ Left wb v room (putS room l bad true [b]) w w' := by
  have hle := (hB w (Turns.refl _ _)).le
  have hmax := (hB w (Turns.refl _ _)).max
  have HS := Lib.hid (fun t b hb => stable1 hB h.lt t hb (b := b))
  have HW := Lib.hid h
  clear hB h
  go_enter Tryz.func82, Tryz.ntmps82
  go_wp2_with (go_at_call 118; refine (put_any _ _ _ [b] wb v room l bad true _ (HW.out.alloc _) (HS.out _ _ rfl) (by simpa [total] using hs) hl).mono ?_; rintro e w1 ⟨rfl, hl1⟩)
  go_end0
  exact ⟨rfl, hl1.alloc⟩

theorem err_any (wb : Nat) (v : Value) (room : Nat) (l : List UInt8) (bad : Int) (w : World) (h : WAt w wb v room l bad) :
    Calls Tryz.prog 119 #[.pointer (some ⟨wb, 0, none⟩)] w fun e w' => e = .returned (.int .i64 bad) ∧ w = w' := by
  obtain ⟨c0, c1, c2, c3, f2, f3⟩ := h.cells
  clear h
  go_enter Tryz.func119, Tryz.ntmps119
  go_wp2_with (go_at_call 128; refine (none_made _ _ c0).mono ?_; rintro e w' ⟨rfl, rfl⟩)
  go_ret
  exact ⟨rfl, rfl⟩

theorem done_any (wb : Nat) (v : Value) (room : Nat) (l : List UInt8) (bad : Int) (w : World) (h : WAt w wb v room l bad) (hl : l.length ≤ 140737488355328) :
    Calls Tryz.prog 83 #[.pointer (some ⟨wb, 0, none⟩)] w fun e w' =>
      (∃ p n c, e = .returned (.tuple #[.slice p n c, .int .i64 bad]) ∧ w'.ownsRow w.heap.size 5 1 (.slice p n c) n (bytesV (if bad = 0 then l else []))) ∧ Below w.heap.size w w' := by
  obtain ⟨pv, cv, hv, hsv⟩ := own_sl h.own
  subst hv
  obtain ⟨c0, c1, c2, c3, f2, f3⟩ := h.cells
  have HW := Lib.hid h
  have HV := Lib.hid hsv
  clear h hsv
  by_cases hb : bad = 0
  · subst hb
    have hbd : Hid (0 + l.length ≤ 9223372036854775807 ∧ (0 + l.length) * 1 ≤ 140737488355328) := by
      show _ ∧ _; omega
    go_enter Tryz.func83, Tryz.ntmps83
    go_wp2_with (first | (go_at_call 119; refine (err_any _ _ _ _ _ _ HW.out).mono ?_; rintro e w' ⟨rfl, rfl⟩) | (at_builtin; refine wpList_append_nx rfl _ _ 22 rfl (base := w.heap.size) Tryz.underlying22 infoB rfl (by omega) rfl (World.ownsRow_nil _ _ _ _) rfl HV.out (bytesV_one _) hbd.out (Nat.le_refl _) ?_))
    intro p' c' w1 hown hg hnx hne
    have HO : Hid (w1.ownsRow w.heap.size 5 1 (.slice p' (0 + l.length) c') (0 + l.length) (bytesV (if (0 : Int) = 0 then l else []))) := by
      show World.ownsRow _ _ _ _ _ _ _
      simpa using hown
    have HG : Hid (Below w.heap.size w w1) := (Below.refl _ _).grown hg (Nat.le_refl _) (fun k hk => by simp [Value.ownBlock] at hk)
    clear hown hg hnx hne
    go_wp2
    go_ret2
    refine ⟨⟨p', _, c', rfl, ?_⟩, HG.out⟩
    have := HO.out
    rw [Nat.zero_add] at this
    exact this
  · have hb' : (bad != 0) = true := by simp [hb]
    go_enter Tryz.func83, Tryz.ntmps83
    go_wp2_with (go_at_call 119; refine (err_any _ _ _ _ _ _ HW.out).mono ?_; rintro e w' ⟨rfl, rfl⟩)
    go_ret2
    have ho : w.ownsRow w.heap.size 5 1 (.slice none 0 0) 0 (bytesV (if bad = 0 then l else [])) := by rw [if_neg hb]; exact World.ownsRow_nil _ _ _ _
    exact ⟨⟨none, 0, 0, rfl, by simpa [hb] using ho⟩, Below.refl _ _⟩

theorem new_any (room : Int) (w : World) (hr : room ≤ 9223372036854775807) :
    Calls Tryz.prog 80 #[.int .i64 room] w fun e w' => e = .returned (.pointer (some ⟨w.heap.size, 0, none⟩)) ∧ WAt w' w.heap.size (.slice none 0 0) room.toNat [] 0 ∧ Below w.heap.size w w' := by
  have key : Hid (∀ x : Int, x = (room.toNat : Int) → WAt (w.alloc (.cells #[.bool true, .int .i64 x, .slice none 0 0, .int .i64 0] 205)) w.heap.size (.slice none 0 0) room.toNat [] 0) := by
    intro x hx
    subst hx
    exact ⟨heap_alloc_last _ _, World.ownsRow_nil _ _ _ _, by simp [Value.ownBlock], by simp, by omega⟩
  go_enter Tryz.func80, Tryz.ntmps80
  go_wp2
  all_goals
    go_ret
    exact ⟨rfl, key.out _ (by omega), Below.allocs _ _⟩

end Go.Proofs.YtnejjfglkindjaaGreatDoor.Wr
