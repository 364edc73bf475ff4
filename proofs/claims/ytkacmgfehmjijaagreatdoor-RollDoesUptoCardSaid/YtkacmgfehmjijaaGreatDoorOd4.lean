/- PARTS, JOINED: THE WALKS OF A DISK: a step to a file; bytes put, a cut, a sync. Conditions: none. THE WALKS OF A DISK: bytes put, a cut, a sync. Conditions: none. THE WALKS OF A DISK: what is asked wrongly; what a file keeps; sizes and units. Conditions: none. A DISK CLONED. Conditions: none. WHAT A CALL LEAVES OF A DISK, whatever is asked; what calls do, one behind the other. Conditions: none. THE WALKS OF A DISK: a crash that keeps some units. Conditions: none. SLICES OF BYTES, CUT: b[k:k+m], b[:m], b[k:]. Conditions: none. THE REFERENCE'S DISK IN MEMORY; Units. Conditions: sizes that fit. THE REFERENCE'S DISK: Done, Holds. Conditions: sizes that fit. -/
import Derived.Test.YtkacmgfehmjijaaGreatDoorOd1
import Derived.Test.YtkacmgfehmjijaaGreatDoorOd2
import Derived.Test.YtkacmgfehmjijaaGreatDoorOd3
import Derived.Laws.Tables
import Derived.Laws.CopyOwn
import Derived.Test.YtkacmgfehmjijaaGreatDoorChecked
namespace Go.Proofs.YtkacmgfehmjijaaGreatDoor.Dk
open Go.RowKit Go.Mir

theorem LeftD.row {w w' : World} {base db : Nat} {vs : List FV} {d d' : DD} (h : DAt w base db vs d) (hd : DAt w' base db vs d') (ht : Turns (fun k => k = db) w w') : LeftD base db vs d' w w' :=
  ⟨vs, hd, ht.imp (fun k _ hk => .inl hk), fun k hk => .inl hk⟩
theorem LeftD.trans {w w1 w2 : World} {base db : Nat} {vs vs1 : List FV} {d2 : DD} (h0 : ∀ k, DOwn db vs1 k → DOwn db vs k ∨ w.heap.size ≤ k) (ht : Turns (DOwn db vs) w w1) (h : LeftD base db vs1 d2 w1 w2) : LeftD base db vs d2 w w2 := by
  obtain ⟨vs2, hd, ht2, hn⟩ := h
  refine ⟨vs2, hd, ht.trans ht2 (fun k hk hs => ?_), fun k hk => ?_⟩
  · rcases h0 k hs with h | h
    · exact h
    · omega
  · rcases hn k hk with hn | hn
    · exact h0 k hn
    · exact .inr (Nat.le_trans ht.size hn)
/-- what a step answers -/
def doE (d : DD) (i : Nat) (f : FD) (s : St) : Int :=
  if d.down = true then 18 else if d.room < usedL d.fs - f.need + max f.need (s.size f.now.length) then 17 else if (setF d i (f.take s)).burn.down = true then 18 else 0
def doD (d : DD) (i : Nat) (f : FD) (s : St) : DD :=
  if d.down = true then d else if d.room < usedL d.fs - f.need + max f.need (s.size f.now.length) then d else (setF d i (f.take s)).burn

set_option maxRecDepth 100000 in
theorem do_out {base db : Nat} {vs : List FV} {d : DD} (w : World) (h : DAt w base db vs d) (n : Int) (hn : n < 0 ∨ 3 ≤ n) (sv : Value) (hsv : (∃ v, sv = .iface 81 v) ∨ ∃ z, sv = .iface 106 (.agg #[.int .i64 z])) :
    Calls Tryz.prog 39 #[.pointer (some ⟨db, 0, none⟩), .int .i64 n, sv] w fun e w' => e = .returned (.int .i64 1) ∧ Below w.heap.size w w' := by
  have H := Lib.hid h
  have HN := Lib.hid hn
  clear h hn
  rcases hsv with ⟨v, rfl⟩ | ⟨z, rfl⟩
  · have hta := ta_pc v
    go_enter Tryz.func39, Tryz.ntmps39
    go_wp2_with fail
    refine (at_out w H.out n HN.out).mono ?_
    rintro e w' ⟨rfl, rfl⟩
    have hb := Below.allocs w (.cells #[.int .i64 0] 106)
    have HB := Lib.hid hb
    have HA := Lib.hid (H.out.below hb)
    clear hb
    go_upto_region 3 with fail
    generalize w.alloc (.cells #[.int .i64 0] 106) = w1 at *
    go_wp2_with fail
    refine (none_any _ HA.out).mono ?_
    rintro e w' ⟨rfl, rfl⟩
    go_wp2_with fail
    refine wp_region_grow (by kernel_rfl) (by kernel_rfl) ?_
    repeat (first
      | ((with_reducible refine wpQuietGd ?_); (with_reducible refine wpQuiet_skip ?_ ?_); (· rfl); simp only [Act.put, List.setIfInBounds_toArray, List.set_cons_zero, List.set_cons_succ])
      | quiet_step (fail))
    refine wpQuiet_nil ?_
    intro w2 hb2
    have HB2 := Lib.hid (HB.out.trans (hb2.mono HB.out.size))
    clear hb2
    go_wp2_with fail
    go_ret
    exact ⟨rfl, HB2.out⟩
  · have hta := ta_cc (.agg #[.int .i64 z])
    go_enter Tryz.func39, Tryz.ntmps39
    go_wp2_with fail
    refine (at_out w H.out n HN.out).mono ?_
    rintro e w' ⟨rfl, rfl⟩
    have hb := Below.allocs w (.cells #[.int .i64 z] 106)
    have HB := Lib.hid hb
    have HA := Lib.hid (H.out.below hb)
    clear hb
    go_upto_region 3 with fail
    generalize w.alloc (.cells #[.int .i64 z] 106) = w1 at *
    go_wp2_with fail
    refine (none_any _ HA.out).mono ?_
    rintro e w' ⟨rfl, rfl⟩
    go_wp2_with fail
    refine wp_region_grow (by kernel_rfl) (by kernel_rfl) ?_
    repeat (first
      | ((with_reducible refine wpQuietGd ?_); (with_reducible refine wpQuiet_skip ?_ ?_); (· rfl); simp only [Act.put, List.setIfInBounds_toArray, List.set_cons_zero, List.set_cons_succ])
      | quiet_step (fail))
    refine wpQuiet_nil ?_
    intro w2 hb2
    have HB2 := Lib.hid (HB.out.trans (hb2.mono HB.out.size))
    clear hb2
    go_wp2_with fail
    go_ret
    exact ⟨rfl, HB2.out⟩

theorem used_grow {base db : Nat} {vs : List FV} {d : DD} (w : World) (h : DAt w base db vs d) : Calls Tryz.prog 47 #[.pointer (some ⟨db, 0, none⟩)] w fun e w' => e = .returned (.int .i64 (usedL d.fs : Int)) ∧ Below w.heap.size w w' :=
  (used_any w h).mono fun e w' ⟨h1, h2⟩ => ⟨h1, h2 ▸ Below.refl _ _⟩
theorem units_fit {s : St} {d : DD} {f : FD} {n1 : Nat} (_h : n1 = max f.need (s.size f.now.length)) (hle : ¬ d.room < usedL d.fs - f.need + max f.need (s.size f.now.length)) (hr : d.room ≤ 65536) (_hu : s.units ≤ 140737488355328) : s.units ≤ 65536 := by
  cases s with
  | put b => simp only [St.size, St.units] at *; omega
  | cut n => simp only [St.units]; omega
def DoP (base db : Nat) (vs : List FV) (d : DD) (i : Nat) (f : FD) (s : St) (w : World) (e : Ending) (w' : World) : Prop := e = .returned (.int .i64 (doE d i f s)) ∧ LeftD base db vs (doD d i f s) w w'
set_option maxRecDepth 100000 in
set_option maxHeartbeats 1600000 in
theorem do_in {base db : Nat} {vs : List FV} {d : DD} (w : World) (h : DAt w base db vs d) (hbase : base ≤ w.heap.size) (i : Nat) (hi : i < d.fs.length) (f : FD) (hf : d.fs[i] = f) (sv : Value) (s : St) (hs : StAt w base sv s)
    (hok : s.ok f.now.length) (hu : s.units ≤ 140737488355328) (hfew : f.steps.length + 1 ≤ 4398046511104) :
    Calls Tryz.prog 39 #[.pointer (some ⟨db, 0, none⟩), .int .i64 (i : Int), sv] w (DoP base db vs d i f s w) := by
  have hv : i < vs.length := by have := h.n3; have := h.m3; omega
  have hi3 : i < 3 := by have := h.m3; omega
  have hF := h.each i _ _ (List.getElem?_eq_getElem hv) (List.getElem?_eq_getElem hi)
  rw [hf] at hF
  have HND : Hid ((vs[i]'hv).nd = f.need) := hF.need
  have hle := usedL_mem hi
  rw [hf] at hle
  have hused := h.used
  have hroom1 := h.room1
  have HROOM := Lib.hid hroom1.2
  have HNL : Hid (f.now.length ≤ 65536) := by have := hF.ok.le; show _ ≤ _; omega
  obtain ⟨U, hU⟩ : ∃ U, U = usedL d.fs := ⟨_, rfl⟩
  have HUE := Lib.hid hU
  rw [← hU] at hle hused
  obtain ⟨z, hz⟩ : ∃ z, z = s.size f.now.length := ⟨_, rfl⟩
  have HZE := Lib.hid hz
  have HZL : Hid (z ≤ 281474976710656) := by
    show _ ≤ _
    rw [hz]
    have := HNL.out
    cases s with
    | put b => simp only [St.size, St.units] at *; omega
    | cut n => simp only [St.size, St.ok] at *; omega
  obtain ⟨n1, hn1⟩ : ∃ n1, n1 = max f.need z := ⟨_, rfl⟩
  have HN1 := Lib.hid hn1
  have HN1M : Hid (max f.need (s.size f.now.length) = n1) := by show _ = _; rw [← hz, hn1]
  have HN1L : Hid (n1 ≤ 281474976776192) := by have := HZL.out; show _ ≤ _; omega
  have HMX1 : Hid ((if ((f.need : Nat) : Int) < ((z : Nat) : Int) then ((z : Nat) : Int) else ((f.need : Nat) : Int)) = (n1 : Int) ∧ (if f.need < z then ((z : Nat) : Int) else ((f.need : Nat) : Int)) = (n1 : Int)) := by
    show _ ∧ _
    constructor <;> (split <;> omega)
  have H := Lib.hid h
  have HFE := Lib.hid hf
  have HS := Lib.hid hs
  have HOKS := Lib.hid hok
  have HUS := Lib.hid hu
  have HFEW := Lib.hid hfew
  have HBASE := Lib.hid hbase
  have HI := Lib.hid hi
  have HFF := Lib.hid hF
  have HV := Lib.hid hv
  clear hn1 hz hU hF hf h hu hfew
  cases s with
  | put b =>
    obtain ⟨bv, rfl, hrd⟩ := hs
    obtain ⟨p, c, rfl, hbs⟩ := hrd.bs
    clear hrd hbs hok
    obtain ⟨SV, hSV⟩ : ∃ SV, SV = Value.iface 81 (.agg #[.slice p b.length c]) := ⟨_, rfl⟩
    have hta : ∀ w, (Instr.typeAssert SV 108 106 true).run Tryz.prog w = .ok (.tuple #[.agg #[.int .i64 0], .bool false]) w := fun w => by rw [hSV]; exact ta_pc _ w
    rw [← hSV] at HS ⊢
    clear hSV
    go_enter Tryz.func39, Tryz.ntmps39
    go_wp2_with fail
    refine (at_in w H.out i hi3).mono ?_
    rintro e w' ⟨rfl, rfl⟩
    have hb := Below.allocs w (.cells #[.int .i64 0] 106)
    have HB := Lib.hid hb
    have HA := Lib.hid (H.out.below hb)
    clear hb
    go_upto_region 3 with fail
    generalize w.alloc (.cells #[.int .i64 0] 106) = w1 at *
    go_wp2_with fail
    refine (none_any _ HA.out).mono ?_
    rintro e w' ⟨rfl, rfl⟩
    clear hta
    go_wp2_with fail
    refine wp_region_grow (by kernel_rfl) (by kernel_rfl) ?_
    repeat (first
      | ((with_reducible refine wpQuietGd ?_); (with_reducible refine wpQuiet_skip ?_ ?_); (· rfl); simp only [Act.put, List.setIfInBounds_toArray, List.set_cons_zero, List.set_cons_succ])
      | quiet_step (fail))
    refine wpQuiet_nil ?_
    intro w2 hb2
    have HBx := Lib.hid (HB.out.trans (hb2.mono HB.out.size))
    have HAx := Lib.hid (HA.out.below hb2)
    clear hb2 HB HA w1
    have HB := HBx
    have HA := HAx
    clear HBx HAx
    generalize hst : St.put b = s at *
    clear hst
    generalize hw2 : w2 = w1 at *
    clear hw2 w2
    have HDN1 := Lib.hid (HA.out.cells.2.2.1)
    cases hdn : d.down with
    | true =>
      have hc := HDN1.out
      rw [hdn] at hc
      have HFIN : Hid (∀ w', Below w.heap.size w w' → DoP base db vs d i f s w (.returned (.int .i64 18)) w') := fun w' hb => by
        refine ⟨by unfold doE; rw [if_pos hdn], vs, ?_, Turns.of_below hb, fun k hk => .inl hk⟩
        unfold doD
        rw [if_pos hdn]
        exact H.out.below hb
      clear hdn
      go_wp2_with fail
      go_ret
      exact HFIN.out _ HB.out
    | false =>
      have HDN := Lib.hid hdn
      have hc := HDN1.out
      rw [hdn] at hc
      clear hdn
      go_upto_region 9 with fail
      have hcn := (HA.out.file i HV.out).2.2.2
      rw [HND.out] at hcn
      have hcr := HA.out.cells.1
      have hg1 := cell_grown hcn
      have hg2 := cell_grown hcr
      have HAFT : Hid (∀ y : Grown w1, Calls Tryz.prog 65 #[.pointer (some ⟨db, i * 4, none⟩), SV] y.v fun e w' => e = .returned (.int .i64 (z : Int)) ∧ Below y.v.heap.size y.v w') := fun y => by
        have := after_any y.v (HA.out.below y.b) i HI.out SV s (HS.out.touch (Turns.of_below (S := fun _ => False) (HB.out.trans (y.b.mono HB.out.size))) (fun _ _ _ _ h => h)) (by rw [HFE.out]; have := HZL.out; rw [HZE.out] at this; omega)
        rw [HFE.out, ← HZE.out] at this
        exact this
      have HUSE : Hid (∀ y : Grown w1, Calls Tryz.prog 47 #[.pointer (some ⟨db, 0, none⟩)] y.v fun e w' => e = .returned (.int .i64 (U : Int)) ∧ Below y.v.heap.size y.v w') := fun y => by
        have := used_grow y.v (HA.out.below y.b)
        rwa [← HUE.out] at this
      obtain ⟨hmx1, hmx2⟩ := HMX1.out
      have hsub : (U : Int) - (f.need : Int) = ((U - f.need : Nat) : Int) := by omega
      have hws : IntKind.i64.wrap ((U : Int) - (f.need : Int)) = ((U - f.need : Nat) : Int) := by rw [hsub]; exact IntWalk.i64_in _ (by omega)
      have hws2 : IntKind.i64.wrap ((U - f.need : Nat) : Int) = ((U - f.need : Nat) : Int) := IntWalk.i64_in _ (by omega)
      have hwa : IntKind.i64.wrap (((U - f.need : Nat) : Int) + (n1 : Int)) = ((U - f.need : Nat) : Int) + (n1 : Int) := IntWalk.i64_in _ (by have := HN1L.out; omega)
      refine wp_region_grow (by kernel_rfl) (by kernel_rfl) ?_
      repeat (first
        | ((with_reducible refine wpQuietGd ?_); (with_reducible refine wpQuiet_skip ?_ ?_); (· rfl); simp only [Act.put, List.setIfInBounds_toArray, List.set_cons_zero, List.set_cons_succ])
        | quiet_step ((first | (go_at_call 65; exact Calls.grow_of (HAFT.out _)) | (go_at_call 47; exact Calls.grow_of (HUSE.out _)))))
      refine wpQuiet_nil ?_
      intro w2 hb2
      have HA2 := Lib.hid (HA.out.below hb2)
      have HB2 := Lib.hid (HB.out.trans (hb2.mono HB.out.size))
      clear hb2 hg1 hg2 hcn hcr hc HAFT HUSE hws hws2 hwa hsub hmx1 hmx2
      by_cases hbig : (d.room : Int) < ((U - f.need : Nat) : Int) + (n1 : Int)
      · have e1 : decide ((d.room : Int) < ((U - f.need : Nat) : Int) + (n1 : Int)) = true := decide_eq_true hbig
        have e2 : decide (d.room < U - f.need + n1) = true := decide_eq_true (by omega)
        have HFIN : Hid (∀ w', Below w.heap.size w w' → DoP base db vs d i f s w (.returned (.int .i64 17)) w') := fun w' hb => by
          have hgt : d.room < usedL d.fs - f.need + max f.need (s.size f.now.length) := by
            have := HN1.out; have := HUE.out; have := HZE.out; have := HN1M.out; omega
          refine ⟨by unfold doE; rw [HDN.out, if_neg (by decide), if_pos hgt], vs, ?_, Turns.of_below hb, fun k hk => .inl hk⟩
          unfold doD
          rw [HDN.out, if_neg (by decide), if_pos hgt]
          exact H.out.below hb
        go_wp2_with fail
        go_ret
        exact HFIN.out _ HB2.out
      · have e1 : decide ((d.room : Int) < ((U - f.need : Nat) : Int) + (n1 : Int)) = false := decide_eq_false hbig
        have e2 : decide (d.room < U - f.need + n1) = false := decide_eq_false (by omega)
        have HLE : Hid (¬ d.room < usedL d.fs - f.need + max f.need (s.size f.now.length)) := by
          have := HN1.out; have := HUE.out; have := HZE.out; have := HN1M.out; show ¬ _; omega
        have HTK := Lib.hid (take_any w2 HA2.out (Nat.le_trans HBASE.out HB2.out.size) i HI.out f HFE.out SV s (HS.out.touch (Turns.of_below (S := fun _ => False) HB2.out) (fun _ _ _ _ h => h)) HOKS.out (units_fit HN1M.out.symm HLE.out HROOM.out HUS.out) HFEW.out (by have := HLE.out; show usedL d.fs - f.need + max f.need (s.size f.now.length) ≤ d.room; omega))
        have hbig2 : ((U - f.need : Nat) : Int) + (n1 : Int) ≤ (d.room : Int) := by omega
        go_wp2_with fail
        clear hbig hbig2
        refine (HTK.out).mono ?_
        rintro e w3 ⟨rfl, vs3, hd3, ht3, hn3⟩
        have HD3 := Lib.hid hd3
        have HT3 : Hid (Turns (DOwn db vs) w w3) := (Turns.of_below HB2.out).trans ht3 (fun _ _ h => h)
        have HN3 : Hid (∀ k, DOwn db vs3 k → DOwn db vs k ∨ w.heap.size ≤ k) := fun k hk => (hn3 k hk).imp id (fun h => Nat.le_trans HB2.out.size h)
        have HBN := Lib.hid (burn_any w3 hd3)
        clear hd3 ht3 hn3 HTK
        go_wp2_with fail
        refine (HBN.out).mono ?_
        rintro e w4 ⟨rfl, hd4, ht4⟩
        have HFIN : Hid (∀ v, v = doE d i f s → DoP base db vs d i f s w (.returned (.int .i64 v)) w4) := fun v hv => by
          refine ⟨by rw [hv], ?_⟩
          have := LeftD.trans HN3.out HT3.out (LeftD.row HD3.out hd4 ht4)
          unfold doD
          rw [HDN.out, if_neg (by decide), if_neg HLE.out]
          exact this
        have HDE : Hid (doE d i f s = if (setF d i (f.take s)).burn.down = true then 18 else 0) := by show _ = _; unfold doE; rw [HDN.out, if_neg (by decide), if_neg HLE.out]
        clear hd4 ht4
        cases hbd : (setF d i (f.take s)).burn.down with
        | true =>
          have HV18 := Lib.hid (HFIN.out 18 (by rw [HDE.out, hbd]; rfl))
          clear hbd
          go_wp2_with fail
          go_ret
          exact HV18.out
        | false =>
          have HV0 := Lib.hid (HFIN.out 0 (by rw [HDE.out, hbd]; rfl))
          clear hbd
          go_wp2_with fail
          go_ret
          exact HV0.out
  | cut m =>
    cases hs
    obtain ⟨SV, hSV⟩ : ∃ SV, SV = Value.iface 106 (.agg #[.int .i64 (m : Int)]) := ⟨_, rfl⟩
    have hta : ∀ w, (Instr.typeAssert SV 108 106 true).run Tryz.prog w = .ok (.tuple #[.agg #[.int .i64 (m : Int)], .bool true]) w := fun w => by rw [hSV]; exact ta_cc _ w
    rw [← hSV] at HS ⊢
    have hmn : m ≤ f.now.length := hok
    clear hSV hok
    go_enter Tryz.func39, Tryz.ntmps39
    go_wp2_with fail
    refine (at_in w H.out i hi3).mono ?_
    rintro e w' ⟨rfl, rfl⟩
    have hb := Below.allocs w (.cells #[.int .i64 (m : Int)] 106)
    have HB := Lib.hid hb
    have HA := Lib.hid (H.out.below hb)
    have hcm : (w.alloc (.cells #[.int .i64 (m : Int)] 106)).cell? ⟨w.heap.size, 0, none⟩ = some (.int .i64 (m : Int)) := by rw [cell_of_row _ _ _ _ _ _ (heap_alloc_last _ _)]; rfl
    clear hb
    go_upto_region 3 with fail
    generalize w.alloc (.cells #[.int .i64 (m : Int)] 106) = w1 at *
    go_wp2_with fail
    refine (none_any _ HA.out).mono ?_
    rintro e w' ⟨rfl, rfl⟩
    clear hta
    obtain ⟨pn, cn, hnv, hbn⟩ := HFF.out.now.bs
    have hc1 := (HA.out.file i HV.out).2.1
    rw [hnv] at hc1
    have hg1 := cell_grown hc1
    have hg2 := cell_grown hcm
    have hm0 : decide ((m : Int) < 0) = false := decide_eq_false (by omega)
    have hm1 : decide ((f.now.length : Int) < (m : Int)) = false := decide_eq_false (by omega)
    have hm2 : decide (f.now.length < m) = false := decide_eq_false (by omega)
    clear hbn hnv
    go_upto_region 5 with fail
    refine wp_region_grow (by kernel_rfl) (by kernel_rfl) ?_
    repeat (first
      | ((with_reducible refine wpQuietGd ?_); (with_reducible refine wpQuiet_skip ?_ ?_); (· rfl); simp only [Act.put, List.setIfInBounds_toArray, List.set_cons_zero, List.set_cons_succ])
      | quiet_step (fail))
    refine wpQuiet_nil ?_
    intro w2 hb2
    have HBx := Lib.hid (HB.out.trans (hb2.mono HB.out.size))
    have HAx := Lib.hid (HA.out.below hb2)
    clear hb2 HB HA hg1 hg2 hcm hc1 hm0 hm1 hm2 hmn w1
    have HB := HBx
    have HA := HAx
    clear HBx HAx
    generalize hst : St.cut m = s at *
    clear hst
    generalize hw2 : w2 = w1 at *
    clear hw2 w2
    have HDN1 := Lib.hid (HA.out.cells.2.2.1)
    cases hdn : d.down with
    | true =>
      have hc := HDN1.out
      rw [hdn] at hc
      have HFIN : Hid (∀ w', Below w.heap.size w w' → DoP base db vs d i f s w (.returned (.int .i64 18)) w') := fun w' hb => by
        refine ⟨by unfold doE; rw [if_pos hdn], vs, ?_, Turns.of_below hb, fun k hk => .inl hk⟩
        unfold doD
        rw [if_pos hdn]
        exact H.out.below hb
      clear hdn
      go_wp2_with fail
      go_ret
      exact HFIN.out _ HB.out
    | false =>
      have HDN := Lib.hid hdn
      have hc := HDN1.out
      rw [hdn] at hc
      clear hdn
      go_upto_region 9 with fail
      have hcn := (HA.out.file i HV.out).2.2.2
      rw [HND.out] at hcn
      have hcr := HA.out.cells.1
      have hg1 := cell_grown hcn
      have hg2 := cell_grown hcr
      have HAFT : Hid (∀ y : Grown w1, Calls Tryz.prog 65 #[.pointer (some ⟨db, i * 4, none⟩), SV] y.v fun e w' => e = .returned (.int .i64 (z : Int)) ∧ Below y.v.heap.size y.v w') := fun y => by
        have := after_any y.v (HA.out.below y.b) i HI.out SV s (HS.out.touch (Turns.of_below (S := fun _ => False) (HB.out.trans (y.b.mono HB.out.size))) (fun _ _ _ _ h => h)) (by rw [HFE.out]; have := HZL.out; rw [HZE.out] at this; omega)
        rw [HFE.out, ← HZE.out] at this
        exact this
      have HUSE : Hid (∀ y : Grown w1, Calls Tryz.prog 47 #[.pointer (some ⟨db, 0, none⟩)] y.v fun e w' => e = .returned (.int .i64 (U : Int)) ∧ Below y.v.heap.size y.v w') := fun y => by
        have := used_grow y.v (HA.out.below y.b)
        rwa [← HUE.out] at this
      obtain ⟨hmx1, hmx2⟩ := HMX1.out
      have hsub : (U : Int) - (f.need : Int) = ((U - f.need : Nat) : Int) := by omega
      have hws : IntKind.i64.wrap ((U : Int) - (f.need : Int)) = ((U - f.need : Nat) : Int) := by rw [hsub]; exact IntWalk.i64_in _ (by omega)
      have hws2 : IntKind.i64.wrap ((U - f.need : Nat) : Int) = ((U - f.need : Nat) : Int) := IntWalk.i64_in _ (by omega)
      have hwa : IntKind.i64.wrap (((U - f.need : Nat) : Int) + (n1 : Int)) = ((U - f.need : Nat) : Int) + (n1 : Int) := IntWalk.i64_in _ (by have := HN1L.out; omega)
      refine wp_region_grow (by kernel_rfl) (by kernel_rfl) ?_
      repeat (first
        | ((with_reducible refine wpQuietGd ?_); (with_reducible refine wpQuiet_skip ?_ ?_); (· rfl); simp only [Act.put, List.setIfInBounds_toArray, List.set_cons_zero, List.set_cons_succ])
        | quiet_step ((first | (go_at_call 65; exact Calls.grow_of (HAFT.out _)) | (go_at_call 47; exact Calls.grow_of (HUSE.out _)))))
      refine wpQuiet_nil ?_
      intro w2 hb2
      have HA2 := Lib.hid (HA.out.below hb2)
      have HB2 := Lib.hid (HB.out.trans (hb2.mono HB.out.size))
      clear hb2 hg1 hg2 hcn hcr hc HAFT HUSE hws hws2 hwa hsub hmx1 hmx2
      by_cases hbig : (d.room : Int) < ((U - f.need : Nat) : Int) + (n1 : Int)
      · have e1 : decide ((d.room : Int) < ((U - f.need : Nat) : Int) + (n1 : Int)) = true := decide_eq_true hbig
        have e2 : decide (d.room < U - f.need + n1) = true := decide_eq_true (by omega)
        have HFIN : Hid (∀ w', Below w.heap.size w w' → DoP base db vs d i f s w (.returned (.int .i64 17)) w') := fun w' hb => by
          have hgt : d.room < usedL d.fs - f.need + max f.need (s.size f.now.length) := by
            have := HN1.out; have := HUE.out; have := HZE.out; have := HN1M.out; omega
          refine ⟨by unfold doE; rw [HDN.out, if_neg (by decide), if_pos hgt], vs, ?_, Turns.of_below hb, fun k hk => .inl hk⟩
          unfold doD
          rw [HDN.out, if_neg (by decide), if_pos hgt]
          exact H.out.below hb
        go_wp2_with fail
        go_ret
        exact HFIN.out _ HB2.out
      · have e1 : decide ((d.room : Int) < ((U - f.need : Nat) : Int) + (n1 : Int)) = false := decide_eq_false hbig
        have e2 : decide (d.room < U - f.need + n1) = false := decide_eq_false (by omega)
        have HLE : Hid (¬ d.room < usedL d.fs - f.need + max f.need (s.size f.now.length)) := by
          have := HN1.out; have := HUE.out; have := HZE.out; have := HN1M.out; show ¬ _; omega
        have HTK := Lib.hid (take_any w2 HA2.out (Nat.le_trans HBASE.out HB2.out.size) i HI.out f HFE.out SV s (HS.out.touch (Turns.of_below (S := fun _ => False) HB2.out) (fun _ _ _ _ h => h)) HOKS.out (units_fit HN1M.out.symm HLE.out HROOM.out HUS.out) HFEW.out (by have := HLE.out; show usedL d.fs - f.need + max f.need (s.size f.now.length) ≤ d.room; omega))
        have hbig2 : ((U - f.need : Nat) : Int) + (n1 : Int) ≤ (d.room : Int) := by omega
        go_wp2_with fail
        clear hbig hbig2
        refine (HTK.out).mono ?_
        rintro e w3 ⟨rfl, vs3, hd3, ht3, hn3⟩
        have HD3 := Lib.hid hd3
        have HT3 : Hid (Turns (DOwn db vs) w w3) := (Turns.of_below HB2.out).trans ht3 (fun _ _ h => h)
        have HN3 : Hid (∀ k, DOwn db vs3 k → DOwn db vs k ∨ w.heap.size ≤ k) := fun k hk => (hn3 k hk).imp id (fun h => Nat.le_trans HB2.out.size h)
        have HBN := Lib.hid (burn_any w3 hd3)
        clear hd3 ht3 hn3 HTK
        go_wp2_with fail
        refine (HBN.out).mono ?_
        rintro e w4 ⟨rfl, hd4, ht4⟩
        have HFIN : Hid (∀ v, v = doE d i f s → DoP base db vs d i f s w (.returned (.int .i64 v)) w4) := fun v hv => by
          refine ⟨by rw [hv], ?_⟩
          have := LeftD.trans HN3.out HT3.out (LeftD.row HD3.out hd4 ht4)
          unfold doD
          rw [HDN.out, if_neg (by decide), if_neg HLE.out]
          exact this
        have HDE : Hid (doE d i f s = if (setF d i (f.take s)).burn.down = true then 18 else 0) := by show _ = _; unfold doE; rw [HDN.out, if_neg (by decide), if_neg HLE.out]
        clear hd4 ht4
        cases hbd : (setF d i (f.take s)).burn.down with
        | true =>
          have HV18 := Lib.hid (HFIN.out 18 (by rw [HDE.out, hbd]; rfl))
          clear hbd
          go_wp2_with fail
          go_ret
          exact HV18.out
        | false =>
          have HV0 := Lib.hid (HFIN.out 0 (by rw [HDE.out, hbd]; rfl))
          clear hbd
          go_wp2_with fail
          go_ret
          exact HV0.out
end Go.Proofs.YtkacmgfehmjijaaGreatDoor.Dk

namespace Go.Proofs.YtkacmgfehmjijaaGreatDoor.Dk
open Go.RowKit Go.Mir

theorem LeftD.from {w w1 w2 : World} {base db : Nat} {vs : List FV} {d2 : DD} (hb : Below w.heap.size w w1) (h : LeftD base db vs d2 w1 w2) : LeftD base db vs d2 w w2 :=
  LeftD.trans (fun k hk => .inl hk) (Turns.of_below hb) h
theorem wpList_build {P : Program} {w : World} {ops : Array Oper} {rest : List Oper} {o : Oper} {a : Act} {Q : Exit → Act → World → Prop} (hgd : o.guard = none) (t : TypeId) (parts : Array (Nat × Operand)) (ho : o.op = .build t parts)
    (vals : List (Nat × Value)) (hv : (parts.toList.map fun p => (p.1, a.eval p.2)) = vals) (cells : Array Value) (h : P.built t vals = some cells) (k : wpList P ops Q rest (a.put o.dst (.agg cells)) w) : wpList P ops Q (o :: rest) a w := by
  refine wpList_plain hgd fun K hK => ?_
  unfold Oper.wp execOp
  have hb : P.built t (parts.map fun p => (p.1, a.eval p.2)).toList = some cells := by rw [Array.toList_map, hv]; exact h
  simp only [ho, Sem.run_bind, Sem.run_pure, Result.andThen_ok, run_build w t _ cells hb]
  exact hK _ _ k
theorem build_put (p : Option Addr) (n c : Nat) : Tryz.prog.built 81 [(0, .slice p n c)] = some #[.slice p n c] := by kernel_rfl
theorem build_cut (n : Int) : Tryz.prog.built 106 [(0, .int .i64 n)] = some #[.int .i64 n] := by kernel_rfl
set_option maxRecDepth 100000 in
theorem append_in {base db : Nat} {vs : List FV} {d : DD} (w : World) (h : DAt w base db vs d) (hbase : base ≤ w.heap.size) (i : Nat) (hi : i < d.fs.length) (f : FD) (hf : d.fs[i] = f) (p : Option Addr) (n c : Nat) (b : List UInt8) (hb : Bs w p n c b) (hn : n ≤ 140737488355328) (hfew : f.steps.length + 1 ≤ 4398046511104) :
    Calls Tryz.prog 13 #[.pointer (some ⟨db, 0, none⟩), .int .i64 (i : Int), .slice p n c] w (DoP base db vs d i f (.put b) w) := by
  have HBS := Lib.hid hb
  have hle := hb.le
  have hmax := hb.max
  have HNL : Hid (b.length = n) := hb.length
  have H := Lib.hid h
  have HBASE := Lib.hid hbase
  have HI := Lib.hid hi
  have HFE := Lib.hid hf
  clear hb h hf
  go_enter Tryz.func13, Tryz.ntmps13
  go_wp2_with (refine wpList_append_nx rfl _ _ 31 rfl (base := w.heap.size) Tryz.underlying31 info8 rfl (by omega) rfl (World.ownsRow_nil _ _ _ _) rfl HBS.out (bytesV_one _) ⟨by omega, by omega⟩ (Nat.le_refl _) ?_)
  intro p9 c9 w9 ho9 hg9 _ _
  have hb9 : Below w.heap.size w w9 := (Below.refl _ _).grown hg9 (Nat.le_refl _) (fun k hk => by simp [Value.ownBlock] at hk)
  have HB9 := Lib.hid hb9
  have HR9 : Hid (Rd w9 base (.slice p9 n c9) b) := by
    have := ho9
    rw [← HNL.out] at this ⊢
    exact (Rd.of_own this).base HBASE.out
  have HDO := Lib.hid (do_in w9 (H.out.below hb9) (Nat.le_trans HBASE.out hb9.size) i HI.out f HFE.out (.iface 81 (.agg #[.slice p9 n c9])) (.put b) ⟨_, rfl, HR9.out⟩ trivial (by show b.length ≤ _; rw [HNL.out]; exact hn) hfew)
  clear ho9 hg9 hb9
  go_wp2_with ((with_reducible refine wpAt 11 ?_); refine wpList_build rfl 81 _ rfl [(0, .slice p9 n c9)] rfl _ (build_put _ _ _) ?_)
  refine (HDO.out).mono ?_
  rintro e w2 ⟨rfl, hl⟩
  have HL := Lib.hid (LeftD.from HB9.out hl)
  clear hl
  go_wp2_with fail
  go_ret
  exact ⟨rfl, HL.out⟩
set_option maxRecDepth 100000 in
theorem cut_in {base db : Nat} {vs : List FV} {d : DD} (w : World) (h : DAt w base db vs d) (hbase : base ≤ w.heap.size) (i : Nat) (hi : i < d.fs.length) (f : FD) (hf : d.fs[i] = f) (m : Nat) (hm : m ≤ f.now.length) (hfew : f.steps.length + 1 ≤ 4398046511104) :
    Calls Tryz.prog 38 #[.pointer (some ⟨db, 0, none⟩), .int .i64 (i : Int), .int .i64 (m : Int)] w (DoP base db vs d i f (.cut m) w) := by
  have HDO := Lib.hid (do_in w h hbase i hi f hf (.iface 106 (.agg #[.int .i64 (m : Int)])) (.cut m) rfl hm (by show 1 ≤ _; omega) hfew)
  clear h hf
  go_enter Tryz.func38, Tryz.ntmps38
  go_wp2_with ((with_reducible refine wpAt 10 ?_); refine wpList_build rfl 106 _ rfl [(0, .int .i64 (m : Int))] rfl _ (build_cut _) ?_)
  refine (HDO.out).mono ?_
  rintro e w2 ⟨rfl, hl⟩
  have HL := Lib.hid hl
  clear hl
  go_wp2_with fail
  go_ret
  exact ⟨rfl, HL.out⟩
/-- a sync -/
def syncD (d : DD) (i : Nat) (f : FD) : DD := if d.down = true then d else if d.burn.down = true then d.burn else setF d.burn i (f.settle (unitsAll f.steps))
def syncE (d : DD) : Int := if d.down = true then 18 else if d.burn.down = true then 18 else 0
theorem sync_down {d : DD} (i : Nat) (f : FD) (h : d.down = true) : syncD d i f = d ∧ syncE d = 18 := by unfold syncD syncE; rw [if_pos h, if_pos h]; exact ⟨rfl, rfl⟩
theorem sync_burnt {d : DD} (i : Nat) (f : FD) (h : d.down = false) (hb : d.burn.down = true) : syncD d i f = d.burn ∧ syncE d = 18 := by
  unfold syncD syncE
  simp [h, hb]
theorem sync_ok {d : DD} (i : Nat) (f : FD) (h : d.down = false) (hb : d.burn.down = false) : syncD d i f = setF d.burn i (f.settle (unitsAll f.steps)) ∧ syncE d = 0 := by
  unfold syncD syncE
  simp [h, hb]
theorem burn_fs (d : DD) : d.burn.fs = d.fs := by unfold DD.burn; split <;> rfl
set_option maxRecDepth 100000 in
set_option maxHeartbeats 800000 in
theorem sync_in {base db : Nat} {vs : List FV} {d : DD} (w : World) (h : DAt w base db vs d) (hbase : base ≤ w.heap.size) (i : Nat) (hi : i < d.fs.length) (f : FD) (hf : d.fs[i] = f) :
    Calls Tryz.prog 36 #[.pointer (some ⟨db, 0, none⟩), .int .i64 (i : Int)] w fun e w' => e = .returned (.int .i64 (syncE d)) ∧ LeftD base db vs (syncD d i f) w w' := by
  have H := Lib.hid h
  have hi3 : i < 3 := by have := h.m3; omega
  have hc := h.cells.2.2.1
  have HI := Lib.hid hi
  have HFE := Lib.hid hf
  have HBASE := Lib.hid hbase
  clear h hf
  cases hdn : d.down with
  | true =>
    have HFIN : Hid (LeftD base db vs (syncD d i f) w w ∧ syncE d = 18) := by
      obtain ⟨e1, e2⟩ := sync_down i f hdn
      show _ ∧ _
      rw [e1]
      exact ⟨⟨vs, H.out, Turns.refl _ _, fun k hk => .inl hk⟩, e2⟩
    rw [hdn] at hc
    clear hdn
    go_enter Tryz.func36, Tryz.ntmps36
    go_wp2_with fail
    refine (at_in w H.out i hi3).mono ?_
    rintro e w' ⟨rfl, rfl⟩
    go_wp2_with fail
    refine (none_any w H.out).mono ?_
    rintro e w' ⟨rfl, rfl⟩
    go_wp2_with fail
    go_ret
    exact ⟨by rw [HFIN.out.2]; rfl, HFIN.out.1⟩
  | false =>
    have HDN := Lib.hid hdn
    rw [hdn] at hc
    clear hdn
    go_enter Tryz.func36, Tryz.ntmps36
    go_wp2_with fail
    refine (at_in w H.out i hi3).mono ?_
    rintro e w' ⟨rfl, rfl⟩
    go_wp2_with fail
    refine (none_any w H.out).mono ?_
    rintro e w' ⟨rfl, rfl⟩
    go_wp2_with fail
    refine (burn_any w H.out).mono ?_
    rintro e w1 ⟨rfl, hd1, ht1⟩
    have HD1 := Lib.hid hd1
    have HT1 := Lib.hid ht1
    clear hd1 ht1 hc
    cases hbd : d.burn.down with
    | true =>
      have HFIN : Hid (LeftD base db vs (syncD d i f) w w1 ∧ syncE d = 18) := by
        obtain ⟨e1, e2⟩ := sync_burnt i f HDN.out hbd
        show _ ∧ _
        rw [e1]
        exact ⟨LeftD.row H.out HD1.out HT1.out, e2⟩
      clear hbd
      go_wp2_with fail
      go_ret
      exact ⟨by rw [HFIN.out.2]; rfl, HFIN.out.1⟩
    | false =>
      have HBD := Lib.hid hbd
      have HI1 : Hid (i < d.burn.fs.length) := by show _ < _; rw [burn_fs]; exact HI.out
      have HF1 : Hid (d.burn.fs[i]'HI1.out = f) := by
        show _ = _
        rw [← HFE.out]
        congr 1
        exact burn_fs d
      have HU := Lib.hid (fileUnits_any w1 HD1.out i HI1.out)
      rw [HF1.out] at HU
      have HUB : Hid (unitsAll f.steps ≤ 4611686018427387904) := by
        show _ ≤ _
        have hv : i < vs.length := by have := H.out.n3; omega
        have h1 := (HD1.out.each i _ _ (List.getElem?_eq_getElem hv) (List.getElem?_eq_getElem HI1.out)).ok.un
        have h2 := HD1.out.few _ (List.getElem_mem HI1.out)
        rw [HF1.out] at h1 h2
        omega
      clear hbd
      go_wp2_with fail
      refine (HU.out).mono ?_
      rintro e w2 ⟨rfl, hb2⟩
      have HB2 := Lib.hid hb2
      have HST := Lib.hid (settle_any w2 (HD1.out.below hb2) (Nat.le_trans HBASE.out (Nat.le_trans HT1.out.size hb2.size)) i HI1.out f HF1.out (unitsAll f.steps) HUB.out)
      clear hb2 HU
      go_wp2_with fail
      refine (HST.out).mono ?_
      rintro e w3 ⟨rfl, ⟨vs3, hd3, hn3⟩, ht3⟩
      have HFIN : Hid (LeftD base db vs (syncD d i f) w w3 ∧ syncE d = 0) := by
        obtain ⟨e1, e2⟩ := sync_ok i f HDN.out HBD.out
        show _ ∧ _
        rw [e1]
        refine ⟨⟨vs3, hd3, ?_, fun k hk => ?_⟩, e2⟩
        · exact ((HT1.out.trans (Turns.of_below (S := fun k => k = db) HB2.out) (fun _ _ h => h)).trans ht3 (fun _ _ h => h)).imp (fun k _ hk => .inl hk)
        · rcases hk with hk | ⟨v, hv, hk⟩
          · exact .inl (.inl hk)
          · exact .inl (.inr (hn3 v hv k hk))
      clear hd3 ht3 hn3
      go_wp2_with fail
      go_ret
      exact ⟨by rw [HFIN.out.2]; rfl, HFIN.out.1⟩
/-- what a file holds -/
theorem read_in {base db : Nat} {vs : List FV} {d : DD} (w : World) (h : DAt w base db vs d) (i : Nat) (hi : i < d.fs.length) :
    Calls Tryz.prog 45 #[.pointer (some ⟨db, 0, none⟩), .int .i64 (i : Int)] w (RdP w.heap.size d.fs[i].now w) := by
  have hv : i < vs.length := by have := h.n3; have := h.m3; omega
  have hi3 : i < 3 := by have := h.m3; omega
  have H := Lib.hid h
  have hc := (h.file i hv).2.1
  have hF := h.each i _ _ (List.getElem?_eq_getElem hv) (List.getElem?_eq_getElem hi)
  have hle := usedL_mem hi
  have hused := h.used
  have hroom1 := h.room1
  have hnl : d.fs[i].now.length ≤ 65536 := by have := hF.ok.le; omega
  obtain ⟨pn, cn, hnv, hbn⟩ := hF.now.bs
  rw [hnv] at hc
  generalize d.fs[i].now = l at *
  have HBN := Lib.hid hbn
  have hl1 := hbn.le
  have hl2 := hbn.max
  clear hbn hF hnv h hle hused
  go_enter Tryz.func45, Tryz.ntmps45
  go_wp2_with fail
  refine (at_in w H.out i hi3).mono ?_
  rintro e w' ⟨rfl, rfl⟩
  go_wp2_with (refine wpList_append_nx rfl _ _ 31 rfl (base := w.heap.size) Tryz.underlying31 info8 rfl (by omega) rfl (World.ownsRow_nil _ _ _ _) rfl HBN.out (bytesV_one _) ⟨by omega, by omega⟩ (Nat.le_refl _) ?_)
  intro p9 c9 w9 ho9 hg9 _ _
  have HB9 : Hid (Below w.heap.size w w9) := (Below.refl _ _).grown hg9 (Nat.le_refl _) (fun k hk => by simp [Value.ownBlock] at hk)
  have HR9 : Hid (Rd w9 w.heap.size (.slice p9 l.length c9) l) := Rd.of_own ho9
  clear ho9 hg9
  go_wp2_with fail
  go_ret
  exact ⟨p9, c9, rfl, HR9.out, HB9.out⟩
/-- a crash that keeps no unit -/
def crash0 (d : DD) : DD := ⟨d.fs.map (fun f => f.settle 0), d.room, 0, false⟩
def crashK (d : DD) (k : Nat) : DD := ⟨(d.fs.take k).map (fun f => f.settle 0) ++ d.fs.drop k, d.room, d.fuse, d.down⟩
theorem crashK_zero (d : DD) : crashK d 0 = d := by simp [crashK]
theorem crashK_step {d : DD} (h : d.fs.length = 3) (k : Nat) (hk : k < 3) (hk2 : k < (crashK d k).fs.length) : setF (crashK d k) k (((crashK d k).fs[k]'hk2).settle 0) = crashK d (k + 1) := by
  obtain ⟨fs, room, fuse, down⟩ := d
  obtain ⟨a, b, c, rfl⟩ := list3 h
  match k, hk with
  | 0, _ => rfl
  | 1, _ => rfl
  | 2, _ => rfl
set_option maxRecDepth 100000 in
set_option maxHeartbeats 800000 in
theorem crash_none {base db : Nat} {vs : List FV} {d : DD} (w : World) (h : DAt w base db vs d) (hbase : base ≤ w.heap.size) (c : Nat) (p : Option Addr) :
    Calls Tryz.prog 17 #[.pointer (some ⟨db, 0, none⟩), .slice p 0 c] w fun e w' => e = .returned (.tuple #[]) ∧ LeftD base db vs (crash0 d) w w' := by
  have H := Lib.hid h
  have HBASE := Lib.hid hbase
  have HM3 := Lib.hid h.m3
  clear h
  go_enter Tryz.func17, Tryz.ntmps17
  go_wp2_with fail
  refine (none_any w H.out).mono ?_
  rintro e w' ⟨rfl, rfl⟩
  go_wp2_with fail
  go_loopw [10] (fun j wr => ∃ k : Nat, k ≤ 3 ∧ j = .int .i64 k ∧ LeftD base db vs (crashK d k) w wr) (fun j _ => 3 - (intOf j).toNat)
  case atStart => exact ⟨0, by omega, rfl, vs, by rw [crashK_zero]; exact H.out, Turns.refl _ _, fun k hk => .inl hk⟩
  case round =>
    obtain ⟨k, hk, rfl, vs1, hd1, ht1, hn1⟩ := hrel
    have HD1 := Lib.hid hd1
    have HT1 := Lib.hid ht1
    have HN1 := Lib.hid hn1
    clear hd1 ht1 hn1
    by_cases hlt : k < 3
    · have hd : decide ((k : Int) < 3) = true := decide_eq_true (by omega)
      have hd2 : decide (k < 3) = true := decide_eq_true (by omega)
      have hk1 : (k : Int) < 3 := by omega
      have hk0 : (0 : Int) ≤ (k : Int) := by omega
      have e0 : decide ((k : Int) < 0) = false := decide_eq_false (by omega)
      have HKL : Hid (k < (crashK d k).fs.length) := by show _ < _; rw [HD1.out.m3]; exact hlt
      have HST := Lib.hid (settle_any wr HD1.out (Nat.le_trans HBASE.out HT1.out.size) k HKL.out _ rfl 0 (by omega))
      have e1 : decide ((k : Int) < 0) = false := decide_eq_false (by omega)
      go_wp2_with fail
      refine (HST.out).mono ?_
      rintro e w3 ⟨rfl, ⟨vs3, hd3, hn3⟩, ht3⟩
      have HL3 : Hid (LeftD base db vs (crashK d (k + 1)) w w3) := by
        rw [crashK_step HM3.out k hlt HKL.out] at hd3
        refine LeftD.trans HN1.out HT1.out ⟨vs3, hd3, ht3.imp (fun k _ hk => .inl hk), fun k hk => ?_⟩
        rcases hk with hk | ⟨v, hv, hk⟩
        · exact .inl (.inl hk)
        · exact .inl (.inr (hn3 v hv k hk))
      clear hd3 hn3 ht3 HST
      go_wp2_with fail
      go_roundw
      case rel => exact ⟨k + 1, by omega, by go_num, HL3.out⟩
      case measure => simp [intOf]; omega
    · have hd : decide ((k : Int) < 3) = false := decide_eq_false (by omega)
      have hd2 : decide (k < 3) = false := decide_eq_false (by omega)
      obtain rfl : k = 3 := by omega
      obtain ⟨hc0, hc1, hc2, hfz⟩ := HD1.out.cells
      have HL3 : Hid (LeftD base db vs (crash0 d) w ((wr.setCell ⟨db, 13, none⟩ (.int .i64 0)).setCell ⟨db, 14, none⟩ (.bool false))) := by
        have ht2 : Turns (fun k => k = db) wr ((wr.setCell ⟨db, 13, none⟩ (.int .i64 0)).setCell ⟨db, 14, none⟩ (.bool false)) := ((Turns.refl (fun k => k = db) wr).setCell (p := ⟨db, 13, none⟩) (fun _ => rfl) _).setCell (p := ⟨db, 14, none⟩) (fun _ => rfl) _
        obtain ⟨s1, _, _⟩ := dA_set HD1.out.n3 (crashK d 3).room (crashK d 3).fuse (crashK d 3).down
        obtain ⟨_, s2, _⟩ := dA_set HD1.out.n3 (crashK d 3).room 0 (crashK d 3).down
        have r2 := cell_put (off := 13) (.int .i64 0) HD1.out.row
        have s1' := s1 0
        rw [show ((0 : Nat) : Int) = (0 : Int) from rfl] at s1'
        rw [s1'] at r2
        have r3 := cell_put (off := 14) (.bool false) r2
        rw [s2 false] at r3
        have hd4 := HD1.out.reRow ht2 r3 (by omega)
        have he : (⟨(crashK d 3).fs, (crashK d 3).room, 0, false⟩ : DD) = crash0 d := by
          have := HM3.out
          obtain ⟨fs, room, fuse, down⟩ := d
          obtain ⟨a, b, c, rfl⟩ := list3 this
          rfl
        rw [he] at hd4
        exact LeftD.trans HN1.out HT1.out (LeftD.row HD1.out hd4 ht2)
      go_wp2_with fail
      go_end0
      exact ⟨rfl, HL3.out⟩
end Go.Proofs.YtkacmgfehmjijaaGreatDoor.Dk

namespace Go.Proofs.YtkacmgfehmjijaaGreatDoor.Dk
open Go.RowKit Go.Mir

set_option maxRecDepth 100000 in
set_option maxHeartbeats 1600000 in
theorem do_bad_lo {base db : Nat} {vs : List FV} {d : DD} (w : World) (h : DAt w base db vs d) (i : Nat) (hi : i < d.fs.length) (f : FD) (hf : d.fs[i] = f) (m : Int) (hm : m < 0) :
    Calls Tryz.prog 39 #[.pointer (some ⟨db, 0, none⟩), .int .i64 (i : Int), .iface 106 (.agg #[.int .i64 m])] w fun e w' => e = .returned (.int .i64 1) ∧ Below w.heap.size w w' := by
  have hv : i < vs.length := by have := h.n3; have := h.m3; omega
  have hi3 : i < 3 := by have := h.m3; omega
  have hF := h.each i _ _ (List.getElem?_eq_getElem hv) (List.getElem?_eq_getElem hi)
  rw [hf] at hF
  have hta := ta_cc (.agg #[.int .i64 m])
  have H := Lib.hid h
  have HFF := Lib.hid hF
  have HV := Lib.hid hv
  clear hF hf h
  go_enter Tryz.func39, Tryz.ntmps39
  go_wp2_with fail
  refine (at_in w H.out i hi3).mono ?_
  rintro e w' ⟨rfl, rfl⟩
  have hb := Below.allocs w (.cells #[.int .i64 m] 106)
  have HB := Lib.hid hb
  have HA := Lib.hid (H.out.below hb)
  have hcm : (w.alloc (.cells #[.int .i64 m] 106)).cell? ⟨w.heap.size, 0, none⟩ = some (.int .i64 m) := by rw [cell_of_row _ _ _ _ _ _ (heap_alloc_last _ _)]; rfl
  clear hb
  go_upto_region 3 with fail
  generalize w.alloc (.cells #[.int .i64 m] 106) = w1 at *
  go_wp2_with fail
  refine (none_any _ HA.out).mono ?_
  rintro e w' ⟨rfl, rfl⟩
  clear hta
  have hg2 := cell_grown hcm
  have hm0 : decide (m < 0) = true := decide_eq_true hm
  go_upto_region 5 with fail
  refine wp_region_grow (by kernel_rfl) (by kernel_rfl) ?_
  repeat (first
    | ((with_reducible refine wpQuietGd ?_); (with_reducible refine wpQuiet_skip ?_ ?_); (· rfl); simp only [Act.put, List.setIfInBounds_toArray, List.set_cons_zero, List.set_cons_succ])
    | quiet_step (fail))
  refine wpQuiet_nil ?_
  intro w2 hb2
  have HB2 := Lib.hid (HB.out.trans (hb2.mono HB.out.size))
  clear hb2
  go_wp2_with fail
  go_ret
  exact ⟨rfl, HB2.out⟩
set_option maxRecDepth 100000 in
set_option maxHeartbeats 1600000 in
theorem do_bad_hi {base db : Nat} {vs : List FV} {d : DD} (w : World) (h : DAt w base db vs d) (i : Nat) (hi : i < d.fs.length) (f : FD) (hf : d.fs[i] = f) (m : Int) (hm : (f.now.length : Int) < m) :
    Calls Tryz.prog 39 #[.pointer (some ⟨db, 0, none⟩), .int .i64 (i : Int), .iface 106 (.agg #[.int .i64 m])] w fun e w' => e = .returned (.int .i64 1) ∧ Below w.heap.size w w' := by
  have hv : i < vs.length := by have := h.n3; have := h.m3; omega
  have hi3 : i < 3 := by have := h.m3; omega
  have hF := h.each i _ _ (List.getElem?_eq_getElem hv) (List.getElem?_eq_getElem hi)
  rw [hf] at hF
  have hta := ta_cc (.agg #[.int .i64 m])
  have H := Lib.hid h
  have HFF := Lib.hid hF
  have HV := Lib.hid hv
  clear hF hf h
  go_enter Tryz.func39, Tryz.ntmps39
  go_wp2_with fail
  refine (at_in w H.out i hi3).mono ?_
  rintro e w' ⟨rfl, rfl⟩
  have hb := Below.allocs w (.cells #[.int .i64 m] 106)
  have HB := Lib.hid hb
  have HA := Lib.hid (H.out.below hb)
  have hcm : (w.alloc (.cells #[.int .i64 m] 106)).cell? ⟨w.heap.size, 0, none⟩ = some (.int .i64 m) := by rw [cell_of_row _ _ _ _ _ _ (heap_alloc_last _ _)]; rfl
  clear hb
  go_upto_region 3 with fail
  generalize w.alloc (.cells #[.int .i64 m] 106) = w1 at *
  go_wp2_with fail
  refine (none_any _ HA.out).mono ?_
  rintro e w' ⟨rfl, rfl⟩
  clear hta
  obtain ⟨pn, cn, hnv, hbn⟩ := HFF.out.now.bs
  have hc1 := (HA.out.file i HV.out).2.1
  rw [hnv] at hc1
  have hg1 := cell_grown hc1
  have hg2 := cell_grown hcm
  have hm0 : decide (m < 0) = false := decide_eq_false (by omega)
  have hm1 : decide ((f.now.length : Int) < m) = true := decide_eq_true hm
  clear hbn hnv
  go_upto_region 5 with fail
  refine wp_region_grow (by kernel_rfl) (by kernel_rfl) ?_
  repeat (first
    | ((with_reducible refine wpQuietGd ?_); (with_reducible refine wpQuiet_skip ?_ ?_); (· rfl); simp only [Act.put, List.setIfInBounds_toArray, List.set_cons_zero, List.set_cons_succ])
    | quiet_step (fail))
  refine wpQuiet_nil ?_
  intro w2 hb2
  have HB2 := Lib.hid (HB.out.trans (hb2.mono HB.out.size))
  clear hb2
  go_wp2_with fail
  go_ret
  exact ⟨rfl, HB2.out⟩
/-- a cut asked at whatever place -/
theorem cut_bad {base db : Nat} {vs : List FV} {d : DD} (w : World) (n m : Int) (hdo : Calls Tryz.prog 39 #[.pointer (some ⟨db, 0, none⟩), .int .i64 n, .iface 106 (.agg #[.int .i64 m])] w fun e w' => e = .returned (.int .i64 1) ∧ Below w.heap.size w w') (_h : DAt w base db vs d) :
    Calls Tryz.prog 38 #[.pointer (some ⟨db, 0, none⟩), .int .i64 n, .int .i64 m] w fun e w' => e = .returned (.int .i64 1) ∧ Below w.heap.size w w' := by
  have HDO := Lib.hid hdo
  clear hdo
  go_enter Tryz.func38, Tryz.ntmps38
  go_wp2_with ((with_reducible refine wpAt 10 ?_); refine wpList_build rfl 106 _ rfl [(0, .int .i64 m)] rfl _ (build_cut _) ?_)
  refine (HDO.out).mono ?_
  rintro e w2 ⟨rfl, hl⟩
  have HL := Lib.hid hl
  clear hl
  go_wp2_with fail
  go_ret
  exact ⟨rfl, HL.out⟩
set_option maxRecDepth 100000 in
theorem append_out {base db : Nat} {vs : List FV} {d : DD} (w : World) (h : DAt w base db vs d) (i : Int) (hi : i < 0 ∨ 3 ≤ i) (p : Option Addr) (n c : Nat) (b : List UInt8) (hb : Bs w p n c b) (hn : n ≤ 140737488355328) :
    Calls Tryz.prog 13 #[.pointer (some ⟨db, 0, none⟩), .int .i64 i, .slice p n c] w fun e w' => e = .returned (.int .i64 1) ∧ Below w.heap.size w w' := by
  have HBS := Lib.hid hb
  have hle := hb.le
  have hmax := hb.max
  have H := Lib.hid h
  have HI := Lib.hid hi
  clear hb h hi
  go_enter Tryz.func13, Tryz.ntmps13
  go_wp2_with (refine wpList_append_nx rfl _ _ 31 rfl (base := w.heap.size) Tryz.underlying31 info8 rfl (by omega) rfl (World.ownsRow_nil _ _ _ _) rfl HBS.out (bytesV_one _) ⟨by omega, by omega⟩ (Nat.le_refl _) ?_)
  intro p9 c9 w9 ho9 hg9 _ _
  have hb9 : Below w.heap.size w w9 := (Below.refl _ _).grown hg9 (Nat.le_refl _) (fun k hk => by simp [Value.ownBlock] at hk)
  have HB9 := Lib.hid hb9
  have HDO := Lib.hid (do_out w9 (H.out.below hb9) i HI.out (.iface 81 (.agg #[.slice p9 (0 + n) c9])) (.inl ⟨_, rfl⟩))
  rw [Nat.zero_add] at HDO
  clear ho9 hg9 hb9
  go_wp2_with ((with_reducible refine wpAt 11 ?_); refine wpList_build rfl 81 _ rfl [(0, .slice p9 n c9)] rfl _ (build_put _ _ _) ?_)
  refine (HDO.out).mono ?_
  rintro e w2 ⟨rfl, hl⟩
  have HL := Lib.hid (HB9.out.trans (hl.mono HB9.out.size))
  clear hl
  go_wp2_with fail
  go_ret
  exact ⟨rfl, HL.out⟩
set_option maxRecDepth 100000 in
theorem sync_out {base db : Nat} {vs : List FV} {d : DD} (w : World) (h : DAt w base db vs d) (i : Int) (hi : i < 0 ∨ 3 ≤ i) :
    Calls Tryz.prog 36 #[.pointer (some ⟨db, 0, none⟩), .int .i64 i] w fun e w' => e = .returned (.int .i64 1) ∧ w = w' := by
  have H := Lib.hid h
  have HI := Lib.hid hi
  clear h hi
  go_enter Tryz.func36, Tryz.ntmps36
  go_wp2_with fail
  refine (at_out w H.out i HI.out).mono ?_
  rintro e w' ⟨rfl, rfl⟩
  go_wp2_with fail
  refine (none_any w H.out).mono ?_
  rintro e w' ⟨rfl, rfl⟩
  go_wp2_with fail
  go_ret
  exact ⟨rfl, rfl⟩
set_option maxRecDepth 100000 in
/-- what a file keeps -/
theorem kept_in {base db : Nat} {vs : List FV} {d : DD} (w : World) (h : DAt w base db vs d) (i : Nat) (hi : i < d.fs.length) :
    Calls Tryz.prog 46 #[.pointer (some ⟨db, 0, none⟩), .int .i64 (i : Int)] w (RdP w.heap.size d.fs[i].kept w) := by
  have hv : i < vs.length := by have := h.n3; have := h.m3; omega
  have hi3 : i < 3 := by have := h.m3; omega
  have H := Lib.hid h
  have hc := (h.file i hv).1
  have hF := h.each i _ _ (List.getElem?_eq_getElem hv) (List.getElem?_eq_getElem hi)
  have hle := usedL_mem hi
  have hused := h.used
  have hroom1 := h.room1
  have hnl : d.fs[i].kept.length ≤ 65536 := by
    have := hF.ok.all 0
    rw [someU_zero] at this
    omega
  obtain ⟨pn, cn, hnv, hbn⟩ := hF.kept.bs
  rw [hnv] at hc
  generalize d.fs[i].kept = l at *
  have HBN := Lib.hid hbn
  have hl1 := hbn.le
  have hl2 := hbn.max
  clear hbn hF hnv h hle hused
  go_enter Tryz.func46, Tryz.ntmps46
  go_wp2_with fail
  refine (at_in w H.out i hi3).mono ?_
  rintro e w' ⟨rfl, rfl⟩
  go_wp2_with (refine wpList_append_nx rfl _ _ 31 rfl (base := w.heap.size) Tryz.underlying31 info8 rfl (by omega) rfl (World.ownsRow_nil _ _ _ _) rfl HBN.out (bytesV_one _) ⟨by omega, by omega⟩ (Nat.le_refl _) ?_)
  intro p9 c9 w9 ho9 hg9 _ _
  have HB9 : Hid (Below w.heap.size w w9) := (Below.refl _ _).grown hg9 (Nat.le_refl _) (fun k hk => by simp [Value.ownBlock] at hk)
  have HR9 : Hid (Rd w9 w.heap.size (.slice p9 l.length c9) l) := Rd.of_own ho9
  clear ho9 hg9
  go_wp2_with fail
  go_ret
  exact ⟨p9, c9, rfl, HR9.out, HB9.out⟩
set_option maxRecDepth 100000 in
/-- how long a file is -/
theorem size_in {base db : Nat} {vs : List FV} {d : DD} (w : World) (h : DAt w base db vs d) (i : Nat) (hi : i < d.fs.length) :
    Calls Tryz.prog 25 #[.pointer (some ⟨db, 0, none⟩), .int .i64 (i : Int)] w fun e w' => e = .returned (.int .i64 (d.fs[i].now.length : Int)) ∧ Below w.heap.size w w' := by
  have HR := Lib.hid (read_in w h i hi)
  clear h
  go_enter Tryz.func25, Tryz.ntmps25
  go_wp2_with fail
  refine (HR.out).mono ?_
  rintro e w2 ⟨p, c, rfl, _, hb⟩
  have HB := Lib.hid hb
  clear hb HR
  go_wp2_with fail
  go_ret
  exact ⟨rfl, HB.out⟩
set_option maxRecDepth 100000 in
/-- how many units wait -/
theorem units_in {base db : Nat} {vs : List FV} {d : DD} (w : World) (h : DAt w base db vs d) (i : Nat) (hi : i < d.fs.length) :
    Calls Tryz.prog 51 #[.pointer (some ⟨db, 0, none⟩), .int .i64 (i : Int)] w fun e w' => e = .returned (.int .i64 (unitsAll d.fs[i].steps : Int)) ∧ Below w.heap.size w w' := by
  have hi3 : i < 3 := by have := h.m3; omega
  have H := Lib.hid h
  have HU := Lib.hid (fileUnits_any w h i hi)
  clear h
  go_enter Tryz.func51, Tryz.ntmps51
  go_wp2_with fail
  refine (at_in w H.out i hi3).mono ?_
  rintro e w' ⟨rfl, rfl⟩
  go_wp2_with fail
  refine (HU.out).mono ?_
  rintro e w2 ⟨rfl, hb⟩
  have HB := Lib.hid hb
  clear hb HU
  go_wp2_with fail
  go_ret
  exact ⟨rfl, HB.out⟩
end Go.Proofs.YtkacmgfehmjijaaGreatDoor.Dk

namespace Go.Proofs.YtkacmgfehmjijaaGreatDoor.Dk
open Go.RowKit Go.Mir Go.Mir.Parts

theorem infoDisk (n : Nat) (h : n = 15) : (Tryz.prog.info? 67).map (·.size) = some n := by subst h; kernel_rfl
/-- a disk that no call made -/
def zDisk : Array Value := #[.slice none 0 0, .slice none 0 0, .slice none 0 0, .int .i64 0, .slice none 0 0, .slice none 0 0, .slice none 0 0, .int .i64 0, .slice none 0 0, .slice none 0 0, .slice none 0 0, .int .i64 0, .int .i64 0, .int .i64 0, .bool false]
theorem dA_fit {w : World} {base db : Nat} {vs : List FV} {d : DD} (h : DAt w base db vs d) : (dA vs d.room d.fuse d.down).size = 15 ∧ (dA vs d.room d.fuse d.down).all (·.oneCell') = true := by
  have hl : ∀ v ∈ vs, v.kv.oneCell' = true ∧ v.nv.oneCell' = true ∧ v.sv.oneCell' = true := fun v hv => by
    obtain ⟨i, hi⟩ := List.mem_iff_getElem?.1 hv
    have hlt : i < d.fs.length := by rw [h.m3, ← h.n3]; exact (List.getElem?_eq_some_iff.1 hi).1
    have hF := h.each i v _ hi (List.getElem?_eq_getElem hlt)
    obtain ⟨vals, ho, _⟩ := hF.steps
    obtain ⟨_, _, e1, _⟩ := hF.kept.bs
    obtain ⟨_, _, e2, _⟩ := hF.now.bs
    obtain ⟨_, _, e3, _⟩ := own_sl ho
    rw [e1, e2, e3]
    exact ⟨rfl, rfl, rfl⟩
  obtain ⟨a, b, c, rfl⟩ := list3 h.n3
  obtain ⟨a1, a2, a3⟩ := hl a (by simp)
  obtain ⟨b1, b2, b3⟩ := hl b (by simp)
  obtain ⟨c1, c2, c3⟩ := hl c (by simp)
  refine ⟨rfl, ?_⟩
  show (([a, b, c].flatMap fvL ++ _ : List Value).toArray).all _ = true
  simp [fvL, a1, a2, a3, b1, b2, b3, c1, c2, c3]
  exact ⟨rfl, rfl, rfl, rfl, rfl, rfl⟩
theorem Mid.no8 {w wr : World} {base db : Nat} {vs : List FV} {d : DD} {i : Nat} {v : FV} (h : Mid w wr base db vs d i v) : ∀ k M fr, wr.heap[k]? = some (.cells M 5 fr) → ¬ k = db := fun k M fr hk e => by
  subst e
  rw [h.row] at hk
  injection hk with e1
  injection e1 with _ e2
  exact absurd e2 (by decide)
/-- a file's row put anew -/
theorem clone_end {w w' : World} {base nb : Nat} {vs : List FV} {d : DD} {i : Nat} {f : FD} {v' : FV} {vals : List Value} (h : DAt w base nb vs d) (hi : i < d.fs.length) (hv : i < vs.length) (hf : d.fs[i] = f) (hm : Mid w w' base nb vs d i v')
    (hk : Rd w' base v'.kv f.kept) (hn : Rd w' base v'.nv f.now) (ho : w'.ownsRow base 108 1 v'.sv f.steps.length vals) (hvals : ∀ (i : Nat) x s, vals[i]? = some x → f.steps[i]? = some s → StAt w base x s) (hnd : v'.nd = f.need)
    (hfr : ∀ k, v'.sv.ownBlock = some k → w.heap.size ≤ k) : DAt w' base nb (vs.set i v') d := by
  have hid : ∀ k M fr, w.heap[k]? = some (.cells M 5 fr) → ¬ k = nb := fun k M fr hk e => by
    subst e
    rw [h.row] at hk
    injection hk with e1
    injection e1 with _ e2
    exact absurd e2 (by decide)
  refine ⟨hm.row, h.low, by rw [List.length_set]; exact h.n3, h.m3, ?_, ?_, h.room1, h.fuse1, h.used, h.few⟩
  · intro j v g h1 h2
    rw [List.getElem?_set] at h1
    by_cases hij : i = j
    · subst hij
      rw [if_pos rfl, if_pos hv] at h1
      rw [List.getElem?_eq_getElem hi, hf] at h2
      cases h1; cases h2
      have hF := h.each i _ _ (List.getElem?_eq_getElem hv) (List.getElem?_eq_getElem hi)
      rw [hf] at hF
      exact ⟨hk, hn, ⟨vals, ho, fun j x s hx hs => (hvals j x s hx hs).touch hm.turn hid⟩, hnd, hF.ok⟩
    · rw [if_neg hij] at h1
      obtain ⟨vals', ho', _⟩ := (h.each j v g h1 h2).steps
      exact (h.each j v g h1 h2).touch hm.turn hid (fun k hk => own_ne_cells' ho' h.row (by decide) k hk)
  · intro j j' v v2 k h1 h2 h3 h4
    have key : ∀ (a : Nat) (va : FV), vs[a]? = some va → va.sv.ownBlock = some k → ¬ v'.sv.ownBlock = some k := fun a va hva hk hk2 => by
      have h5 := hfr k hk2
      have h6 := (h.ownLt k (.inr ⟨va, List.mem_of_getElem? hva, hk⟩)).2
      omega
    rw [List.getElem?_set] at h1 h2
    by_cases hij : i = j
    · subst hij
      rw [if_pos rfl, if_pos hv] at h1
      cases h1
      by_cases hij' : i = j'
      · exact hij'
      · rw [if_neg hij'] at h2
        exact absurd h3 (key j' v2 h2 h4)
    · rw [if_neg hij] at h1
      by_cases hij' : i = j'
      · subst hij'
        rw [if_pos rfl, if_pos hv] at h2
        cases h2
        exact absurd h4 (key j v h1 h3)
      · rw [if_neg hij'] at h2
        exact h.apart j j' v v2 k h1 h2 h3 h4
def CloneI (base nb B : Nat) (vs : List FV) (d : DD) (w : World) (k : Nat) (wr : World) : Prop :=
  ∃ vsr, DAt wr base nb vsr d ∧ Below B w wr ∧ ∀ (j : Nat) v, vsr[j]? = some v → (j < k → ∀ b, v.sv.ownBlock = some b → B ≤ b) ∧ (k ≤ j → vs[j]? = some v)
def CloneP (base : Nat) (d : DD) (w : World) (e : Ending) (w' : World) : Prop := ∃ nb vs', e = .returned (.pointer (some ⟨nb, 0, none⟩)) ∧ DAt w' base nb vs' d ∧ Below w.heap.size w w' ∧ ∀ k, DOwn nb vs' k → w.heap.size ≤ k
theorem CloneI.done {base nb : Nat} {vs : List FV} {d : DD} {w wr : World} (h : CloneI base nb w.heap.size vs d w 3 wr) (hnb : w.heap.size ≤ nb) : CloneP base d w (.returned (.pointer (some ⟨nb, 0, none⟩))) wr := by
  obtain ⟨vsr, hd, hb, hf⟩ := h
  refine ⟨nb, vsr, rfl, hd, hb, fun k hk => ?_⟩
  rcases hk with rfl | ⟨v, hv, hk⟩
  · exact hnb
  · obtain ⟨i, hi⟩ := List.mem_iff_getElem?.1 hv
    have hlt : i < 3 := by rw [← hd.n3]; exact (List.getElem?_eq_some_iff.1 hi).1
    exact (hf i v hi).1 hlt k hk
theorem CloneI.step {base nb B : Nat} {vs vsr : List FV} {d : DD} {w wr w' : World} {k : Nat} {v' : FV} (hd : DAt w' base nb (vsr.set k v') d) (hb : Below B w wr) (ht : Turns (fun k => k = nb) wr w') (hnb : B ≤ nb) (hB : B ≤ wr.heap.size)
    (hf : ∀ (j : Nat) v, vsr[j]? = some v → (j < k → ∀ b, v.sv.ownBlock = some b → B ≤ b) ∧ (k ≤ j → vs[j]? = some v)) (hk : k < vsr.length) (hfr : ∀ b, v'.sv.ownBlock = some b → wr.heap.size ≤ b) : CloneI base nb B vs d w (k + 1) w' := by
  refine ⟨_, hd, hb.trans (ht.below hB (fun i hi => by rw [hi]; exact hnb)), fun j v hj => ?_⟩
  rw [List.getElem?_set] at hj
  by_cases hkj : k = j
  · subst hkj
    rw [if_pos rfl, if_pos hk] at hj
    cases hj
    exact ⟨fun _ b hb => Nat.le_trans hB (hfr b hb), fun h => by omega⟩
  · rw [if_neg hkj] at hj
    exact ⟨fun h => (hf j v hj).1 (by omega), fun h => (hf j v hj).2 (by omega)⟩
end Go.Proofs.YtkacmgfehmjijaaGreatDoor.Dk

namespace Go.Proofs.YtkacmgfehmjijaaGreatDoor.Dk
open Go.RowKit Go.Mir Go.Mir.Parts

/-- bytes put at whatever file -/
def putD (d : DD) (i : Int) (b : List UInt8) : DD := if 0 ≤ i then (match d.fs[i.toNat]? with | some f => doD d i.toNat f (.put b) | none => d) else d
/-- a cut at whatever file, to whatever size -/
def cutD (d : DD) (i m : Int) : DD := if 0 ≤ i then (match d.fs[i.toNat]? with | some f => if 0 ≤ m ∧ m ≤ (f.now.length : Int) then doD d i.toNat f (.cut m.toNat) else d | none => d) else d
/-- a sync at whatever file -/
def synD (d : DD) (i : Int) : DD := if 0 ≤ i then (match d.fs[i.toNat]? with | some f => syncD d i.toNat f | none => d) else d
theorem LeftD.same {w w' : World} {base db : Nat} {vs : List FV} {d : DD} (h : DAt w base db vs d) (hb : Below w.heap.size w w') : LeftD base db vs d w w' := ⟨vs, h.below hb, Turns.of_below hb, fun _ hk => .inl hk⟩
/-- a file of a disk's by its number -/
theorem file_cases {w : World} {base db : Nat} {vs : List FV} {d : DD} (h : DAt w base db vs d) (i : Int) :
    (∃ k : Nat, ∃ hk : k < d.fs.length, i = (k : Int) ∧ 0 ≤ i ∧ d.fs[i.toNat]? = some (d.fs[k]'hk) ∧ i.toNat = k) ∨ ((i < 0 ∨ 3 ≤ i) ∧ (¬ 0 ≤ i ∨ (0 ≤ i ∧ d.fs[i.toNat]? = none))) := by
  have h3 := h.m3
  by_cases h0 : 0 ≤ i
  · by_cases h1 : i < 3
    · have hk : i.toNat < d.fs.length := by omega
      exact .inl ⟨i.toNat, hk, by omega, h0, List.getElem?_eq_getElem hk, rfl⟩
    · exact .inr ⟨.inr (by omega), .inr ⟨h0, List.getElem?_eq_none (by omega)⟩⟩
  · exact .inr ⟨.inl (by omega), .inl h0⟩
def Said (base db : Nat) (vs : List FV) (d' : DD) (w : World) (e : Ending) (w' : World) : Prop := (∃ x, e = .returned (.int .i64 x)) ∧ LeftD base db vs d' w w'
theorem append_all {base db : Nat} {vs : List FV} {d : DD} (w : World) (h : DAt w base db vs d) (hbase : base ≤ w.heap.size) (i : Int) (p : Option Addr) (n c : Nat) (b : List UInt8) (hb : Bs w p n c b) (hn : n ≤ 140737488355328) (hfew : ∀ f ∈ d.fs, f.steps.length + 1 ≤ 4398046511104) :
    Calls Tryz.prog 13 #[.pointer (some ⟨db, 0, none⟩), .int .i64 i, .slice p n c] w (Said base db vs (putD d i b) w) := by
  rcases file_cases h i with ⟨k, hk, rfl, h0, hf, hki⟩ | ⟨ho, hr⟩
  · have e1 : putD d (k : Int) b = doD d k d.fs[k] (.put b) := by unfold putD; rw [if_pos h0, hf, hki]
    rw [e1]
    exact (append_in w h hbase k hk _ rfl p n c b hb hn (hfew _ (List.getElem_mem hk))).mono fun e w' ⟨h1, h2⟩ => ⟨⟨_, h1⟩, h2⟩
  · have e1 : putD d i b = d := by
      unfold putD
      rcases hr with hr | ⟨h0, hr⟩
      · rw [if_neg hr]
      · rw [if_pos h0, hr]
    rw [e1]
    exact (append_out w h i ho p n c b hb hn).mono fun e w' ⟨h1, h2⟩ => ⟨⟨_, h1⟩, LeftD.same h h2⟩
theorem cut_all {base db : Nat} {vs : List FV} {d : DD} (w : World) (h : DAt w base db vs d) (hbase : base ≤ w.heap.size) (i m : Int) (hfew : ∀ f ∈ d.fs, f.steps.length + 1 ≤ 4398046511104) :
    Calls Tryz.prog 38 #[.pointer (some ⟨db, 0, none⟩), .int .i64 i, .int .i64 m] w (Said base db vs (cutD d i m) w) := by
  rcases file_cases h i with ⟨k, hk, rfl, h0, hf, hki⟩ | ⟨ho, hr⟩
  · have e1 : cutD d (k : Int) m = if 0 ≤ m ∧ m ≤ ((d.fs[k]).now.length : Int) then doD d k d.fs[k] (.cut m.toNat) else d := by unfold cutD; rw [if_pos h0, hf, hki]
    rw [e1]
    by_cases hm : 0 ≤ m ∧ m ≤ ((d.fs[k]).now.length : Int)
    · rw [if_pos hm]
      have hmm : ((m.toNat : Nat) : Int) = m := by omega
      have := cut_in w h hbase k hk _ rfl m.toNat (by omega) (hfew _ (List.getElem_mem hk))
      rw [hmm] at this
      exact this.mono fun e w' ⟨h1, h2⟩ => ⟨⟨_, h1⟩, h2⟩
    · rw [if_neg hm]
      have hb : Calls Tryz.prog 39 #[.pointer (some ⟨db, 0, none⟩), .int .i64 (k : Int), .iface 106 (.agg #[.int .i64 m])] w fun e w' => e = .returned (.int .i64 1) ∧ Below w.heap.size w w' := by
        by_cases hl : m < 0
        · exact do_bad_lo w h k hk _ rfl m hl
        · exact do_bad_hi w h k hk _ rfl m (by omega)
      exact (cut_bad w _ m hb h).mono fun e w' ⟨h1, h2⟩ => ⟨⟨_, h1⟩, LeftD.same h h2⟩
  · have e1 : cutD d i m = d := by
      unfold cutD
      rcases hr with hr | ⟨h0, hr⟩
      · rw [if_neg hr]
      · rw [if_pos h0, hr]
    rw [e1]
    exact (cut_bad w i m (do_out w h i ho _ (.inr ⟨m, rfl⟩)) h).mono fun e w' ⟨h1, h2⟩ => ⟨⟨_, h1⟩, LeftD.same h h2⟩
theorem sync_all {base db : Nat} {vs : List FV} {d : DD} (w : World) (h : DAt w base db vs d) (hbase : base ≤ w.heap.size) (i : Int) :
    Calls Tryz.prog 36 #[.pointer (some ⟨db, 0, none⟩), .int .i64 i] w (Said base db vs (synD d i) w) := by
  rcases file_cases h i with ⟨k, hk, rfl, h0, hf, hki⟩ | ⟨ho, hr⟩
  · have e1 : synD d (k : Int) = syncD d k d.fs[k] := by unfold synD; rw [if_pos h0, hf, hki]
    rw [e1]
    exact (sync_in w h hbase k hk _ rfl).mono fun e w' ⟨h1, h2⟩ => ⟨⟨_, h1⟩, h2⟩
  · have e1 : synD d i = d := by
      unfold synD
      rcases hr with hr | ⟨h0, hr⟩
      · rw [if_neg hr]
      · rw [if_pos h0, hr]
    rw [e1]
    exact (sync_out w h i ho).mono fun e w' ⟨h1, h2⟩ => ⟨⟨_, h1⟩, h2 ▸ LeftD.same h (Below.refl _ _)⟩
end Go.Proofs.YtkacmgfehmjijaaGreatDoor.Dk

namespace Go.Proofs.YtkacmgfehmjijaaGreatDoor.Dk
open Go.RowKit Go.Mir

/-- how many units a crash keeps -/
def crU (us : List Int) (k : Nat) (f : FD) : Nat := match us[k]? with
  | some x => ((x.tmod ((unitsAll f.steps + 1 : Nat) : Int) + ((unitsAll f.steps + 1 : Nat) : Int)).tmod ((unitsAll f.steps + 1 : Nat) : Int)).toNat
  | none => 0
def crF (us : List Int) : Nat → List FD → List FD
  | _, [] => []
  | k, f :: r => f.settle (crU us k f) :: crF us (k + 1) r
def crashD (us : List Int) (d : DD) : DD := ⟨crF us 0 d.fs, d.room, 0, false⟩
def crashM (us : List Int) (d : DD) (k : Nat) : DD := ⟨crF us 0 (d.fs.take k) ++ d.fs.drop k, d.room, d.fuse, d.down⟩
theorem crashM_zero (us : List Int) (d : DD) : crashM us d 0 = d := by simp [crashM, crF]
theorem crashM_get {us : List Int} {d : DD} (h : d.fs.length = 3) (k : Nat) (hk : k < 3) (hk2 : k < (crashM us d k).fs.length) : (crashM us d k).fs[k]'hk2 = d.fs[k]'(by omega) := by
  obtain ⟨fs, room, fuse, down⟩ := d
  obtain ⟨a, b, c, rfl⟩ := list3 h
  match k, hk with
  | 0, _ => rfl
  | 1, _ => rfl
  | 2, _ => rfl
theorem crashM_step {us : List Int} {d : DD} (h : d.fs.length = 3) (k : Nat) (hk : k < 3) : setF (crashM us d k) k ((d.fs[k]'(by omega)).settle (crU us k (d.fs[k]'(by omega)))) = crashM us d (k + 1) := by
  obtain ⟨fs, room, fuse, down⟩ := d
  obtain ⟨a, b, c, rfl⟩ := list3 h
  match k, hk with
  | 0, _ => rfl
  | 1, _ => rfl
  | 2, _ => rfl
theorem crU_le {us : List Int} {k : Nat} {f : FD} : crU us k f ≤ unitsAll f.steps := by
  unfold crU
  cases us[k]? with
  | none => exact Nat.zero_le _
  | some x =>
    dsimp only
    have h0 : (0 : Int) < ((unitsAll f.steps + 1 : Nat) : Int) := by omega
    have h1 := Int.tmod_lt_of_pos (x.tmod ((unitsAll f.steps + 1 : Nat) : Int) + ((unitsAll f.steps + 1 : Nat) : Int)) h0
    omega
/-- ints in memory -/
structure Ns (w : World) (p : Option Addr) (n c : Nat) (us : List Int) : Prop where
  sl : Sl w p n c 1 (us.map (Value.int .i64))
  count : us.length = n
  bd : ∀ x ∈ us, -9223372036854775808 ≤ x ∧ x ≤ 9223372036854775807
theorem Ns.turn {S : Nat → Prop} {w w' : World} {p : Option Addr} {n c : Nat} {us : List Int} (h : Ns w p n c us) (ht : Turns S w w') (hs : ∀ a, p = some a → ¬ S a.block) : Ns w' p n c us := ⟨h.sl.touch ht (fun a ha _ hk => hs a ha hk), h.count, h.bd⟩

set_option maxRecDepth 100000 in
set_option maxHeartbeats 1600000 in
theorem crash_any {base db : Nat} {vs : List FV} {d : DD} (w : World) (h : DAt w base db vs d) (hbase : base ≤ w.heap.size) (us : List Int) (p : Option Addr) (c : Nat) (hN : Ns w p us.length c us) (hap : ∀ a, p = some a → ¬ DOwn db vs a.block ∧ a.block < w.heap.size) :
    Calls Tryz.prog 17 #[.pointer (some ⟨db, 0, none⟩), .slice p us.length c] w fun e w' => e = .returned (.tuple #[]) ∧ LeftD base db vs (crashD us d) w w' := by
  have H := Lib.hid h
  have HBASE := Lib.hid hbase
  have HM3 := Lib.hid h.m3
  have HN := Lib.hid hN
  have HAP := Lib.hid hap
  have hle := hN.sl.le
  have hmax := hN.sl.max
  clear h hN hap
  go_enter Tryz.func17, Tryz.ntmps17
  go_wp2_with fail
  refine (none_any w H.out).mono ?_
  rintro e w' ⟨rfl, rfl⟩
  go_wp2_with fail
  go_loopw [10] (fun j wr => ∃ k : Nat, k ≤ 3 ∧ j = .int .i64 k ∧ LeftD base db vs (crashM us d k) w wr) (fun j _ => 3 - (intOf j).toNat)
  case atStart => exact ⟨0, by omega, rfl, vs, by rw [crashM_zero]; exact H.out, Turns.refl _ _, fun k hk => .inl hk⟩
  case round =>
    obtain ⟨k, hk, rfl, vs1, hd1, ht1, hn1⟩ := hrel
    have HD1 := Lib.hid hd1
    have HT1 := Lib.hid ht1
    have HN1 := Lib.hid hn1
    clear hd1 ht1 hn1
    by_cases hlt : k < 3
    · have hd : decide ((k : Int) < 3) = true := decide_eq_true (by omega)
      have hd2 : decide (k < 3) = true := decide_eq_true (by omega)
      have hk1 : (k : Int) < 3 := by omega
      have hk0 : (0 : Int) ≤ (k : Int) := by omega
      have HKL : Hid (k < (crashM us d k).fs.length) := by show _ < _; rw [HD1.out.m3]; exact hlt
      have HFE : Hid ((crashM us d k).fs[k]'HKL.out = d.fs[k]'(by have := HM3.out; omega)) := crashM_get HM3.out k hlt HKL.out
      have HSP := Lib.hid (crashM_step (us := us) HM3.out k hlt)
      have HU := Lib.hid (fileUnits_any wr HD1.out k HKL.out)
      rw [HFE.out] at HU
      have HUB : Hid (unitsAll (d.fs[k]'(by have := HM3.out; omega)).steps ≤ 1152921504606846976) := by
        show _ ≤ _
        have hv : k < vs1.length := by have := HD1.out.n3; omega
        have h1 := (HD1.out.each k _ _ (List.getElem?_eq_getElem hv) (List.getElem?_eq_getElem HKL.out)).ok.un
        have h2 := HD1.out.few _ (List.getElem_mem HKL.out)
        rw [HFE.out] at h1 h2
        omega
      have HCU : Hid (crU us k (d.fs[k]'(by have := HM3.out; omega)) ≤ unitsAll (d.fs[k]'(by have := HM3.out; omega)).steps) := crU_le
      generalize hff : d.fs[k]'(by have := HM3.out; omega) = f at *
      clear hff
      by_cases hku : k < us.length
      · have e0 : decide ((k : Int) < (us.length : Int)) = true := decide_eq_true (by omega)
        have e1 : decide (k < us.length) = true := decide_eq_true hku
        obtain ⟨g, o, rfl⟩ := HN.out.sl.addr (by omega) (by omega)
        have hcx : wr.cell? ⟨g, o + k, none⟩ = some (.int .i64 (us[k]'hku)) := HT1.out.cell (HN.out.sl.at (by simp [hku])) (fun hs => (HAP.out _ rfl).1 hs)
        have HXE : Hid (us[k]? = some (us[k]'hku)) := List.getElem?_eq_getElem hku
        have HXB := Lib.hid (HN.out.bd _ (List.getElem_mem hku))
        generalize us[k] = x at *
        have HCE : Hid (crU us k f = ((x.tmod ((unitsAll f.steps + 1 : Nat) : Int) + ((unitsAll f.steps + 1 : Nat) : Int)).tmod ((unitsAll f.steps + 1 : Nat) : Int)).toNat) := by show _ = _; unfold crU; rw [HXE.out]
        generalize hua : unitsAll f.steps = ua at *
        obtain ⟨A, hA⟩ : ∃ A, A = ua + 1 := ⟨_, rfl⟩
        have hA0 : 1 ≤ A := by omega
        have hAB : A ≤ 1152921504606846977 := by have := HUB.out; omega
        rw [← hA] at HCE
        have hua1 : IntKind.i64.wrap ((ua : Int) + 1) = (A : Int) := by rw [show ((ua : Int) + 1) = (A : Int) by omega]; exact IntWalk.i64_in _ (by omega)
        have hua2 : (ua : Int) + 1 = (A : Int) := by omega
        obtain ⟨r, hr⟩ : ∃ r, x.tmod (A : Int) = r := ⟨_, rfl⟩
        have hr1 : -(A : Int) < r ∧ r < (A : Int) := by
          rw [← hr]
          exact ⟨Int.lt_tmod_of_pos x (by omega), Int.tmod_lt_of_pos x (by omega)⟩
        obtain ⟨mm, hmm⟩ : ∃ mm : Nat, (r + (A : Int)).tmod (A : Int) = (mm : Int) := by
          have h1 : 0 ≤ (r + (A : Int)).tmod (A : Int) := Int.tmod_nonneg _ (by omega)
          exact ⟨((r + (A : Int)).tmod (A : Int)).toNat, by omega⟩
        have HME : Hid (mm = crU us k f) := by show _ = _; rw [HCE.out, hr, hmm]; simp
        have hmb : mm ≤ 4611686018427387904 := by have := HCU.out; have := HUB.out; have := HME.out; omega
        have hne0 : ((A : Int) == 0) = false := by rw [beq_eq_false_iff_ne]; omega
        have hne1 : ¬ (A : Int) = 0 := by omega
        have hne2 : ¬ A = 0 := by omega
        have hwr : IntKind.i64.wrap r = r := IntWalk.i64_in _ (by omega)
        have hws : IntKind.i64.wrap (r + (A : Int)) = r + (A : Int) := IntWalk.i64_in _ (by omega)
        have hwm : IntKind.i64.wrap (mm : Int) = (mm : Int) := IntWalk.i64_in _ (by omega)
        clear hA
        go_wp2_with fail
        refine (HU.out).mono ?_
        rintro e w2 ⟨rfl, hb2⟩
        have HB2 := Lib.hid hb2
        have hcx2 : w2.cell? ⟨g, o + k, none⟩ = some (.int .i64 x) := cell_below hcx hb2
        have HST := Lib.hid (settle_any w2 (HD1.out.below hb2) (Nat.le_trans HBASE.out (Nat.le_trans HT1.out.size hb2.size)) k HKL.out f HFE.out mm hmb)
        clear hb2 HU hcx
        go_wp2_with fail
        refine (HST.out).mono ?_
        rintro e w3 ⟨rfl, ⟨vs3, hd3, hn3⟩, ht3⟩
        have HL3 : Hid (LeftD base db vs (crashM us d (k + 1)) w w3) := by
          have hd3' := hd3
          have e1 : setF (crashM us d k) k (f.settle mm) = crashM us d (k + 1) := by rw [← HSP.out, HME.out]
          rw [e1] at hd3'
          refine LeftD.trans HN1.out HT1.out (LeftD.from HB2.out ⟨vs3, hd3', ht3.imp (fun k _ hk => .inl hk), fun k hk => ?_⟩)
          rcases hk with hk | ⟨v, hv, hk⟩
          · exact .inl (.inl hk)
          · exact .inl (.inr (hn3 v hv k hk))
        clear hd3 hn3 ht3 HST
        go_wp2_with fail
        go_roundw
        case rel => exact ⟨k + 1, by omega, by go_num, HL3.out⟩
        case measure => simp [intOf]; omega
      · have e0 : decide ((k : Int) < (us.length : Int)) = false := decide_eq_false (by omega)
        have e1 : decide (k < us.length) = false := decide_eq_false hku
        obtain ⟨mm, hmm⟩ : ∃ mm : Nat, mm = 0 := ⟨_, rfl⟩
        have HME : Hid (mm = crU us k f) := by show _ = _; unfold crU; rw [List.getElem?_eq_none (by omega), hmm]
        have HST := Lib.hid (settle_any wr HD1.out (Nat.le_trans HBASE.out HT1.out.size) k HKL.out f HFE.out mm (by omega))
        have hm0 : (mm : Int) = 0 := by omega
        rw [hm0] at HST
        clear hm0
        go_wp2_with fail
        refine (HST.out).mono ?_
        rintro e w3 ⟨rfl, ⟨vs3, hd3, hn3⟩, ht3⟩
        have HL3 : Hid (LeftD base db vs (crashM us d (k + 1)) w w3) := by
          have hd3' := hd3
          have e1 : setF (crashM us d k) k (f.settle mm) = crashM us d (k + 1) := by rw [← HSP.out, HME.out]
          rw [e1] at hd3'
          refine LeftD.trans HN1.out HT1.out (LeftD.from (Below.refl _ _) ⟨vs3, hd3', ht3.imp (fun k _ hk => .inl hk), fun k hk => ?_⟩)
          rcases hk with hk | ⟨v, hv, hk⟩
          · exact .inl (.inl hk)
          · exact .inl (.inr (hn3 v hv k hk))
        clear hd3 hn3 ht3 HST
        go_wp2_with fail
        go_roundw
        case rel => exact ⟨k + 1, by omega, by go_num, HL3.out⟩
        case measure => simp [intOf]; omega
    · have hd : decide ((k : Int) < 3) = false := decide_eq_false (by omega)
      have hd2 : decide (k < 3) = false := decide_eq_false (by omega)
      obtain rfl : k = 3 := by omega
      obtain ⟨hc0, hc1, hc2, hfz⟩ := HD1.out.cells
      have HL3 : Hid (LeftD base db vs (crashD us d) w ((wr.setCell ⟨db, 13, none⟩ (.int .i64 0)).setCell ⟨db, 14, none⟩ (.bool false))) := by
        have ht2 : Turns (fun k => k = db) wr ((wr.setCell ⟨db, 13, none⟩ (.int .i64 0)).setCell ⟨db, 14, none⟩ (.bool false)) := ((Turns.refl (fun k => k = db) wr).setCell (p := ⟨db, 13, none⟩) (fun _ => rfl) _).setCell (p := ⟨db, 14, none⟩) (fun _ => rfl) _
        obtain ⟨s1, _, _⟩ := dA_set HD1.out.n3 (crashM us d 3).room (crashM us d 3).fuse (crashM us d 3).down
        obtain ⟨_, s2, _⟩ := dA_set HD1.out.n3 (crashM us d 3).room 0 (crashM us d 3).down
        have r2 := cell_put (off := 13) (.int .i64 0) HD1.out.row
        have s1' := s1 0
        rw [show ((0 : Nat) : Int) = (0 : Int) from rfl] at s1'
        rw [s1'] at r2
        have r3 := cell_put (off := 14) (.bool false) r2
        rw [s2 false] at r3
        have hd4 := HD1.out.reRow ht2 r3 (by omega)
        have he : (⟨(crashM us d 3).fs, (crashM us d 3).room, 0, false⟩ : DD) = crashD us d := by
          have := HM3.out
          obtain ⟨fs, room, fuse, down⟩ := d
          obtain ⟨a, b, c, rfl⟩ := list3 this
          rfl
        rw [he] at hd4
        exact LeftD.trans HN1.out HT1.out (LeftD.row HD1.out hd4 ht2)
      go_wp2_with fail
      go_end0
      exact ⟨rfl, HL3.out⟩
end Go.Proofs.YtkacmgfehmjijaaGreatDoor.Dk

namespace Go.Proofs.YtkacmgfehmjijaaGreatDoor.Cut
open Go.RowKit Go.Mir Go.Mir.Parts

def cutQ (p : Option Addr) (c k : Nat) : Option Addr := if c = k then p else p.map (·.add k)
theorem bs_cut {w : World} {p : Option Addr} {L c : Nat} {l : List UInt8} (h : Bs w p L c l) (k m : Nat) (hk : k + m ≤ L) : Bs w (cutQ p c k) m (c - k) ((l.drop k).take m) := by
  have hle := h.le
  have hmax := h.max
  have hl := h.length
  unfold cutQ
  by_cases hc : c = k
  · have hm : m = 0 := by omega
    subst hm
    rw [if_pos hc, hc, Nat.sub_self, List.take_zero]
    exact ⟨by simp [bytesV], Nat.le_refl _, by omega, fun _ => rfl, fun a ha j u hu => by simp [bytesV] at hu⟩
  · rw [if_neg hc]
    refine ⟨by rw [bytesV_length, List.length_take, List.length_drop, Nat.mul_one]; omega, by omega, by omega, fun hq => ?_, fun a ha j u hu => ?_⟩
    · cases p with
      | none => have := h.nil0 rfl; omega
      | some a => cases hq
    · cases p with
      | none => cases ha
      | some a0 =>
        have hj : j < m := by
          have := (List.getElem?_eq_some_iff.1 hu).1
          rw [bytesV_length, List.length_take] at this
          omega
        obtain ⟨b, o, hbo⟩ := h.addr (by omega) (by omega)
        obtain rfl := Option.some.inj hbo
        obtain rfl := Option.some.inj ha
        have h1 : (bytesV l)[k + j]? = some u := by
          rw [bytesV, List.getElem?_map] at hu ⊢
          rw [List.getElem?_take, if_pos hj, List.getElem?_drop] at hu
          exact hu
        have h2 := h.cell _ rfl (k + j) u h1
        rw [add_none] at h2
        show w.cell? (((⟨b, o, none⟩ : Addr).add k).add j) = some u
        rw [add_none, add_none, Nat.add_assoc]
        exact h2
theorem bs_drop {w : World} {p : Option Addr} {L c : Nat} {l : List UInt8} (h : Bs w p L c l) (k : Nat) (hk : k ≤ L) : Bs w (cutQ p c k) (L - k) (c - k) (l.drop k) := by
  have := bs_cut h k (L - k) (by omega)
  rwa [List.take_of_length_le (by rw [List.length_drop, h.length]; omega)] at this
theorem bs_take {w : World} {p : Option Addr} {n c k : Nat} {l : List UInt8} (h : Bs w p n c l) (hk : k ≤ n) : Bs w p k c (l.take k) :=
  ⟨by rw [bytesV_length, List.length_take, h.length, Nat.mul_one]; exact Nat.min_eq_left hk, Nat.le_trans hk h.le, h.max, h.nil0, fun a ha j u hu => by
    rw [show bytesV (l.take k) = (bytesV l).take k by simp [bytesV, List.map_take], List.getElem?_take] at hu
    split at hu
    · exact h.cell a ha j u hu
    · cases hu⟩
theorem cut3 {w : World} {p : Option Addr} {L c : Nat} {l : List UInt8} (h : Bs w p L c l) (k m : Nat) (lo hi : Int) (hlo : lo = (k : Int)) (hhi : hi = ((k + m : Nat) : Int)) (hk : k + m ≤ L) :
    ∀ w0, (Instr.sliceAt 31 (.slice p L c) (some (.int .i64 lo)) (some (.int .i64 hi)) none).run Tryz.prog w0 = .ok (.slice (cutQ p c k) m (c - k)) w0 := by
  subst hlo hhi
  have hle := h.le
  have hmax := h.max
  have hsz : (Tryz.prog.info? 5).map (·.size) = some 1 := by kernel_rfl
  obtain ⟨i, hi, hi1⟩ := Option.map_eq_some_iff.1 hsz
  have e1 : ((k : Int) + (m : Int)).toNat = k + m := by omega
  intro w0
  have hb1 : (0 : Int) ≤ (k : Int) + (m : Int) ∧ (k : Int) + (m : Int) ≤ (c : Int) := by omega
  have hb3 : (0 : Int) ≤ (k : Int) ∧ (k : Int) ≤ ((k + m : Nat) : Int) := by omega
  simp [Instr.sliceAt, Instr.slice, cutQ, run_underlying Tryz.underlying31, Instr.sliceBounds, Instr.sliceBound, asIntOf, sizeOf, typeInfo, hi, hi1, e1, hb1, hb3]
  try omega
theorem cut0 {w : World} {p : Option Addr} {L c : Nat} {l : List UInt8} (h : Bs w p L c l) (m : Nat) (hi : Int) (hhi : hi = (m : Int)) (hk : m ≤ L) :
    ∀ w0, (Instr.sliceAt 31 (.slice p L c) none (some (.int .i64 hi)) none).run Tryz.prog w0 = .ok (.slice p m c) w0 := by
  subst hhi
  have hle := h.le
  have hmax := h.max
  have hsz : (Tryz.prog.info? 5).map (·.size) = some 1 := by kernel_rfl
  obtain ⟨i, hi, hi1⟩ := Option.map_eq_some_iff.1 hsz
  intro w0
  have hb1 : (0 : Int) ≤ (m : Int) ∧ (m : Int) ≤ (c : Int) := by omega
  have hp : p.map (fun a => a.add 0) = p := by cases p <;> rfl
  simp [Instr.sliceAt, Instr.slice, run_underlying Tryz.underlying31, Instr.sliceBounds, Instr.sliceBound, asIntOf, sizeOf, typeInfo, hi, hi1, hb1, hp]
  try omega
/-- from a place on -/
theorem cutR {w : World} {p : Option Addr} {L c : Nat} {l : List UInt8} (h : Bs w p L c l) (k : Nat) (lo : Int) (hlo : lo = (k : Int)) (hk : k ≤ L) :
    ∀ w0, (Instr.sliceAt 31 (.slice p L c) (some (.int .i64 lo)) none none).run Tryz.prog w0 = .ok (.slice (cutQ p c k) (L - k) (c - k)) w0 := by
  subst hlo
  have hle := h.le
  have hmax := h.max
  have hsz : (Tryz.prog.info? 5).map (·.size) = some 1 := by kernel_rfl
  obtain ⟨i, hi, hi1⟩ := Option.map_eq_some_iff.1 hsz
  intro w0
  have hb1 : (0 : Int) ≤ (L : Int) ∧ (L : Int) ≤ (c : Int) := by omega
  have hb3 : (0 : Int) ≤ (k : Int) ∧ (k : Int) ≤ (L : Int) := by omega
  simp [Instr.sliceAt, Instr.slice, cutQ, run_underlying Tryz.underlying31, Instr.sliceBounds, Instr.sliceBound, asIntOf, sizeOf, typeInfo, hi, hi1, hb1, hb3]
  try omega
theorem bconv {w : World} {p : Option Addr} {n c : Nat} {l : List UInt8} (h : Bs w p n c l) : (convert 31 9 (.slice p n c)).run Tryz.prog w = .ok (.string (S l)) w :=
  run_conv (P := Tryz.prog) 31 9 5 Tryz.underlying31 Tryz.underlying5 Tryz.underlying9 h
theorem own_bs {w : World} {base n : Nat} {p : Option Addr} {c : Nat} {l : List UInt8} (h : w.ownsRow base 5 1 (.slice p n c) n (bytesV l)) : Bs w p n c l := by
  obtain ⟨p9, c9, e9, h9⟩ := own_sl h
  cases e9
  exact h9
/-- no bytes: nothing that could turn -/
theorem bs_zero {w w' : World} {p : Option Addr} {n c : Nat} {l : List UInt8} (h : Bs w p n c l) (hn : n = 0) : Bs w' p n c l := by
  subst hn
  have hl : l = [] := List.length_eq_zero_iff.1 h.length
  subst hl
  exact ⟨h.len, h.le, h.max, h.nil0, fun a ha j u hu => by simp [bytesV] at hu⟩
theorem bs_touch {S : Nat → Prop} {w w' : World} {p : Option Addr} {n c : Nat} {l : List UInt8} (h : Bs w p n c l) (ht : Turns S w w') (ho : 0 < n → ∀ a, p = some a → ¬ S a.block) : Bs w' p n c l := by
  by_cases h0 : 0 < n
  · exact h.touch ht (fun a ha _ => ho h0 a ha)
  · exact bs_zero h (by omega)
end Go.Proofs.YtkacmgfehmjijaaGreatDoor.Cut

namespace Go.Proofs.YtkacmgfehmjijaaGreatDoor.Rk
open Go.RowKit Go.Mir Go.Mir.Parts Dk

/-! ### plain -/
theorem unitsAll_take_succ (l : List St) (k : Nat) (h : k < l.length) : unitsAll (l.take (k + 1)) = unitsAll (l.take k) + (l[k]).units := by
  rw [List.take_succ_eq_append_getElem h, unitsAll_snoc]
theorem unitsAll_take_le (l : List St) (k : Nat) : unitsAll (l.take k) ≤ unitsAll l := by
  induction l generalizing k with
  | nil => simp
  | cons s r ih =>
    cases k with
    | zero => exact Nat.zero_le _
    | succ k => rw [List.take_succ_cons, unitsAll, unitsAll]; have := ih k; omega
/-- so many steps are so many units -/
theorem someU_take : ∀ (l : List St) (b : List UInt8) (k v : Nat), someU b (l.take k) v = someU b l (min v (unitsAll (l.take k)))
  | [], b, k, v => by simp [someU]
  | s :: r, b, 0, v => by rw [List.take_zero, someU, unitsAll, Nat.min_zero, someU_zero]
  | s :: r, b, k + 1, v => by
    rw [List.take_succ_cons, someU, someU, unitsAll, someU_take r]
    congr 1
    · congr 1; omega
    · omega

/-! ### in memory -/
/-- a step -/
def StR (w : World) (r : List Value) : St → Prop
  | .put b => ∃ q k, r = [.bool false, .int .i64 0, .slice q b.length k] ∧ Bs w q b.length k b
  | .cut m => r = [.bool true, .int .i64 (m : Int), .slice none 0 0]
theorem StR.below {w w' : World} {r : List Value} {s : St} (h : StR w r s) (hb : Below w.heap.size w w') : StR w' r s := by
  cases s with
  | put b => obtain ⟨q, k, h1, h2⟩ := h; exact ⟨q, k, h1, h2.below hb⟩
  | cut m => exact h
structure Ss (w : World) (p : Option Addr) (n c : Nat) (l : List St) : Prop where
  count : l.length = n
  out : ∃ rows, Rs w p n c 3 rows ∧ ∀ (i : Nat) r s, rows[i]? = some r → l[i]? = some s → StR w r s
theorem Ss.below {w w' : World} {p : Option Addr} {n c : Nat} {l : List St} (h : Ss w p n c l) (hb : Below w.heap.size w w') : Ss w' p n c l := by
  obtain ⟨rows, h1, h2⟩ := h.out
  exact ⟨h.count, rows, h1.below hb, fun i r s a b => (h2 i r s a b).below hb⟩
theorem Ss.nil (w : World) : Ss w none 0 0 [] := ⟨rfl, [], ⟨Sl.nil _ _, fun _ h => (nomatch h), rfl⟩, fun i r s h => (nomatch h)⟩
theorem Ss.bd {w : World} {p : Option Addr} {n c : Nat} {l : List St} (h : Ss w p n c l) : n ≤ c ∧ c ≤ 9223372036854775807 := by
  obtain ⟨rows, h1, _⟩ := h.out
  exact ⟨h1.sl.le, h1.sl.max⟩
theorem Ss.addr {w : World} {p : Option Addr} {n c : Nat} {l : List St} (h : Ss w p n c l) (hn : 0 < n) : ∃ b o, p = some ⟨b, o, none⟩ := by
  obtain ⟨rows, h1, _⟩ := h.out
  exact h1.sl.addr hn (by omega)
theorem Ss.row {w : World} {b o n c : Nat} {l : List St} (h : Ss w (some ⟨b, o, none⟩) n c l) (k : Nat) (hk : k < l.length) : ∃ r, r.length = 3 ∧ w.rangeAt b (o + k * 3) r ∧ StR w r l[k] := by
  obtain ⟨rows, h1, h2⟩ := h.out
  have hkr : k < rows.length := by rw [h1.count, ← h.count]; exact hk
  exact ⟨rows[k], h1.each _ (List.getElem_mem hkr), h1.row k hkr, h2 k _ _ (List.getElem?_eq_getElem hkr) (List.getElem?_eq_getElem hk)⟩
theorem Ss.cellsPut {w : World} {b o n c : Nat} {l : List St} (h : Ss w (some ⟨b, o, none⟩) n c l) (k : Nat) (hk : k < l.length) {B : List UInt8} (hs : l[k] = .put B) :
    ∃ q d, w.cell? ⟨b, o + k * 3, none⟩ = some (.bool false) ∧ w.cell? ⟨b, o + k * 3 + 2, none⟩ = some (.slice q B.length d) ∧ Bs w q B.length d B := by
  obtain ⟨r, _, h2, h3⟩ := h.row k hk
  rw [hs] at h3
  obtain ⟨q, d, rfl, h4⟩ := h3
  exact ⟨q, d, h2 0 _ rfl, h2 2 _ rfl, h4⟩
theorem Ss.cellsCut {w : World} {b o n c : Nat} {l : List St} (h : Ss w (some ⟨b, o, none⟩) n c l) (k : Nat) (hk : k < l.length) {m : Nat} (hs : l[k] = .cut m) :
    w.cell? ⟨b, o + k * 3, none⟩ = some (.bool true) ∧ w.cell? ⟨b, o + k * 3 + 1, none⟩ = some (.int .i64 (m : Int)) := by
  obtain ⟨r, _, h2, h3⟩ := h.row k hk
  rw [hs] at h3
  obtain rfl := h3
  exact ⟨h2 0 _ rfl, h2 1 _ rfl⟩
/-- a file -/
structure RF where
  kp : Option Addr
  kc : Nat
  sp : Option Addr
  sc : Nat
def fL (t : RF) (f : FD) : List Value := [.slice t.kp f.kept.length t.kc, .slice t.sp f.steps.length t.sc]
def fA (t : RF) (f : FD) : Array Value := (fL t f).toArray
structure RFAt (w : World) (t : RF) (f : FD) : Prop where
  kept : Bs w t.kp f.kept.length t.kc f.kept
  steps : Ss w t.sp f.steps.length t.sc f.steps
  ok : f.Ok
  few : f.steps.length ≤ 4398046511104
theorem RFAt.below {w w' : World} {t : RF} {f : FD} (h : RFAt w t f) (hb : Below w.heap.size w w') : RFAt w' t f := ⟨h.kept.below hb, h.steps.below hb, h.ok, h.few⟩
theorem RFAt.un {w : World} {t : RF} {f : FD} (h : RFAt w t f) : unitsAll f.steps ≤ 288230376151711744 := by
  have h1 := h.ok.un
  have h2 := h.few
  omega
set_option maxRecDepth 100000 in
set_option maxHeartbeats 800000 in
theorem runits_any (t : RF) (f : FD) (w : World) (h : RFAt w t f) :
    Calls Tryz.prog 32 #[.agg (fA t f)] w fun e w' => e = .returned (.int .i64 (unitsAll f.steps : Int)) ∧ Below w.heap.size w w' := by
  have HB1 := Lib.hid (Below.allocs w (.cells (fA t f) 34))
  have hrow := heap_alloc_last w (.cells (fA t f) 34)
  have hc1 : (w.alloc (.cells (fA t f) 34)).cell? ⟨w.heap.size, 1, none⟩ = some (.slice t.sp f.steps.length t.sc) := by rw [cell_of_row _ _ _ _ _ _ hrow]; rfl
  have HS := Lib.hid (h.steps.below HB1.out)
  have HUN := Lib.hid h.un
  obtain ⟨hle, hmax⟩ := h.steps.bd
  clear h hrow
  go_enter Tryz.func32, Tryz.ntmps32
  go_upto_region 1 with fail
  generalize w.alloc (.cells (fA t f) 34) = w1 at *
  go_wp2_with fail
  go_loop [3, 4] (fun x j => ∃ k : Nat, k ≤ f.steps.length ∧ j = .int .i64 k ∧ x = .int .i64 (unitsAll (f.steps.take k) : Nat)) (fun _ j => f.steps.length - (intOf j).toNat)
  case atStart => exact ⟨0, by omega, rfl, rfl⟩
  case round =>
    obtain ⟨k, hk, rfl, rfl⟩ := hrel
    by_cases hlt : k < f.steps.length
    · have hd : decide ((k : Int) < (f.steps.length : Int)) = true := decide_eq_true (by omega)
      have hd2 : decide (k < f.steps.length) = true := decide_eq_true hlt
      have hsu := unitsAll_take_succ f.steps k hlt
      have hul := unitsAll_take_le f.steps (k + 1)
      have hun := HUN.out
      obtain ⟨b, o, hb⟩ := HS.out.addr (by omega)
      rw [hb] at hc1 HS
      cases hs : f.steps[k] with
      | put B =>
        obtain ⟨q, d, e0, e2, hB⟩ := HS.out.cellsPut k hlt hs
        rw [hs] at hsu
        have hsu : unitsAll (f.steps.take (k + 1)) = unitsAll (f.steps.take k) + B.length := hsu
        have HSU := Lib.hid hsu
        have hwr : IntKind.i64.wrap ((unitsAll (f.steps.take k) : Int) + (B.length : Int)) = ((unitsAll (f.steps.take (k + 1)) : Nat) : Int) := by rw [IntWalk.i64_in _ (by omega)]; omega
        have HWR := Lib.hid hwr
        clear hB hs hsu hul hun
        go_wp2_with fail
        go_round
        case rel => exact ⟨k + 1, by omega, by go_num, by show Value.int _ ((_ : Int) + (B.length : Int)) = _; rw [HSU.out, Int.natCast_add]⟩
        case measure => simp [intOf]; omega
      | cut m =>
        obtain ⟨e0, e1⟩ := HS.out.cellsCut k hlt hs
        rw [hs] at hsu
        have hsu : unitsAll (f.steps.take (k + 1)) = unitsAll (f.steps.take k) + 1 := hsu
        have HSU := Lib.hid hsu
        have hwr : IntKind.i64.wrap ((unitsAll (f.steps.take k) : Int) + 1) = ((unitsAll (f.steps.take (k + 1)) : Nat) : Int) := by rw [IntWalk.i64_in _ (by omega)]; omega
        clear hs hsu hul hun
        go_wp2_with fail
        go_round
        case rel => exact ⟨k + 1, by omega, by go_num, by show Value.int _ ((_ : Int) + (1 : Int)) = _; rw [HSU.out, Int.natCast_add]; rfl⟩
        case measure => simp [intOf]; omega
    · obtain rfl : k = f.steps.length := by omega
      have hd : decide ((f.steps.length : Int) < (f.steps.length : Int)) = false := decide_eq_false (by omega)
      rw [List.take_length]
      go_wp2_with fail
      go_ret
      exact ⟨rfl, HB1.out⟩
end Go.Proofs.YtkacmgfehmjijaaGreatDoor.Rk

namespace Go.Proofs.YtkacmgfehmjijaaGreatDoor.Rk
open Go.RowKit Go.Mir Go.Mir.Parts Dk

theorem info8b : (Tryz.prog.info? 5).map (fun i => (i.zero, i.size, i.bytes)) = some (some (.int .u8 0), 1, 1) := by kernel_rfl
theorem infoSt (cs : Array Value) (h : cs.size = 3) : (Tryz.prog.info? 84).map (·.size) = some cs.size := by rw [h]; kernel_rfl
theorem infoFi (cs : Array Value) (h : cs.size = 2) : (Tryz.prog.info? 34).map (·.size) = some cs.size := by rw [h]; kernel_rfl
theorem zeroSt (w : World) : (zeroValue 84).run Tryz.prog w = .ok (.agg #[.bool false, .int .i64 0, .slice none 0 0]) w := by kernel_rfl
theorem own_cut {w : World} {base e : Nat} {p : Option Addr} {n c : Nat} {xs : List Value} (h : w.ownsRow base e 1 (.slice p n c) n xs) (m : Nat) (hm : m ≤ n) : w.ownsRow base e 1 (.slice p m c) m (xs.take m) := by
  have h1 := h.1
  refine ⟨by rw [List.length_take, h1]; omega, ?_⟩
  rcases h.2 with ⟨e1, hn⟩ | ⟨g, cap, cur, e1, hb, hg, hn, hmx, hs, ht⟩
  · obtain ⟨rfl, _, rfl⟩ := Value.slice.inj e1
    obtain rfl : m = 0 := by omega
    exact .inl ⟨rfl, rfl⟩
  · obtain ⟨rfl, _, rfl⟩ := Value.slice.inj e1
    exact .inr ⟨g, c, cur, rfl, hb, hg, by omega, hmx, hs, by rw [← ht, List.take_take]; congr 1; omega⟩
theorem own_type {w : World} {b e size n : Nat} {v : Value} {xs : List Value} (h : w.ownsRow b e size v n xs) : ∀ k M t fr, v.ownBlock = some k → w.heap[k]? = some (.cells M t fr) → t = e := by
  intro k M t fr hk hm
  rcases h.2 with ⟨rfl, _⟩ | ⟨g, cap, cur, rfl, _, hg, _⟩
  · simp [Value.ownBlock] at hk
  · simp [Value.ownBlock] at hk
    subst hk
    rw [hg] at hm
    injection hm with e1
    injection e1 with _ e2
    exact e2.symm
theorem okAll_at : ∀ (l : List St) (b : List UInt8) (k : Nat) (hk : k < l.length), okAll b l → (l[k]).ok (runAll b (l.take k)).length
  | s :: r, b, 0, _, h => h.1
  | s :: r, b, k + 1, hk, h => by
    rw [List.take_succ_cons, runAll]
    exact okAll_at r _ k (by simpa using hk) h.2
/-- what is done of so many units by the first k steps -/
def outU (f : FD) (U k : Nat) : List UInt8 := someU f.kept (f.steps.take k) U
def lefU (f : FD) (U k : Nat) : Nat := U - unitsAll (f.steps.take k)
theorem outU_zero (f : FD) (U : Nat) : outU f U 0 = f.kept := rfl
theorem lefU_zero (f : FD) (U : Nat) : lefU f U 0 = U := rfl
theorem outU_succ (f : FD) (U k : Nat) (hk : k < f.steps.length) : outU f U (k + 1) = (f.steps[k]).act (outU f U k) (min (lefU f U k) (f.steps[k]).units) := by
  unfold outU lefU
  rw [List.take_succ_eq_append_getElem hk, someU_snoc]
theorem lefU_succ (f : FD) (U k : Nat) (hk : k < f.steps.length) : lefU f U (k + 1) = lefU f U k - (f.steps[k]).units := by
  unfold lefU
  rw [unitsAll_take_succ _ _ hk]; omega
theorem outU_le {f : FD} (h : f.Ok) (U k : Nat) : (outU f U k).length ≤ f.need := by
  unfold outU
  rw [someU_take]
  exact h.all _
theorem outU_end (f : FD) (U k : Nat) (hk : k = f.steps.length ∨ lefU f U k = 0) : outU f U k = someU f.kept f.steps U := by
  unfold outU
  rcases hk with rfl | hk
  · rw [List.take_length]
  · unfold lefU at hk
    rw [someU_take]
    congr 1; omega
theorem outU_full {f : FD} (h : f.Ok) (U k : Nat) (hk : k < f.steps.length) (hu : 0 < lefU f U k) : (f.steps[k]).ok (outU f U k).length := by
  unfold lefU at hu
  unfold outU
  rw [someU_all _ _ _ (by omega)]
  exact okAll_at _ _ k hk h.ok
def DonP (l : List UInt8) (w : World) (e : Ending) (w' : World) : Prop := ∃ p c, e = .returned (.slice p l.length c) ∧ w'.ownsRow w.heap.size 5 1 (.slice p l.length c) l.length (bytesV l) ∧ Below w.heap.size w w'
set_option maxRecDepth 100000 in
set_option maxHeartbeats 3200000 in
theorem rdone_any (t : RF) (f : FD) (U : Nat) (w : World) (h : RFAt w t f) (hnb : f.need ≤ 1000000) (hU : U ≤ 1152921504606846976) :
    Calls Tryz.prog 44 #[.agg (fA t f), .int .i64 (U : Int)] w (DonP (someU f.kept f.steps U) w) := by
  have HB1 := Lib.hid (Below.allocs w (.cells (fA t f) 34))
  have hrow := heap_alloc_last w (.cells (fA t f) 34)
  have HROW := Lib.hid hrow
  have hc0 : (w.alloc (.cells (fA t f) 34)).cell? ⟨w.heap.size, 0, none⟩ = some (.slice t.kp f.kept.length t.kc) := by rw [cell_of_row _ _ _ _ _ _ hrow]; rfl
  have HS := Lib.hid (h.steps.below HB1.out)
  have HK := Lib.hid (h.kept.below HB1.out)
  have HOK := Lib.hid h.ok
  have HNB := Lib.hid hnb
  have HUN := Lib.hid h.un
  have HKL : Hid (f.kept.length ≤ 1000000) := Nat.le_trans h.ok.lek hnb
  obtain ⟨hle, hmax⟩ := h.steps.bd
  have hkl := h.kept.le
  have hkm := h.kept.max
  have hz := zeroSt
  clear h hrow hnb
  go_enter Tryz.func44, Tryz.ntmps44
  go_upto_region 1 with fail
  generalize w.alloc (.cells (fA t f) 34) = w1 at *
  have HBX : Hid (Below w1.heap.size w1 (w1.alloc (.cells #[] 5))) := Below.allocs _ _
  have HO : Hid ((w1.alloc (.cells #[] 5)).ownsRow w1.heap.size 5 1 (.slice (some ⟨w1.heap.size, 0, none⟩) 0 0) 0 []) := ⟨rfl, .inr ⟨w1.heap.size, 0, _, rfl, Nat.le_refl _, heap_alloc_last _ _, Nat.le_refl _, by simp [maxLen], rfl, rfl⟩⟩
  have HSX := Lib.hid (HK.out.below HBX.out)
  have hc0a := cell_below hc0 HBX.out
  have hkl6 := HKL.out
  go_upto_region 2 with (at_builtin; refine wpList_append_nx rfl _ _ 31 rfl (base := w1.heap.size) Tryz.underlying31 info8b rfl (by omega) rfl HO.out rfl HSX.out (bytesV_one _) ⟨by omega, by omega⟩ HBX.out.size ?_)
  intro p9 c9 x9 ho9 hg9 _ _
  have hb9 := HBX.out.grown hg9 HBX.out.size (fun k hk => (HO.out.lt k hk).1)
  try rw [Nat.zero_add] at ho9
  try rw [List.nil_append] at ho9
  have HB9 := Lib.hid hb9
  have HO9 : Hid (x9.ownsRow w1.heap.size 5 1 (.slice p9 (outU f U 0).length c9) (outU f U 0).length (bytesV (outU f U 0))) := ho9
  clear ho9 hg9 hb9 HO HSX HBX hc0 hc0a hkl hkm hkl6
  go_wp2_with fail
  go_loopw [1, 5, 6] (fun x1 x5 x6 wr => ∃ (k : Nat) (p : Option Addr) (c : Nat), k ≤ f.steps.length ∧ x6 = .int .i64 k ∧ x1 = .int .i64 (lefU f U k : Nat) ∧ x5 = .slice p (outU f U k).length c ∧ wr.ownsRow w1.heap.size 5 1 (.slice p (outU f U k).length c) (outU f U k).length (bytesV (outU f U k)) ∧ Below w1.heap.size w1 wr) (fun _ _ x6 _ => f.steps.length - (intOf x6).toNat)
  case atStart => exact ⟨0, p9, c9, by omega, rfl, rfl, rfl, HO9.out, HB9.out⟩
  case round =>
    clear HO9 HB9
    obtain ⟨k, p, c, hk, rfl, rfl, rfl, hown, hbw⟩ := hrel
    have HOW := Lib.hid hown
    have HBW := Lib.hid hbw
    have hc1 : wr.cell? ⟨w.heap.size, 1, none⟩ = some (.slice t.sp f.steps.length t.sc) := by rw [cell_of_row _ _ _ _ _ _ (Below.keepOld hbw HROW.out)]; rfl
    have HLE : Hid ((outU f U k).length ≤ 1000000) := Nat.le_trans (outU_le HOK.out U k) HNB.out
    have HS9 := Lib.hid (HS.out.below hbw)
    clear hown hbw
    by_cases hend : k < f.steps.length ∧ 0 < lefU f U k
    · obtain ⟨hlt, hpos⟩ := hend
      have hd : decide ((k : Int) < (f.steps.length : Int)) = true := decide_eq_true (by omega)
      have hd2 : decide (k < f.steps.length) = true := decide_eq_true hlt
      have hp1 : decide ((0 : Int) < (lefU f U k : Int)) = true := decide_eq_true (by omega)
      have hp2 : decide (0 < lefU f U k) = true := decide_eq_true hpos
      have hos := outU_succ f U k hlt
      have hls := lefU_succ f U k hlt
      have hokk := outU_full HOK.out U k hlt hpos
      have hlu : lefU f U k ≤ U := by unfold lefU; omega
      have heu := HOK.out.eu _ (List.getElem_mem hlt)
      obtain ⟨b, o, hb⟩ := HS9.out.addr (by omega)
      have hs1 := HS.out
      rw [hb] at hc1 hs1
      obtain ⟨r, _, hrg1, hst⟩ := hs1.row k hlt
      have hrg := range_below hrg1 HBW.out
      clear hs1 hrg1
      cases hs : f.steps[k] with
      | cut m =>
        rw [hs] at hst hos hls hokk
        obtain rfl := hst
        have hok : m ≤ (outU f U k).length := hokk
        have hos : outU f U (k + 1) = (outU f U k).take m := by
          rw [hos]
          show (if min (lefU f U k) 1 = 0 then _ else _) = _
          rw [if_neg (by omega)]
        have hls : lefU f U (k + 1) = lefU f U k - 1 := hls
        have HOS := Lib.hid hos
        have HLS := Lib.hid hls
        have HRG := Lib.hid hrg
        have HNW := Lib.hid (box_new wr #[.bool false, .int .i64 0, .slice none 0 0] 84)
        have hbr := box_row wr #[.bool false, .int .i64 0, .slice none 0 0] #[.bool true, .int .i64 (m : Int), .slice none 0 0] 84
        have hbb := box_below wr #[.bool false, .int .i64 0, .slice none 0 0] #[.bool true, .int .i64 (m : Int), .slice none 0 0] 84
        have HBB := Lib.hid hbb
        have hb0 := cell_of_row _ _ 0 _ _ _ hbr
        have hb1 := cell_of_row _ _ 1 _ _ _ hbr
        have HOW2 := Lib.hid (own_touch HOW.out (Turns.of_below (S := fun _ => False) hbb) (fun _ _ h => h))
        have HOC := Lib.hid (own_cut HOW2.out m hok)
        have hrun := Cut.cut0 (Cut.own_bs HOW2.out) m (m : Int) rfl hok
        have hwu : IntKind.i64.wrap ((lefU f U k : Int) - 1) = ((lefU f U (k + 1) : Nat) : Int) := by rw [IntWalk.i64_in _ (by omega)]; omega
        have HTL : Hid (((outU f U k).take m).length = m) := by show _ = _; rw [List.length_take]; omega
        clear hrg hbr hbb hs hos hls hokk heu
        go_upto_region 6 with (first
          | ((with_reducible refine wpAt 28 ?_); refine wpList_load_mid rfl 84 _ rfl b (o + k * 3) rfl [.bool true, .int .i64 (m : Int), .slice none 0 0] _ HRG.out Tryz.underlying84 rfl (infoSt #[.bool true, .int .i64 (m : Int), .slice none 0 0] rfl) ?_)
          | ((with_reducible refine wpStoreAt 7 ?_); refine wpList_store_row rfl 84 _ _ rfl wr.heap.size #[.bool true, .int .i64 (m : Int), .slice none 0 0] rfl rfl 84 #[.bool false, .int .i64 0, .slice none 0 0] HNW.out (infoSt _ rfl) rfl (by simp [Value.oneCell']) ?_))
        generalize (wr.alloc (.cells #[.bool false, .int .i64 0, .slice none 0 0] 84)).setRow wr.heap.size #[.bool true, .int .i64 (m : Int), .slice none 0 0] = w3 at *
        go_wp2_with fail
        go_roundw
        case rel => exact ⟨k + 1, p, c, by omega, by go_num, by rw [HLS.out]; go_num, by rw [HOS.out, HTL.out], by rw [HOS.out, HTL.out]; have := HOC.out; rwa [show (bytesV (outU f U k)).take m = bytesV ((outU f U k).take m) by simp [bytesV, List.map_take]] at this, HBW.out.trans (HBB.out.mono HBW.out.size)⟩
        case measure => simp [intOf]; omega
      | put B =>
        rw [hs] at hst hos hls heu
        obtain ⟨qb, db, rfl, hbs⟩ := hst
        have hos : outU f U (k + 1) = outU f U k ++ B.take (min (lefU f U k) B.length) := hos
        have hls : lefU f U (k + 1) = lefU f U k - B.length := hls
        have hBL : B.length ≤ 65536 := heu
        have HOS := Lib.hid hos
        have HLS := Lib.hid hls
        have HRG := Lib.hid hrg
        have HNW := Lib.hid (box_new wr #[.bool false, .int .i64 0, .slice none 0 0] 84)
        have hbr := box_row wr #[.bool false, .int .i64 0, .slice none 0 0] #[.bool false, .int .i64 0, .slice qb B.length db] 84
        have hbb := box_below wr #[.bool false, .int .i64 0, .slice none 0 0] #[.bool false, .int .i64 0, .slice qb B.length db] 84
        have HBB := Lib.hid hbb
        have HBR := Lib.hid hbr
        have hb0 := cell_of_row _ _ 0 _ _ _ hbr
        have HOW2 := Lib.hid (own_touch HOW.out (Turns.of_below (S := fun _ => False) hbb) (fun _ _ h => h))
        have HBQ : Hid (Bs w1 qb B.length db B) := hbs
        have HBW3 := Lib.hid (HBW.out.trans (hbb.mono HBW.out.size))
        have hble := hbs.le
        have hbmx := hbs.max
        clear hrg hbr hbb hs hos hls hokk heu hbs
        go_upto_region 6 with (first
          | ((with_reducible refine wpAt 28 ?_); refine wpList_load_mid rfl 84 _ rfl b (o + k * 3) rfl [.bool false, .int .i64 0, .slice qb B.length db] _ HRG.out Tryz.underlying84 rfl (infoSt #[.bool false, .int .i64 0, .slice qb B.length db] rfl) ?_)
          | ((with_reducible refine wpStoreAt 7 ?_); refine wpList_store_row rfl 84 _ _ rfl wr.heap.size #[.bool false, .int .i64 0, .slice qb B.length db] rfl rfl 84 #[.bool false, .int .i64 0, .slice none 0 0] HNW.out (infoSt _ rfl) rfl (by simp [Value.oneCell']) ?_))
        generalize (wr.alloc (.cells #[.bool false, .int .i64 0, .slice none 0 0] 84)).setRow wr.heap.size #[.bool false, .int .i64 0, .slice qb B.length db] = w3 at *
        have HLT3 : Hid (w1.heap.size ≤ wr.heap.size ∧ wr.heap.size < w3.heap.size) := ⟨HBW.out.size, (Array.getElem?_eq_some_iff.1 HBR.out).1⟩
        obtain ⟨LU, hLU⟩ : ∃ LU, lefU f U k = LU := ⟨_, rfl⟩
        obtain ⟨OU, hOU⟩ : ∃ OU, outU f U k = OU := ⟨_, rfl⟩
        rw [hLU] at HLS HOS hpos hlu hp1 hp2 ⊢
        rw [hOU] at HOS HOW2 HLE ⊢
        obtain ⟨g0, hg0⟩ : ∃ g0, wr.heap.size = g0 := ⟨_, rfl⟩
        rw [hg0] at HBR HLT3 hb0 ⊢
        clear hLU hOU hg0 HOW HNW HRG HBB HS9 HBW hp1 hp2 HROW
        go_wp2_with fail
        go_loopw [1, 5, 8] (fun x1 x5 x8 wq => ∃ (j : Nat) (p : Option Addr) (c : Nat), j ≤ B.length ∧ j ≤ LU ∧ x8 = .int .i64 j ∧ x1 = .int .i64 (LU - j : Nat) ∧ x5 = .slice p (OU.length + j) c ∧ wq.ownsRow w1.heap.size 5 1 (.slice p (OU.length + j) c) (OU.length + j) (bytesV (OU ++ B.take j)) ∧ Below w1.heap.size w1 wq ∧ wq.heap[g0]? = some (.cells #[.bool false, .int .i64 0, .slice qb B.length db] 84 (0, 0))) (fun _ _ x8 _ => B.length - (intOf x8).toNat)
        case atStart => exact ⟨0, p, c, by omega, by omega, rfl, rfl, rfl, by rw [List.take_zero, List.append_nil]; exact HOW2.out, HBW3.out, HBR.out⟩
        case round =>
          clear HOW2 HBW3 HBR hb0
          obtain ⟨j, pj, cj, hj1, hj2, rfl, rfl, rfl, hown, hbq, hrow⟩ := hrel
          have HOQ := Lib.hid hown
          have HBQW := Lib.hid hbq
          have HRQ := Lib.hid hrow
          have hb2 : wr.cell? ⟨g0, 2, none⟩ = some (.slice qb B.length db) := by rw [cell_of_row _ _ _ _ _ _ hrow]; rfl
          have HBC := Lib.hid (HBQ.out.below hbq)
          have hle6 := HLE.out
          clear hown hbq hrow
          by_cases hin : j < B.length ∧ j < LU
          · obtain ⟨hi1, hi2⟩ := hin
            have hd : decide ((j : Int) < (B.length : Int)) = true := decide_eq_true (by omega)
            have hd2 : decide (j < B.length) = true := decide_eq_true hi1
            have hp1 : decide ((0 : Int) < ((LU - j : Nat) : Int)) = true := decide_eq_true (by omega)
            have hp2 : decide (0 < LU - j) = true := decide_eq_true (by omega)
            obtain ⟨bb, ob, rfl⟩ := HBC.out.addr (by omega) (by omega)
            have hc' := Bs.byte HBC.out (j := j) hi1
            have htk := take_snoc B j hi1
            have HTK := Lib.hid htk
            generalize B[j]'hi1 = y at *
            have hwu : IntKind.i64.wrap (((LU - j : Nat) : Int) - 1) = ((LU - (j + 1) : Nat) : Int) := by rw [IntWalk.i64_in _ (by omega)]; omega
            have HWU := Lib.hid hwu
            obtain ⟨u1, hu1⟩ : ∃ u1, LU - j = u1 := ⟨_, rfl⟩
            rw [hu1] at hp1 hp2 hwu ⊢
            clear hu1 htk
            go_upto_region 12 with fail
            have hal : Below wr.heap.size wr (wr.alloc (.cells #[.int .u8 (y.toNat : Int)] 5)) := Below.allocs _ _
            have HAL := Lib.hid hal
            have HO := Lib.hid (own_touch HOQ.out (Turns.of_below (S := fun _ => False) hal) (fun _ _ h => h))
            have HSX : Hid (Bs (wr.alloc (.cells #[.int .u8 (y.toNat : Int)] 5)) (some ⟨wr.heap.size, 0, none⟩) 1 1 [y]) := Bs.made _ _ _ _ _ _ rfl rfl (by omega)
            clear hal
            go_upto_region 13 with (at_builtin; refine wpList_append_nx rfl _ _ 31 rfl (base := w1.heap.size) Tryz.underlying31 info8b rfl (by omega) rfl HO.out rfl HSX.out (bytesV_one _) ⟨by omega, by omega⟩ (by have := HBQW.out.size; have := HAL.out.size; omega) ?_)
            intro p10 c10 x10 ho10 hg10 _ _
            have hbl := (HBQW.out.trans (HAL.out.mono HBQW.out.size)).grown hg10 (by have := HBQW.out.size; have := HAL.out.size; omega) (fun k hk => (HO.out.lt k hk).1)
            have hrow10 : x10.heap[g0]? = some (.cells #[.bool false, .int .i64 0, .slice (some ⟨bb, ob, none⟩) B.length db] 84 (0, 0)) := by
              have h1 := Below.keepOld HAL.out HRQ.out
              rw [hg10.block g0 (Array.getElem?_eq_some_iff.1 h1).1 (fun e => by
                have := own_type HO.out g0 _ _ _ e.symm h1
                exact absurd this (by decide))]
              exact h1
            have HB10 := Lib.hid hbl
            have HR10 := Lib.hid hrow10
            have HO10 : Hid (x10.ownsRow w1.heap.size 5 1 (.slice p10 (OU.length + (j + 1)) c10) (OU.length + (j + 1)) (bytesV (OU ++ B.take (j + 1)))) := by
              show World.ownsRow _ _ _ _ _ _ _
              rw [HTK.out, ← List.append_assoc, bytesV_append]
              exact ho10
            clear ho10 hg10 hbl hrow10 HO HSX HAL hb2
            go_wp2_with fail
            go_roundw
            case rel => exact ⟨j + 1, p10, c10, by omega, by omega, by go_num, rfl, rfl, HO10.out, HB10.out, HR10.out⟩
            case measure => simp [intOf]; omega
          · have hmin : min LU B.length = j := by omega
            have hlf : LU - B.length = LU - j := by omega
            rw [hmin] at HOS
            rw [hlf] at HLS
            have HLN : Hid ((outU f U (k + 1)).length = OU.length + j) := by show _ = _; rw [HOS.out, List.length_append, List.length_take]; omega
            by_cases hi1 : j < B.length
            · have hd : decide ((j : Int) < (B.length : Int)) = true := decide_eq_true (by omega)
              have hd2 : decide (j < B.length) = true := decide_eq_true hi1
              have hz0 : LU - j = 0 := by omega
              rw [hz0] at HLS ⊢
              clear hz0 hmin hlf hin
              go_wp2_with fail
              go_roundw
              case rel => exact ⟨k + 1, pj, cj, by omega, by go_num, by rw [HLS.out], by rw [HLN.out], by rw [HLN.out, HOS.out]; exact HOQ.out, HBQW.out⟩
              case measure => simp [intOf]; omega
            · have hd : decide ((j : Int) < (B.length : Int)) = false := decide_eq_false (by omega)
              have hd2 : decide (j < B.length) = false := decide_eq_false hi1
              clear hmin hlf hin
              go_wp2_with fail
              go_roundw
              case rel => exact ⟨k + 1, pj, cj, by omega, by go_num, by rw [HLS.out], by rw [HLN.out], by rw [HLN.out, HOS.out]; exact HOQ.out, HBQW.out⟩
              case measure => simp [intOf]; omega
    · have hres : outU f U k = someU f.kept f.steps U := outU_end f U k (by omega)
      rw [hres] at HOW ⊢
      have HBS := Lib.hid (own_base (base' := w.heap.size) HOW.out (fun k hk => by have := (HOW.out.lt k hk).1; have := HB1.out.size; omega))
      have HBF := Lib.hid (HB1.out.trans (HBW.out.mono HB1.out.size))
      by_cases hlt : k < f.steps.length
      · have hz0 : lefU f U k = 0 := by omega
        have hd : decide ((k : Int) < (f.steps.length : Int)) = true := decide_eq_true (by omega)
        have hd2 : decide (k < f.steps.length) = true := decide_eq_true hlt
        rw [hz0]
        clear hz0 hres hend hlt
        go_wp2_with fail
        go_ret
        exact ⟨_, _, rfl, HBS.out, HBF.out⟩
      · have hd : decide ((k : Int) < (f.steps.length : Int)) = false := decide_eq_false (by omega)
        have hd2 : decide (k < f.steps.length) = false := decide_eq_false hlt
        clear hres hend hlt
        go_wp2_with fail
        go_ret
        exact ⟨_, _, rfl, HBS.out, HBF.out⟩
end Go.Proofs.YtkacmgfehmjijaaGreatDoor.Rk
