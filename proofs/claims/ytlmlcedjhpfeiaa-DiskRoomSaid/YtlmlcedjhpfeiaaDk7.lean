/- THE WALKS OF A DISK: a step to a file; bytes put, a cut, a sync. Conditions: none. -/
import Derived.Test.YtlmlcedjhpfeiaaDk6
namespace Go.Proofs.Ytlmlcedjhpfeiaa.Dk
open Go.RowKit Go.Mir

theorem LeftD.row {w w' : World} {base db : Nat} {vs : List FV} {d d' : DD} (h : DAt w base db vs d) (hd : DAt w' base db vs d') (ht : Turns (fun k => k = db) w w') : LeftD base db vs d' w w' :=
  ⟨vs, hd, ht.imp (fun k _ hk => .inl hk), fun k hk => .inl hk⟩
theorem LeftD.trans {w w1 w2 : World} {base db : Nat} {vs vs1 : List FV} {d2 : DD} (h0 : ∀ k, DOwn db vs1 k → DOwn db vs k ∨ w.heap.size ≤ k) (ht : Turns (DOwn db vs) w w1) (h : LeftD base db vs1 d2 w1 w2) : LeftD base db vs d2 w w2 := by
  obtain ⟨vs2, hd, ht2, hn⟩ := h
  refine ⟨vs2, hd, ht.trans ht2 (fun k hk hs => ?_), fun k hk => ?_⟩
  · rcases h0 k hs with h | h
    · exact h
    · omega
  · rcases hn k hk with hn | hn
    · exact h0 k hn
    · exact .inr (Nat.le_trans ht.size hn)
/-- what a step answers -/
def doE (d : DD) (i : Nat) (f : FD) (s : St) : Int :=
  if d.down = true then 18 else if d.room < usedL d.fs - f.need + max f.need (s.size f.now.length) then 17 else if (setF d i (f.take s)).burn.down = true then 18 else 0
def doD (d : DD) (i : Nat) (f : FD) (s : St) : DD :=
  if d.down = true then d else if d.room < usedL d.fs - f.need + max f.need (s.size f.now.length) then d else (setF d i (f.take s)).burn

set_option maxRecDepth 100000 in
theorem do_out {base db : Nat} {vs : List FV} {d : DD} (w : World) (h : DAt w base db vs d) (n : Int) (hn : n < 0 ∨ 3 ≤ n) (sv : Value) (hsv : (∃ v, sv = .iface 68 v) ∨ ∃ z, sv = .iface 70 (.agg #[.int .i64 z])) :
    Calls Try.prog 29 #[.pointer (some ⟨db, 0, none⟩), .int .i64 n, sv] w fun e w' => e = .returned (.int .i64 1) ∧ Below w.heap.size w w' := by
  have H := Lib.hid h
  have HN := Lib.hid hn
  clear h hn
  rcases hsv with ⟨v, rfl⟩ | ⟨z, rfl⟩
  · have hta := ta_pc v
    go_enter Try.func29, Try.ntmps29
    go_wp2_with fail
    refine (at_out w H.out n HN.out).mono ?_
    rintro e w' ⟨rfl, rfl⟩
    have hb := Below.allocs w (.cells #[.int .i64 0] 70)
    have HB := Lib.hid hb
    have HA := Lib.hid (H.out.below hb)
    clear hb
    go_upto_region 3 with fail
    generalize w.alloc (.cells #[.int .i64 0] 70) = w1 at *
    go_wp2_with fail
    refine (none_any _ HA.out).mono ?_
    rintro e w' ⟨rfl, rfl⟩
    go_wp2_with fail
    refine wp_region_grow (by kernel_rfl) (by kernel_rfl) ?_
    repeat (first
      | ((with_reducible refine wpQuietGd ?_); (with_reducible refine wpQuiet_skip ?_ ?_); (· rfl); simp only [Act.put, List.setIfInBounds_toArray, List.set_cons_zero, List.set_cons_succ])
      | quiet_step (fail))
    refine wpQuiet_nil ?_
    intro w2 hb2
    have HB2 := Lib.hid (HB.out.trans (hb2.mono HB.out.size))
    clear hb2
    go_wp2_with fail
    go_ret
    exact ⟨rfl, HB2.out⟩
  · have hta := ta_cc (.agg #[.int .i64 z])
    go_enter Try.func29, Try.ntmps29
    go_wp2_with fail
    refine (at_out w H.out n HN.out).mono ?_
    rintro e w' ⟨rfl, rfl⟩
    have hb := Below.allocs w (.cells #[.int .i64 z] 70)
    have HB := Lib.hid hb
    have HA := Lib.hid (H.out.below hb)
    clear hb
    go_upto_region 3 with fail
    generalize w.alloc (.cells #[.int .i64 z] 70) = w1 at *
    go_wp2_with fail
    refine (none_any _ HA.out).mono ?_
    rintro e w' ⟨rfl, rfl⟩
    go_wp2_with fail
    refine wp_region_grow (by kernel_rfl) (by kernel_rfl) ?_
    repeat (first
      | ((with_reducible refine wpQuietGd ?_); (with_reducible refine wpQuiet_skip ?_ ?_); (· rfl); simp only [Act.put, List.setIfInBounds_toArray, List.set_cons_zero, List.set_cons_succ])
      | quiet_step (fail))
    refine wpQuiet_nil ?_
    intro w2 hb2
    have HB2 := Lib.hid (HB.out.trans (hb2.mono HB.out.size))
    clear hb2
    go_wp2_with fail
    go_ret
    exact ⟨rfl, HB2.out⟩

theorem used_grow {base db : Nat} {vs : List FV} {d : DD} (w : World) (h : DAt w base db vs d) : Calls Try.prog 22 #[.pointer (some ⟨db, 0, none⟩)] w fun e w' => e = .returned (.int .i64 (usedL d.fs : Int)) ∧ Below w.heap.size w w' :=
  (used_any w h).mono fun e w' ⟨h1, h2⟩ => ⟨h1, h2 ▸ Below.refl _ _⟩
theorem units_fit {s : St} {d : DD} {f : FD} {n1 : Nat} (_h : n1 = max f.need (s.size f.now.length)) (hle : ¬ d.room < usedL d.fs - f.need + max f.need (s.size f.now.length)) (hr : d.room ≤ 65536) (_hu : s.units ≤ 140737488355328) : s.units ≤ 65536 := by
  cases s with
  | put b => simp only [St.size, St.units] at *; omega
  | cut n => simp only [St.units]; omega
def DoP (base db : Nat) (vs : List FV) (d : DD) (i : Nat) (f : FD) (s : St) (w : World) (e : Ending) (w' : World) : Prop := e = .returned (.int .i64 (doE d i f s)) ∧ LeftD base db vs (doD d i f s) w w'
set_option maxRecDepth 100000 in
set_option maxHeartbeats 1600000 in
theorem do_in {base db : Nat} {vs : List FV} {d : DD} (w : World) (h : DAt w base db vs d) (hbase : base ≤ w.heap.size) (i : Nat) (hi : i < d.fs.length) (f : FD) (hf : d.fs[i] = f) (sv : Value) (s : St) (hs : StAt w base sv s)
    (hok : s.ok f.now.length) (hu : s.units ≤ 140737488355328) (hfew : f.steps.length + 1 ≤ 4398046511104) :
    Calls Try.prog 29 #[.pointer (some ⟨db, 0, none⟩), .int .i64 (i : Int), sv] w (DoP base db vs d i f s w) := by
  have hv : i < vs.length := by have := h.n3; have := h.m3; omega
  have hi3 : i < 3 := by have := h.m3; omega
  have hF := h.each i _ _ (List.getElem?_eq_getElem hv) (List.getElem?_eq_getElem hi)
  rw [hf] at hF
  have HND : Hid ((vs[i]'hv).nd = f.need) := hF.need
  have hle := usedL_mem hi
  rw [hf] at hle
  have hused := h.used
  have hroom1 := h.room1
  have HROOM := Lib.hid hroom1.2
  have HNL : Hid (f.now.length ≤ 65536) := by have := hF.ok.le; show _ ≤ _; omega
  obtain ⟨U, hU⟩ : ∃ U, U = usedL d.fs := ⟨_, rfl⟩
  have HUE := Lib.hid hU
  rw [← hU] at hle hused
  obtain ⟨z, hz⟩ : ∃ z, z = s.size f.now.length := ⟨_, rfl⟩
  have HZE := Lib.hid hz
  have HZL : Hid (z ≤ 281474976710656) := by
    show _ ≤ _
    rw [hz]
    have := HNL.out
    cases s with
    | put b => simp only [St.size, St.units] at *; omega
    | cut n => simp only [St.size, St.ok] at *; omega
  obtain ⟨n1, hn1⟩ : ∃ n1, n1 = max f.need z := ⟨_, rfl⟩
  have HN1 := Lib.hid hn1
  have HN1M : Hid (max f.need (s.size f.now.length) = n1) := by show _ = _; rw [← hz, hn1]
  have HN1L : Hid (n1 ≤ 281474976776192) := by have := HZL.out; show _ ≤ _; omega
  have HMX1 : Hid ((if ((f.need : Nat) : Int) < ((z : Nat) : Int) then ((z : Nat) : Int) else ((f.need : Nat) : Int)) = (n1 : Int) ∧ (if f.need < z then ((z : Nat) : Int) else ((f.need : Nat) : Int)) = (n1 : Int)) := by
    show _ ∧ _
    constructor <;> (split <;> omega)
  have H := Lib.hid h
  have HFE := Lib.hid hf
  have HS := Lib.hid hs
  have HOKS := Lib.hid hok
  have HUS := Lib.hid hu
  have HFEW := Lib.hid hfew
  have HBASE := Lib.hid hbase
  have HI := Lib.hid hi
  have HFF := Lib.hid hF
  have HV := Lib.hid hv
  clear hn1 hz hU hF hf h hu hfew
  cases s with
  | put b =>
    obtain ⟨bv, rfl, hrd⟩ := hs
    obtain ⟨p, c, rfl, hbs⟩ := hrd.bs
    clear hrd hbs hok
    obtain ⟨SV, hSV⟩ : ∃ SV, SV = Value.iface 68 (.agg #[.slice p b.length c]) := ⟨_, rfl⟩
    have hta : ∀ w, (Instr.typeAssert SV 83 70 true).run Try.prog w = .ok (.tuple #[.agg #[.int .i64 0], .bool false]) w := fun w => by rw [hSV]; exact ta_pc _ w
    rw [← hSV] at HS ⊢
    clear hSV
    go_enter Try.func29, Try.ntmps29
    go_wp2_with fail
    refine (at_in w H.out i hi3).mono ?_
    rintro e w' ⟨rfl, rfl⟩
    have hb := Below.allocs w (.cells #[.int .i64 0] 70)
    have HB := Lib.hid hb
    have HA := Lib.hid (H.out.below hb)
    clear hb
    go_upto_region 3 with fail
    generalize w.alloc (.cells #[.int .i64 0] 70) = w1 at *
    go_wp2_with fail
    refine (none_any _ HA.out).mono ?_
    rintro e w' ⟨rfl, rfl⟩
    clear hta
    go_wp2_with fail
    refine wp_region_grow (by kernel_rfl) (by kernel_rfl) ?_
    repeat (first
      | ((with_reducible refine wpQuietGd ?_); (with_reducible refine wpQuiet_skip ?_ ?_); (· rfl); simp only [Act.put, List.setIfInBounds_toArray, List.set_cons_zero, List.set_cons_succ])
      | quiet_step (fail))
    refine wpQuiet_nil ?_
    intro w2 hb2
    have HBx := Lib.hid (HB.out.trans (hb2.mono HB.out.size))
    have HAx := Lib.hid (HA.out.below hb2)
    clear hb2 HB HA w1
    have HB := HBx
    have HA := HAx
    clear HBx HAx
    generalize hst : St.put b = s at *
    clear hst
    generalize hw2 : w2 = w1 at *
    clear hw2 w2
    have HDN1 := Lib.hid (HA.out.cells.2.2.1)
    cases hdn : d.down with
    | true =>
      have hc := HDN1.out
      rw [hdn] at hc
      have HFIN : Hid (∀ w', Below w.heap.size w w' → DoP base db vs d i f s w (.returned (.int .i64 18)) w') := fun w' hb => by
        refine ⟨by unfold doE; rw [if_pos hdn], vs, ?_, Turns.of_below hb, fun k hk => .inl hk⟩
        unfold doD
        rw [if_pos hdn]
        exact H.out.below hb
      clear hdn
      go_wp2_with fail
      go_ret
      exact HFIN.out _ HB.out
    | false =>
      have HDN := Lib.hid hdn
      have hc := HDN1.out
      rw [hdn] at hc
      clear hdn
      go_upto_region 9 with fail
      have hcn := (HA.out.file i HV.out).2.2.2
      rw [HND.out] at hcn
      have hcr := HA.out.cells.1
      have hg1 := cell_grown hcn
      have hg2 := cell_grown hcr
      have HAFT : Hid (∀ y : Grown w1, Calls Try.prog 42 #[.pointer (some ⟨db, i * 4, none⟩), SV] y.v fun e w' => e = .returned (.int .i64 (z : Int)) ∧ Below y.v.heap.size y.v w') := fun y => by
        have := after_any y.v (HA.out.below y.b) i HI.out SV s (HS.out.touch (Turns.of_below (S := fun _ => False) (HB.out.trans (y.b.mono HB.out.size))) (fun _ _ _ _ h => h)) (by rw [HFE.out]; have := HZL.out; rw [HZE.out] at this; omega)
        rw [HFE.out, ← HZE.out] at this
        exact this
      have HUSE : Hid (∀ y : Grown w1, Calls Try.prog 22 #[.pointer (some ⟨db, 0, none⟩)] y.v fun e w' => e = .returned (.int .i64 (U : Int)) ∧ Below y.v.heap.size y.v w') := fun y => by
        have := used_grow y.v (HA.out.below y.b)
        rwa [← HUE.out] at this
      obtain ⟨hmx1, hmx2⟩ := HMX1.out
      have hsub : (U : Int) - (f.need : Int) = ((U - f.need : Nat) : Int) := by omega
      have hws : IntKind.i64.wrap ((U : Int) - (f.need : Int)) = ((U - f.need : Nat) : Int) := by rw [hsub]; exact IntWalk.i64_in _ (by omega)
      have hws2 : IntKind.i64.wrap ((U - f.need : Nat) : Int) = ((U - f.need : Nat) : Int) := IntWalk.i64_in _ (by omega)
      have hwa : IntKind.i64.wrap (((U - f.need : Nat) : Int) + (n1 : Int)) = ((U - f.need : Nat) : Int) + (n1 : Int) := IntWalk.i64_in _ (by have := HN1L.out; omega)
      refine wp_region_grow (by kernel_rfl) (by kernel_rfl) ?_
      repeat (first
        | ((with_reducible refine wpQuietGd ?_); (with_reducible refine wpQuiet_skip ?_ ?_); (· rfl); simp only [Act.put, List.setIfInBounds_toArray, List.set_cons_zero, List.set_cons_succ])
        | quiet_step ((first | (go_at_call 42; exact Calls.grow_of (HAFT.out _)) | (go_at_call 22; exact Calls.grow_of (HUSE.out _)))))
      refine wpQuiet_nil ?_
      intro w2 hb2
      have HA2 := Lib.hid (HA.out.below hb2)
      have HB2 := Lib.hid (HB.out.trans (hb2.mono HB.out.size))
      clear hb2 hg1 hg2 hcn hcr hc HAFT HUSE hws hws2 hwa hsub hmx1 hmx2
      by_cases hbig : (d.room : Int) < ((U - f.need : Nat) : Int) + (n1 : Int)
      · have e1 : decide ((d.room : Int) < ((U - f.need : Nat) : Int) + (n1 : Int)) = true := decide_eq_true hbig
        have e2 : decide (d.room < U - f.need + n1) = true := decide_eq_true (by omega)
        have HFIN : Hid (∀ w', Below w.heap.size w w' → DoP base db vs d i f s w (.returned (.int .i64 17)) w') := fun w' hb => by
          have hgt : d.room < usedL d.fs - f.need + max f.need (s.size f.now.length) := by
            have := HN1.out; have := HUE.out; have := HZE.out; have := HN1M.out; omega
          refine ⟨by unfold doE; rw [HDN.out, if_neg (by decide), if_pos hgt], vs, ?_, Turns.of_below hb, fun k hk => .inl hk⟩
          unfold doD
          rw [HDN.out, if_neg (by decide), if_pos hgt]
          exact H.out.below hb
        go_wp2_with fail
        go_ret
        exact HFIN.out _ HB2.out
      · have e1 : decide ((d.room : Int) < ((U - f.need : Nat) : Int) + (n1 : Int)) = false := decide_eq_false hbig
        have e2 : decide (d.room < U - f.need + n1) = false := decide_eq_false (by omega)
        have HLE : Hid (¬ d.room < usedL d.fs - f.need + max f.need (s.size f.now.length)) := by
          have := HN1.out; have := HUE.out; have := HZE.out; have := HN1M.out; show ¬ _; omega
        have HTK := Lib.hid (take_any w2 HA2.out (Nat.le_trans HBASE.out HB2.out.size) i HI.out f HFE.out SV s (HS.out.touch (Turns.of_below (S := fun _ => False) HB2.out) (fun _ _ _ _ h => h)) HOKS.out (units_fit HN1M.out.symm HLE.out HROOM.out HUS.out) HFEW.out (by have := HLE.out; show usedL d.fs - f.need + max f.need (s.size f.now.length) ≤ d.room; omega))
        have hbig2 : ((U - f.need : Nat) : Int) + (n1 : Int) ≤ (d.room : Int) := by omega
        go_wp2_with fail
        clear hbig hbig2
        refine (HTK.out).mono ?_
        rintro e w3 ⟨rfl, vs3, hd3, ht3, hn3⟩
        have HD3 := Lib.hid hd3
        have HT3 : Hid (Turns (DOwn db vs) w w3) := (Turns.of_below HB2.out).trans ht3 (fun _ _ h => h)
        have HN3 : Hid (∀ k, DOwn db vs3 k → DOwn db vs k ∨ w.heap.size ≤ k) := fun k hk => (hn3 k hk).imp id (fun h => Nat.le_trans HB2.out.size h)
        have HBN := Lib.hid (burn_any w3 hd3)
        clear hd3 ht3 hn3 HTK
        go_wp2_with fail
        refine (HBN.out).mono ?_
        rintro e w4 ⟨rfl, hd4, ht4⟩
        have HFIN : Hid (∀ v, v = doE d i f s → DoP base db vs d i f s w (.returned (.int .i64 v)) w4) := fun v hv => by
          refine ⟨by rw [hv], ?_⟩
          have := LeftD.trans HN3.out HT3.out (LeftD.row HD3.out hd4 ht4)
          unfold doD
          rw [HDN.out, if_neg (by decide), if_neg HLE.out]
          exact this
        have HDE : Hid (doE d i f s = if (setF d i (f.take s)).burn.down = true then 18 else 0) := by show _ = _; unfold doE; rw [HDN.out, if_neg (by decide), if_neg HLE.out]
        clear hd4 ht4
        cases hbd : (setF d i (f.take s)).burn.down with
        | true =>
          have HV18 := Lib.hid (HFIN.out 18 (by rw [HDE.out, hbd]; rfl))
          clear hbd
          go_wp2_with fail
          go_ret
          exact HV18.out
        | false =>
          have HV0 := Lib.hid (HFIN.out 0 (by rw [HDE.out, hbd]; rfl))
          clear hbd
          go_wp2_with fail
          go_ret
          exact HV0.out
  | cut m =>
    cases hs
    obtain ⟨SV, hSV⟩ : ∃ SV, SV = Value.iface 70 (.agg #[.int .i64 (m : Int)]) := ⟨_, rfl⟩
    have hta : ∀ w, (Instr.typeAssert SV 83 70 true).run Try.prog w = .ok (.tuple #[.agg #[.int .i64 (m : Int)], .bool true]) w := fun w => by rw [hSV]; exact ta_cc _ w
    rw [← hSV] at HS ⊢
    have hmn : m ≤ f.now.length := hok
    clear hSV hok
    go_enter Try.func29, Try.ntmps29
    go_wp2_with fail
    refine (at_in w H.out i hi3).mono ?_
    rintro e w' ⟨rfl, rfl⟩
    have hb := Below.allocs w (.cells #[.int .i64 (m : Int)] 70)
    have HB := Lib.hid hb
    have HA := Lib.hid (H.out.below hb)
    have hcm : (w.alloc (.cells #[.int .i64 (m : Int)] 70)).cell? ⟨w.heap.size, 0, none⟩ = some (.int .i64 (m : Int)) := by rw [cell_of_row _ _ _ _ _ _ (heap_alloc_last _ _)]; rfl
    clear hb
    go_upto_region 3 with fail
    generalize w.alloc (.cells #[.int .i64 (m : Int)] 70) = w1 at *
    go_wp2_with fail
    refine (none_any _ HA.out).mono ?_
    rintro e w' ⟨rfl, rfl⟩
    clear hta
    obtain ⟨pn, cn, hnv, hbn⟩ := HFF.out.now.bs
    have hc1 := (HA.out.file i HV.out).2.1
    rw [hnv] at hc1
    have hg1 := cell_grown hc1
    have hg2 := cell_grown hcm
    have hm0 : decide ((m : Int) < 0) = false := decide_eq_false (by omega)
    have hm1 : decide ((f.now.length : Int) < (m : Int)) = false := decide_eq_false (by omega)
    have hm2 : decide (f.now.length < m) = false := decide_eq_false (by omega)
    clear hbn hnv
    go_upto_region 5 with fail
    refine wp_region_grow (by kernel_rfl) (by kernel_rfl) ?_
    repeat (first
      | ((with_reducible refine wpQuietGd ?_); (with_reducible refine wpQuiet_skip ?_ ?_); (· rfl); simp only [Act.put, List.setIfInBounds_toArray, List.set_cons_zero, List.set_cons_succ])
      | quiet_step (fail))
    refine wpQuiet_nil ?_
    intro w2 hb2
    have HBx := Lib.hid (HB.out.trans (hb2.mono HB.out.size))
    have HAx := Lib.hid (HA.out.below hb2)
    clear hb2 HB HA hg1 hg2 hcm hc1 hm0 hm1 hm2 hmn w1
    have HB := HBx
    have HA := HAx
    clear HBx HAx
    generalize hst : St.cut m = s at *
    clear hst
    generalize hw2 : w2 = w1 at *
    clear hw2 w2
    have HDN1 := Lib.hid (HA.out.cells.2.2.1)
    cases hdn : d.down with
    | true =>
      have hc := HDN1.out
      rw [hdn] at hc
      have HFIN : Hid (∀ w', Below w.heap.size w w' → DoP base db vs d i f s w (.returned (.int .i64 18)) w') := fun w' hb => by
        refine ⟨by unfold doE; rw [if_pos hdn], vs, ?_, Turns.of_below hb, fun k hk => .inl hk⟩
        unfold doD
        rw [if_pos hdn]
        exact H.out.below hb
      clear hdn
      go_wp2_with fail
      go_ret
      exact HFIN.out _ HB.out
    | false =>
      have HDN := Lib.hid hdn
      have hc := HDN1.out
      rw [hdn] at hc
      clear hdn
      go_upto_region 9 with fail
      have hcn := (HA.out.file i HV.out).2.2.2
      rw [HND.out] at hcn
      have hcr := HA.out.cells.1
      have hg1 := cell_grown hcn
      have hg2 := cell_grown hcr
      have HAFT : Hid (∀ y : Grown w1, Calls Try.prog 42 #[.pointer (some ⟨db, i * 4, none⟩), SV] y.v fun e w' => e = .returned (.int .i64 (z : Int)) ∧ Below y.v.heap.size y.v w') := fun y => by
        have := after_any y.v (HA.out.below y.b) i HI.out SV s (HS.out.touch (Turns.of_below (S := fun _ => False) (HB.out.trans (y.b.mono HB.out.size))) (fun _ _ _ _ h => h)) (by rw [HFE.out]; have := HZL.out; rw [HZE.out] at this; omega)
        rw [HFE.out, ← HZE.out] at this
        exact this
      have HUSE : Hid (∀ y : Grown w1, Calls Try.prog 22 #[.pointer (some ⟨db, 0, none⟩)] y.v fun e w' => e = .returned (.int .i64 (U : Int)) ∧ Below y.v.heap.size y.v w') := fun y => by
        have := used_grow y.v (HA.out.below y.b)
        rwa [← HUE.out] at this
      obtain ⟨hmx1, hmx2⟩ := HMX1.out
      have hsub : (U : Int) - (f.need : Int) = ((U - f.need : Nat) : Int) := by omega
      have hws : IntKind.i64.wrap ((U : Int) - (f.need : Int)) = ((U - f.need : Nat) : Int) := by rw [hsub]; exact IntWalk.i64_in _ (by omega)
      have hws2 : IntKind.i64.wrap ((U - f.need : Nat) : Int) = ((U - f.need : Nat) : Int) := IntWalk.i64_in _ (by omega)
      have hwa : IntKind.i64.wrap (((U - f.need : Nat) : Int) + (n1 : Int)) = ((U - f.need : Nat) : Int) + (n1 : Int) := IntWalk.i64_in _ (by have := HN1L.out; omega)
      refine wp_region_grow (by kernel_rfl) (by kernel_rfl) ?_
      repeat (first
        | ((with_reducible refine wpQuietGd ?_); (with_reducible refine wpQuiet_skip ?_ ?_); (· rfl); simp only [Act.put, List.setIfInBounds_toArray, List.set_cons_zero, List.set_cons_succ])
        | quiet_step ((first | (go_at_call 42; exact Calls.grow_of (HAFT.out _)) | (go_at_call 22; exact Calls.grow_of (HUSE.out _)))))
      refine wpQuiet_nil ?_
      intro w2 hb2
      have HA2 := Lib.hid (HA.out.below hb2)
      have HB2 := Lib.hid (HB.out.trans (hb2.mono HB.out.size))
      clear hb2 hg1 hg2 hcn hcr hc HAFT HUSE hws hws2 hwa hsub hmx1 hmx2
      by_cases hbig : (d.room : Int) < ((U - f.need : Nat) : Int) + (n1 : Int)
      · have e1 : decide ((d.room : Int) < ((U - f.need : Nat) : Int) + (n1 : Int)) = true := decide_eq_true hbig
        have e2 : decide (d.room < U - f.need + n1) = true := decide_eq_true (by omega)
        have HFIN : Hid (∀ w', Below w.heap.size w w' → DoP base db vs d i f s w (.returned (.int .i64 17)) w') := fun w' hb => by
          have hgt : d.room < usedL d.fs - f.need + max f.need (s.size f.now.length) := by
            have := HN1.out; have := HUE.out; have := HZE.out; have := HN1M.out; omega
          refine ⟨by unfold doE; rw [HDN.out, if_neg (by decide), if_pos hgt], vs, ?_, Turns.of_below hb, fun k hk => .inl hk⟩
          unfold doD
          rw [HDN.out, if_neg (by decide), if_pos hgt]
          exact H.out.below hb
        go_wp2_with fail
        go_ret
        exact HFIN.out _ HB2.out
      · have e1 : decide ((d.room : Int) < ((U - f.need : Nat) : Int) + (n1 : Int)) = false := decide_eq_false hbig
        have e2 : decide (d.room < U - f.need + n1) = false := decide_eq_false (by omega)
        have HLE : Hid (¬ d.room < usedL d.fs - f.need + max f.need (s.size f.now.length)) := by
          have := HN1.out; have := HUE.out; have := HZE.out; have := HN1M.out; show ¬ _; omega
        have HTK := Lib.hid (take_any w2 HA2.out (Nat.le_trans HBASE.out HB2.out.size) i HI.out f HFE.out SV s (HS.out.touch (Turns.of_below (S := fun _ => False) HB2.out) (fun _ _ _ _ h => h)) HOKS.out (units_fit HN1M.out.symm HLE.out HROOM.out HUS.out) HFEW.out (by have := HLE.out; show usedL d.fs - f.need + max f.need (s.size f.now.length) ≤ d.room; omega))
        have hbig2 : ((U - f.need : Nat) : Int) + (n1 : Int) ≤ (d.room : Int) := by omega
        go_wp2_with fail
        clear hbig hbig2
        refine (HTK.out).mono ?_
        rintro e w3 ⟨rfl, vs3, hd3, ht3, hn3⟩
        have HD3 := Lib.hid hd3
        have HT3 : Hid (Turns (DOwn db vs) w w3) := (Turns.of_below HB2.out).trans ht3 (fun _ _ h => h)
        have HN3 : Hid (∀ k, DOwn db vs3 k → DOwn db vs k ∨ w.heap.size ≤ k) := fun k hk => (hn3 k hk).imp id (fun h => Nat.le_trans HB2.out.size h)
        have HBN := Lib.hid (burn_any w3 hd3)
        clear hd3 ht3 hn3 HTK
        go_wp2_with fail
        refine (HBN.out).mono ?_
        rintro e w4 ⟨rfl, hd4, ht4⟩
        have HFIN : Hid (∀ v, v = doE d i f s → DoP base db vs d i f s w (.returned (.int .i64 v)) w4) := fun v hv => by
          refine ⟨by rw [hv], ?_⟩
          have := LeftD.trans HN3.out HT3.out (LeftD.row HD3.out hd4 ht4)
          unfold doD
          rw [HDN.out, if_neg (by decide), if_neg HLE.out]
          exact this
        have HDE : Hid (doE d i f s = if (setF d i (f.take s)).burn.down = true then 18 else 0) := by show _ = _; unfold doE; rw [HDN.out, if_neg (by decide), if_neg HLE.out]
        clear hd4 ht4
        cases hbd : (setF d i (f.take s)).burn.down with
        | true =>
          have HV18 := Lib.hid (HFIN.out 18 (by rw [HDE.out, hbd]; rfl))
          clear hbd
          go_wp2_with fail
          go_ret
          exact HV18.out
        | false =>
          have HV0 := Lib.hid (HFIN.out 0 (by rw [HDE.out, hbd]; rfl))
          clear hbd
          go_wp2_with fail
          go_ret
          exact HV0.out
end Go.Proofs.Ytlmlcedjhpfeiaa.Dk
