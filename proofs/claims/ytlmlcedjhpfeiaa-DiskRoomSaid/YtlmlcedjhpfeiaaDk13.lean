/- THE WALKS OF A DISK: what is asked wrongly; what a file keeps; sizes and units. Conditions: none. -/
import Derived.Test.YtlmlcedjhpfeiaaDk8
namespace Go.Proofs.Ytlmlcedjhpfeiaa.Dk
open Go.RowKit Go.Mir

set_option maxRecDepth 100000 in
set_option maxHeartbeats 1600000 in
theorem do_bad_lo {base db : Nat} {vs : List FV} {d : DD} (w : World) (h : DAt w base db vs d) (i : Nat) (hi : i < d.fs.length) (f : FD) (hf : d.fs[i] = f) (m : Int) (hm : m < 0) :
    Calls Try.prog 29 #[.pointer (some ⟨db, 0, none⟩), .int .i64 (i : Int), .iface 70 (.agg #[.int .i64 m])] w fun e w' => e = .returned (.int .i64 1) ∧ Below w.heap.size w w' := by
  have hv : i < vs.length := by have := h.n3; have := h.m3; omega
  have hi3 : i < 3 := by have := h.m3; omega
  have hF := h.each i _ _ (List.getElem?_eq_getElem hv) (List.getElem?_eq_getElem hi)
  rw [hf] at hF
  have hta := ta_cc (.agg #[.int .i64 m])
  have H := Lib.hid h
  have HFF := Lib.hid hF
  have HV := Lib.hid hv
  clear hF hf h
  go_enter Try.func29, Try.ntmps29
  go_wp2_with fail
  refine (at_in w H.out i hi3).mono ?_
  rintro e w' ⟨rfl, rfl⟩
  have hb := Below.allocs w (.cells #[.int .i64 m] 70)
  have HB := Lib.hid hb
  have HA := Lib.hid (H.out.below hb)
  have hcm : (w.alloc (.cells #[.int .i64 m] 70)).cell? ⟨w.heap.size, 0, none⟩ = some (.int .i64 m) := by rw [cell_of_row _ _ _ _ _ _ (heap_alloc_last _ _)]; rfl
  clear hb
  go_upto_region 3 with fail
  generalize w.alloc (.cells #[.int .i64 m] 70) = w1 at *
  go_wp2_with fail
  refine (none_any _ HA.out).mono ?_
  rintro e w' ⟨rfl, rfl⟩
  clear hta
  have hg2 := cell_grown hcm
  have hm0 : decide (m < 0) = true := decide_eq_true hm
  go_upto_region 5 with fail
  refine wp_region_grow (by kernel_rfl) (by kernel_rfl) ?_
  repeat (first
    | ((with_reducible refine wpQuietGd ?_); (with_reducible refine wpQuiet_skip ?_ ?_); (· rfl); simp only [Act.put, List.setIfInBounds_toArray, List.set_cons_zero, List.set_cons_succ])
    | quiet_step (fail))
  refine wpQuiet_nil ?_
  intro w2 hb2
  have HB2 := Lib.hid (HB.out.trans (hb2.mono HB.out.size))
  clear hb2
  go_wp2_with fail
  go_ret
  exact ⟨rfl, HB2.out⟩
set_option maxRecDepth 100000 in
set_option maxHeartbeats 1600000 in
theorem do_bad_hi {base db : Nat} {vs : List FV} {d : DD} (w : World) (h : DAt w base db vs d) (i : Nat) (hi : i < d.fs.length) (f : FD) (hf : d.fs[i] = f) (m : Int) (hm : (f.now.length : Int) < m) :
    Calls Try.prog 29 #[.pointer (some ⟨db, 0, none⟩), .int .i64 (i : Int), .iface 70 (.agg #[.int .i64 m])] w fun e w' => e = .returned (.int .i64 1) ∧ Below w.heap.size w w' := by
  have hv : i < vs.length := by have := h.n3; have := h.m3; omega
  have hi3 : i < 3 := by have := h.m3; omega
  have hF := h.each i _ _ (List.getElem?_eq_getElem hv) (List.getElem?_eq_getElem hi)
  rw [hf] at hF
  have hta := ta_cc (.agg #[.int .i64 m])
  have H := Lib.hid h
  have HFF := Lib.hid hF
  have HV := Lib.hid hv
  clear hF hf h
  go_enter Try.func29, Try.ntmps29
  go_wp2_with fail
  refine (at_in w H.out i hi3).mono ?_
  rintro e w' ⟨rfl, rfl⟩
  have hb := Below.allocs w (.cells #[.int .i64 m] 70)
  have HB := Lib.hid hb
  have HA := Lib.hid (H.out.below hb)
  have hcm : (w.alloc (.cells #[.int .i64 m] 70)).cell? ⟨w.heap.size, 0, none⟩ = some (.int .i64 m) := by rw [cell_of_row _ _ _ _ _ _ (heap_alloc_last _ _)]; rfl
  clear hb
  go_upto_region 3 with fail
  generalize w.alloc (.cells #[.int .i64 m] 70) = w1 at *
  go_wp2_with fail
  refine (none_any _ HA.out).mono ?_
  rintro e w' ⟨rfl, rfl⟩
  clear hta
  obtain ⟨pn, cn, hnv, hbn⟩ := HFF.out.now.bs
  have hc1 := (HA.out.file i HV.out).2.1
  rw [hnv] at hc1
  have hg1 := cell_grown hc1
  have hg2 := cell_grown hcm
  have hm0 : decide (m < 0) = false := decide_eq_false (by omega)
  have hm1 : decide ((f.now.length : Int) < m) = true := decide_eq_true hm
  clear hbn hnv
  go_upto_region 5 with fail
  refine wp_region_grow (by kernel_rfl) (by kernel_rfl) ?_
  repeat (first
    | ((with_reducible refine wpQuietGd ?_); (with_reducible refine wpQuiet_skip ?_ ?_); (· rfl); simp only [Act.put, List.setIfInBounds_toArray, List.set_cons_zero, List.set_cons_succ])
    | quiet_step (fail))
  refine wpQuiet_nil ?_
  intro w2 hb2
  have HB2 := Lib.hid (HB.out.trans (hb2.mono HB.out.size))
  clear hb2
  go_wp2_with fail
  go_ret
  exact ⟨rfl, HB2.out⟩
/-- a cut asked at whatever place -/
theorem cut_bad {base db : Nat} {vs : List FV} {d : DD} (w : World) (n m : Int) (hdo : Calls Try.prog 29 #[.pointer (some ⟨db, 0, none⟩), .int .i64 n, .iface 70 (.agg #[.int .i64 m])] w fun e w' => e = .returned (.int .i64 1) ∧ Below w.heap.size w w') (_h : DAt w base db vs d) :
    Calls Try.prog 11 #[.pointer (some ⟨db, 0, none⟩), .int .i64 n, .int .i64 m] w fun e w' => e = .returned (.int .i64 1) ∧ Below w.heap.size w w' := by
  have HDO := Lib.hid hdo
  clear hdo
  go_enter Try.func11, Try.ntmps11
  go_wp2_with ((with_reducible refine wpAt 10 ?_); refine wpList_build rfl 70 _ rfl [(0, .int .i64 m)] rfl _ (build_cut _) ?_)
  refine (HDO.out).mono ?_
  rintro e w2 ⟨rfl, hl⟩
  have HL := Lib.hid hl
  clear hl
  go_wp2_with fail
  go_ret
  exact ⟨rfl, HL.out⟩
set_option maxRecDepth 100000 in
theorem append_out {base db : Nat} {vs : List FV} {d : DD} (w : World) (h : DAt w base db vs d) (i : Int) (hi : i < 0 ∨ 3 ≤ i) (p : Option Addr) (n c : Nat) (b : List UInt8) (hb : Bs w p n c b) (hn : n ≤ 140737488355328) :
    Calls Try.prog 10 #[.pointer (some ⟨db, 0, none⟩), .int .i64 i, .slice p n c] w fun e w' => e = .returned (.int .i64 1) ∧ Below w.heap.size w w' := by
  have HBS := Lib.hid hb
  have hle := hb.le
  have hmax := hb.max
  have H := Lib.hid h
  have HI := Lib.hid hi
  clear hb h hi
  go_enter Try.func10, Try.ntmps10
  go_wp2_with (refine wpList_append_nx rfl _ _ 22 rfl (base := w.heap.size) Try.underlying22 info8 rfl (by omega) rfl (World.ownsRow_nil _ _ _ _) rfl HBS.out (bytesV_one _) ⟨by omega, by omega⟩ (Nat.le_refl _) ?_)
  intro p9 c9 w9 ho9 hg9 _ _
  have hb9 : Below w.heap.size w w9 := (Below.refl _ _).grown hg9 (Nat.le_refl _) (fun k hk => by simp [Value.ownBlock] at hk)
  have HB9 := Lib.hid hb9
  have HDO := Lib.hid (do_out w9 (H.out.below hb9) i HI.out (.iface 68 (.agg #[.slice p9 (0 + n) c9])) (.inl ⟨_, rfl⟩))
  rw [Nat.zero_add] at HDO
  clear ho9 hg9 hb9
  go_wp2_with ((with_reducible refine wpAt 11 ?_); refine wpList_build rfl 68 _ rfl [(0, .slice p9 n c9)] rfl _ (build_put _ _ _) ?_)
  refine (HDO.out).mono ?_
  rintro e w2 ⟨rfl, hl⟩
  have HL := Lib.hid (HB9.out.trans (hl.mono HB9.out.size))
  clear hl
  go_wp2_with fail
  go_ret
  exact ⟨rfl, HL.out⟩
set_option maxRecDepth 100000 in
theorem sync_out {base db : Nat} {vs : List FV} {d : DD} (w : World) (h : DAt w base db vs d) (i : Int) (hi : i < 0 ∨ 3 ≤ i) :
    Calls Try.prog 12 #[.pointer (some ⟨db, 0, none⟩), .int .i64 i] w fun e w' => e = .returned (.int .i64 1) ∧ w = w' := by
  have H := Lib.hid h
  have HI := Lib.hid hi
  clear h hi
  go_enter Try.func12, Try.ntmps12
  go_wp2_with fail
  refine (at_out w H.out i HI.out).mono ?_
  rintro e w' ⟨rfl, rfl⟩
  go_wp2_with fail
  refine (none_any w H.out).mono ?_
  rintro e w' ⟨rfl, rfl⟩
  go_wp2_with fail
  go_ret
  exact ⟨rfl, rfl⟩
set_option maxRecDepth 100000 in
/-- what a file keeps -/
theorem kept_in {base db : Nat} {vs : List FV} {d : DD} (w : World) (h : DAt w base db vs d) (i : Nat) (hi : i < d.fs.length) :
    Calls Try.prog 20 #[.pointer (some ⟨db, 0, none⟩), .int .i64 (i : Int)] w (RdP w.heap.size d.fs[i].kept w) := by
  have hv : i < vs.length := by have := h.n3; have := h.m3; omega
  have hi3 : i < 3 := by have := h.m3; omega
  have H := Lib.hid h
  have hc := (h.file i hv).1
  have hF := h.each i _ _ (List.getElem?_eq_getElem hv) (List.getElem?_eq_getElem hi)
  have hle := usedL_mem hi
  have hused := h.used
  have hroom1 := h.room1
  have hnl : d.fs[i].kept.length ≤ 65536 := by
    have := hF.ok.all 0
    rw [someU_zero] at this
    omega
  obtain ⟨pn, cn, hnv, hbn⟩ := hF.kept.bs
  rw [hnv] at hc
  generalize d.fs[i].kept = l at *
  have HBN := Lib.hid hbn
  have hl1 := hbn.le
  have hl2 := hbn.max
  clear hbn hF hnv h hle hused
  go_enter Try.func20, Try.ntmps20
  go_wp2_with fail
  refine (at_in w H.out i hi3).mono ?_
  rintro e w' ⟨rfl, rfl⟩
  go_wp2_with (refine wpList_append_nx rfl _ _ 22 rfl (base := w.heap.size) Try.underlying22 info8 rfl (by omega) rfl (World.ownsRow_nil _ _ _ _) rfl HBN.out (bytesV_one _) ⟨by omega, by omega⟩ (Nat.le_refl _) ?_)
  intro p9 c9 w9 ho9 hg9 _ _
  have HB9 : Hid (Below w.heap.size w w9) := (Below.refl _ _).grown hg9 (Nat.le_refl _) (fun k hk => by simp [Value.ownBlock] at hk)
  have HR9 : Hid (Rd w9 w.heap.size (.slice p9 l.length c9) l) := Rd.of_own ho9
  clear ho9 hg9
  go_wp2_with fail
  go_ret
  exact ⟨p9, c9, rfl, HR9.out, HB9.out⟩
set_option maxRecDepth 100000 in
/-- how long a file is -/
theorem size_in {base db : Nat} {vs : List FV} {d : DD} (w : World) (h : DAt w base db vs d) (i : Nat) (hi : i < d.fs.length) :
    Calls Try.prog 23 #[.pointer (some ⟨db, 0, none⟩), .int .i64 (i : Int)] w fun e w' => e = .returned (.int .i64 (d.fs[i].now.length : Int)) ∧ Below w.heap.size w w' := by
  have HR := Lib.hid (read_in w h i hi)
  clear h
  go_enter Try.func23, Try.ntmps23
  go_wp2_with fail
  refine (HR.out).mono ?_
  rintro e w2 ⟨p, c, rfl, _, hb⟩
  have HB := Lib.hid hb
  clear hb HR
  go_wp2_with fail
  go_ret
  exact ⟨rfl, HB.out⟩
set_option maxRecDepth 100000 in
/-- how many units wait -/
theorem units_in {base db : Nat} {vs : List FV} {d : DD} (w : World) (h : DAt w base db vs d) (i : Nat) (hi : i < d.fs.length) :
    Calls Try.prog 26 #[.pointer (some ⟨db, 0, none⟩), .int .i64 (i : Int)] w fun e w' => e = .returned (.int .i64 (unitsAll d.fs[i].steps : Int)) ∧ Below w.heap.size w w' := by
  have hi3 : i < 3 := by have := h.m3; omega
  have H := Lib.hid h
  have HU := Lib.hid (fileUnits_any w h i hi)
  clear h
  go_enter Try.func26, Try.ntmps26
  go_wp2_with fail
  refine (at_in w H.out i hi3).mono ?_
  rintro e w' ⟨rfl, rfl⟩
  go_wp2_with fail
  refine (HU.out).mono ?_
  rintro e w2 ⟨rfl, hb⟩
  have HB := Lib.hid hb
  clear hb HU
  go_wp2_with fail
  go_ret
  exact ⟨rfl, HB.out⟩
end Go.Proofs.Ytlmlcedjhpfeiaa.Dk
