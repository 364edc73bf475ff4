/- PARTS, JOINED: THE REFERENCE'S DISK: Sync. Conditions: sizes that fit. A REGION THAT DRAWS ITS ORDER, WALKED BY A TREE: what reads only what stood at its start is taken at once; where two operations may come next, both ways are walked. No program is named. Conditions: none. THE REFERENCE'S DISK: Do, where the step may be done. Conditions: sizes that fit. -/
import Derived.Test.YtbkkcejpkfbcjaaDd1
import Derived.Test.YtbkkcejpkfbcjaaDd2
import Derived.Test.YtbkkcejpkfbcjaaDd3
import Derived.Test.YtbkkcejpkfbcjaaDd4
namespace Go.Proofs.Ytbkkcejpkfbcjaa.Rk
open Go.RowKit Go.Mir Go.Mir.Parts Dk

theorem burn_fs (d : DD) : d.burn.fs = d.fs ∧ d.burn.room = d.room := by
  unfold DD.burn
  split <;> exact ⟨rfl, rfl⟩
theorem burn_fuse (d : DD) : d.burn.fuse ≤ d.fuse := by
  unfold DD.burn
  split
  · show d.fuse - 1 ≤ d.fuse; omega
  · exact Nat.le_refl _
theorem RQ.burn {base g : Nat} {ts : List RF} {d : DD} {x : World} (h : RQ base g ts d x) : RQ base g ts d.burn (x.setRow g (rdA ts d.burn)) ∧ KR base x (x.setRow g (rdA ts d.burn)) := by
  have hk : KR base x (x.setRow g (rdA ts d.burn)) := KR.of_turn (turns_setRow _ _ _) h.row
  refine ⟨⟨setRow_heap _ _ _ _ _ _ h.row, h.low, h.n3, by rw [(burn_fs d).1]; exact h.m3, fun i t f a b => ?_, by rw [(burn_fs d).2]; exact h.room1, Nat.le_trans (burn_fuse d) h.fuse1, by rw [(burn_fs d).1]; exact h.used⟩, hk⟩
  rw [(burn_fs d).1] at b
  exact ⟨(h.each i t f a b).1.step hk, (h.each i t f a b).2⟩
/-- what a function that turns disks leaves, with an answer -/
def ROut (d' : DD) (ev : Int) (w : World) (e : Ending) (w' : World) : Prop := ∃ ts, e = .returned (.tuple #[.agg (rdA ts d'), .int .i64 ev]) ∧ RDB w' ts d' ∧ Below w.heap.size w w'
/-- the result's row is laid -/
theorem RQ.done {base g gz : Nat} {ts : List RF} {d : DD} {x : World} {M : Array Value} (h : RQ base g ts d x) (hz : x.heap[gz]? = some (.cells M 37 (0, 0))) (_ : base ≤ gz) : RDB (x.setRow gz (rdA ts d)) ts d :=
  ⟨h.n3, h.m3, fun i t f a b => ⟨(h.each i t f a b).1.step (KR.of_turn (turns_setRow _ _ _) hz), (h.each i t f a b).2⟩, h.room1, h.fuse1, h.used⟩
theorem ranswer2 (ts : List RF) (d : DD) (x : Int) (hx : (if d.down = true then (18 : Int) else 0) = x) (w : World) (h1 : ts.length = 3) (h2 : d.fs.length = 3) :
    Calls Try.prog 39 #[.agg (rdA ts d)] w fun e w' => e = .returned (.int .i64 x) ∧ Below w.heap.size w w' := by
  subst hx
  exact ranswer_any ts d w h1 h2
set_option maxRecDepth 100000 in
set_option maxHeartbeats 1600000 in
theorem rsync_out (ts : List RF) (d : DD) (i : Int) (w : World) (h : RDB w ts d) (hi : i < 0 ∨ 3 ≤ i) :
    Calls Try.prog 16 #[.agg (rdA ts d), .int .i64 i] w (ROut d 1 w) := by
  have hz := zeroD
  obtain ⟨q1, q2, q3, q4⟩ := boxes w ts d
  have HQ : Hid (RQ w.heap.size w.heap.size ts d ((w.alloc (.cells (rdA ts d) 37)).alloc (.cells zD 37))) := RQ.of h q4 (Nat.le_refl _) q1
  have HZX := Lib.hid q2
  have HLOW := Lib.hid q4
  have HSZ := Lib.hid q3
  obtain ⟨_, hc7, hc8, hfz⟩ := HQ.out.cells
  clear q1 q2 q3 q4 h hc7
  by_cases h0 : i < 0
  · have d1 : decide (i < 0) = true := decide_eq_true h0
    clear hi h0
    go_enter Try.func16, Try.ntmps16
    go_upto_region 1 with fail
    generalize (w.alloc (.cells (rdA ts d) 37)).alloc (.cells zD 37) = w2 at *
    -- the result: the disk of the box g, and an answer that is laid. World w2, disk d of ts, HQ : Hid (RQ w.heap.size w.heap.size ts d w2), HZX : the result's row (at GZ), HLOW : Below w w2
    go_wp2_with (first
      | refine wpList_load_row rfl 37 _ rfl w.heap.size rfl 37 (rdA ts d) (0, 0) _ HQ.out.row Try.underlying37 rfl (infoRD _ (rdA_size HQ.out.n3 HQ.out.m3)) ?_
      | refine wpList_store_row rfl 37 _ _ rfl (w.heap.size + 1) (rdA ts d) rfl rfl 37 zD HZX.out (infoRD _ (rdA_size HQ.out.n3 HQ.out.m3)) (by rw [rdA_size HQ.out.n3 HQ.out.m3]; rfl) (rdA_one HQ.out.n3 HQ.out.m3) ?_)
    have HS := Lib.hid (setRow_heap _ _ _ (rdA ts d) _ _ HZX.out)
    refine bodyPost_ret (results_cell_tmp2 rfl _ _ _ _ _ _ _ rfl HS.out Try.underlying37 rfl (infoRD _ (rdA_size HQ.out.n3 HQ.out.m3))) rfl ?_
    exact ⟨ts, rfl, HQ.out.done HZX.out (by omega), below_setRow HLOW.out (by omega) _⟩
  · have d1 : decide (i < 0) = false := decide_eq_false h0
    have d2 : decide ((2 : Int) < i) = true := decide_eq_true (by omega)
    clear hi h0
    go_enter Try.func16, Try.ntmps16
    go_upto_region 1 with fail
    generalize (w.alloc (.cells (rdA ts d) 37)).alloc (.cells zD 37) = w2 at *
    -- the result: the disk of the box g, and an answer that is laid. World w2, disk d of ts, HQ : Hid (RQ w.heap.size w.heap.size ts d w2), HZX : the result's row (at GZ), HLOW : Below w w2
    go_wp2_with (first
      | refine wpList_load_row rfl 37 _ rfl w.heap.size rfl 37 (rdA ts d) (0, 0) _ HQ.out.row Try.underlying37 rfl (infoRD _ (rdA_size HQ.out.n3 HQ.out.m3)) ?_
      | refine wpList_store_row rfl 37 _ _ rfl (w.heap.size + 1) (rdA ts d) rfl rfl 37 zD HZX.out (infoRD _ (rdA_size HQ.out.n3 HQ.out.m3)) (by rw [rdA_size HQ.out.n3 HQ.out.m3]; rfl) (rdA_one HQ.out.n3 HQ.out.m3) ?_)
    have HS := Lib.hid (setRow_heap _ _ _ (rdA ts d) _ _ HZX.out)
    refine bodyPost_ret (results_cell_tmp2 rfl _ _ _ _ _ _ _ rfl HS.out Try.underlying37 rfl (infoRD _ (rdA_size HQ.out.n3 HQ.out.m3))) rfl ?_
    exact ⟨ts, rfl, HQ.out.done HZX.out (by omega), below_setRow HLOW.out (by omega) _⟩
set_option maxRecDepth 100000 in
set_option maxHeartbeats 3200000 in
theorem rsync_in (ts : List RF) (d : DD) (i : Nat) (hi : i < 3) (f : FD) (hf : d.fs[i]? = some f) (w : World) (h : RDB w ts d) :
    Calls Try.prog 16 #[.agg (rdA ts d), .int .i64 (i : Int)] w (ROut (syncD d i f) (syncE d) w) := by
  have d1 : decide ((i : Int) < 0) = false := decide_eq_false (by omega)
  have d2 : decide ((2 : Int) < (i : Int)) = false := decide_eq_false (by omega)
  have d3 : decide (2 < i) = false := decide_eq_false (by omega)
  cases hdn : d.down with
  | true =>
    obtain ⟨s1, s2⟩ := sync_down i f hdn
    rw [s1, s2]
    clear s1 s2
    have hz := zeroD
    obtain ⟨q1, q2, q3, q4⟩ := boxes w ts d
    have HQ : Hid (RQ w.heap.size w.heap.size ts d ((w.alloc (.cells (rdA ts d) 37)).alloc (.cells zD 37))) := RQ.of h q4 (Nat.le_refl _) q1
    have HZX := Lib.hid q2
    have HLOW := Lib.hid q4
    have HSZ := Lib.hid q3
    obtain ⟨_, hc7, hc8, hfz⟩ := HQ.out.cells
    clear q1 q2 q3 q4 h hc7
    rw [hdn] at hc8
    clear hdn
    go_enter Try.func16, Try.ntmps16
    go_upto_region 1 with fail
    generalize (w.alloc (.cells (rdA ts d) 37)).alloc (.cells zD 37) = w2 at *
    go_upto_region 4 with fail
    clear hc8 hfz
    skip
    -- the result: the disk of the box g, and an answer that is laid. World w2, disk d of ts, HQ : Hid (RQ w.heap.size w.heap.size ts d w2), HZX : the result's row (at GZ), HLOW : Below w w2
    go_wp2_with (first
      | refine wpList_load_row rfl 37 _ rfl w.heap.size rfl 37 (rdA ts d) (0, 0) _ HQ.out.row Try.underlying37 rfl (infoRD _ (rdA_size HQ.out.n3 HQ.out.m3)) ?_
      | refine wpList_store_row rfl 37 _ _ rfl (w.heap.size + 1) (rdA ts d) rfl rfl 37 zD HZX.out (infoRD _ (rdA_size HQ.out.n3 HQ.out.m3)) (by rw [rdA_size HQ.out.n3 HQ.out.m3]; rfl) (rdA_one HQ.out.n3 HQ.out.m3) ?_)
    have HS := Lib.hid (setRow_heap _ _ _ (rdA ts d) _ _ HZX.out)
    refine bodyPost_ret (results_cell_tmp2 rfl _ _ _ _ _ _ _ rfl HS.out Try.underlying37 rfl (infoRD _ (rdA_size HQ.out.n3 HQ.out.m3))) rfl ?_
    exact ⟨ts, rfl, HQ.out.done HZX.out (by omega), below_setRow HLOW.out (by omega) _⟩
  | false =>
    obtain ⟨DB, hDB⟩ : ∃ DB, d.burn = DB := ⟨_, rfl⟩
    cases hbd : DB.down with
    | true =>
      obtain ⟨s1, s2⟩ := sync_burnt i f hdn (by rw [hDB]; exact hbd)
      rw [s1, s2, hDB]
      clear s1 s2
      have hz := zeroD
      obtain ⟨q1, q2, q3, q4⟩ := boxes w ts d
      have HQ : Hid (RQ w.heap.size w.heap.size ts d ((w.alloc (.cells (rdA ts d) 37)).alloc (.cells zD 37))) := RQ.of h q4 (Nat.le_refl _) q1
      have HZX := Lib.hid q2
      have HLOW := Lib.hid q4
      have HSZ := Lib.hid q3
      obtain ⟨_, hc7, hc8, hfz⟩ := HQ.out.cells
      clear q1 q2 q3 q4 h hc7
      rw [hdn] at hc8
      clear hdn
      go_enter Try.func16, Try.ntmps16
      go_upto_region 1 with fail
      generalize (w.alloc (.cells (rdA ts d) 37)).alloc (.cells zD 37) = w2 at *
      have HBU := Lib.hid (rburn_any ts d w2 HQ.out.n3 HQ.out.m3 HQ.out.fuse1)
      go_wp2_with (refine wpList_load_row rfl 37 _ rfl w.heap.size rfl 37 (rdA ts d) (0, 0) _ HQ.out.row Try.underlying37 rfl (infoRD _ (rdA_size HQ.out.n3 HQ.out.m3)) ?_)
      refine HBU.out.mono ?_
      rintro e w3 ⟨rfl, hb3⟩
      have hq3 := HQ.out.next hb3
      obtain ⟨hq4, hk4⟩ := hq3.burn
      rw [hDB] at hq4 hk4 ⊢
      have HQ3 := Lib.hid hq3
      have HD3 : Hid (DB.fs.length = 3) := hq4.m3
      have HZ4 := Lib.hid (Below.keepOld hb3 HZX.out)
      have HL3 := Lib.hid (HLOW.out.trans (hb3.mono HLOW.out.size))
      have HQ4 := Lib.hid hq4
      have hz4 : (w3.setRow w.heap.size (rdA ts DB)).heap[w.heap.size + 1]? = some (.cells zD 37 (0, 0)) := by rw [setRow_other _ _ _ _ (by omega)]; exact HZ4.out
      have HZ5 := Lib.hid hz4
      have HL5 : Hid (Below w.heap.size w (w3.setRow w.heap.size (rdA ts DB))) := below_setRow HL3.out (Nat.le_refl _) _
      clear HQ HZX HLOW hc8 hfz HBU hb3 hq3 hq4 hk4 hz4
      go_upto_region 6 with (refine wpList_store_row rfl 37 _ _ rfl w.heap.size (rdA ts DB) rfl rfl 37 (rdA ts d) HQ3.out.row (infoRD _ (rdA_size HQ3.out.n3 HD3.out)) (by rw [rdA_size HQ3.out.n3 HD3.out, rdA_size HQ3.out.n3 HQ3.out.m3]) (rdA_one HQ3.out.n3 HD3.out) ?_)
      try simp only [Act.put, List.setIfInBounds_toArray, List.set_cons_zero, List.set_cons_succ]
      clear HQ3 HZ4 HL3
      generalize w3.setRow w.heap.size (rdA ts DB) = w4 at *
      obtain ⟨_, _, hc8, hfz⟩ := HQ4.out.cells
      rw [hbd] at hc8
      have HQ := HQ4
      have HZX := HZ5
      have HLOW := HL5
      clear HQ4 HZ5 HL5
      go_upto_region 8 with fail
      clear hc8 hfz
      have HAN : Hid ((if DB.down = true then (18 : Int) else 0) = 18) := by show _ = _; rw [if_pos hbd]
      clear hbd hDB
      skip
      -- 'return d, answer(d)': region 8 of world w4, disk DB of ts
      have HLA : Hid (∀ w', Below w4.heap.size w4 w' → w'.rangeAt w.heap.size 0 (rdA ts DB).toList) := fun w' hb j v hv => by rw [cell_of_row _ _ _ _ _ _ (Below.keepOld hb HQ.out.row), ← Array.getElem?_toList, Nat.zero_add]; exact hv
      go_upto_region 8 with fail
      refine wp_region_eager_t (Below w4.heap.size w4) [0, 1] [(0, true), (1, true), (2, false)] [3, 4] (by kernel_rfl) (by kernel_rfl) ?_ (eagerTOpen rfl ?_)
      · exact below_drew1 _ _
      have hy0 : Below w4.heap.size w4 w4.drew := below_drew1 _ _
      repeat (first
        | ((with_reducible refine eagerTLoadAt 2 ?_); refine wpEagerT_load (by rfl) 37 _ rfl w.heap.size 0 rfl (rdA ts DB) _ (fun w' hb => HLA.out w' hb) Try.underlying37 rfl (infoRD _ (rdA_size HQ.out.n3 HQ.out.m3)) ?_; (try simp only [Act.put, List.setIfInBounds_toArray, List.set_cons_zero, List.set_cons_succ]); (try refine eagerTOpen rfl ?_))
        | (first | (apply wpEagerT_take; (· rfl); (· (intro w' hb'; go_simp; try with_reducible rfl)); (try simp only [Act.put, List.setIfInBounds_toArray, List.set_cons_zero, List.set_cons_succ]); (try refine eagerTOpen rfl ?_)) | (refine wpEagerT_skip (by rfl) ?_; (try simp only [Act.put, List.setIfInBounds_toArray, List.set_cons_zero, List.set_cons_succ]); (try refine eagerTOpen rfl ?_))))
      (refine wpEagerT_op (by rfl) (fun K hK => ?_); go_simp; (refine (ranswer2 ts DB 18 HAN.out _ HQ.out.n3 HQ.out.m3).mono ?_; rintro e y1 ⟨rfl, hb⟩; have hy1 := hy0.trans hb; clear hb); refine Shut.out hK _ _ (by assumption) ?_; clear hK K; (try simp only [Act.put, List.setIfInBounds_toArray, List.set_cons_zero, List.set_cons_succ]); (try refine eagerTOpen rfl ?_))
      refine eagerTEnd (tail2 rfl rfl ?_)
      have hq1 := HQ.out.next hy1
      have hz1 := Below.keepOld hy1 HZX.out
      have hl1 := HLOW.out.trans (hy1.mono HLOW.out.size)
      clear HQ HZX HLOW HLA hy0 hy1
      have HQ := Lib.hid hq1
      have HZX := Lib.hid hz1
      have HLOW := Lib.hid hl1
      clear hq1 hz1 hl1
      go_wp2_with (refine wpList_store_row rfl 37 _ _ rfl (w.heap.size + 1) (rdA ts DB) rfl rfl 37 zD HZX.out (infoRD _ (rdA_size HQ.out.n3 HQ.out.m3)) (by rw [rdA_size HQ.out.n3 HQ.out.m3]; rfl) (rdA_one HQ.out.n3 HQ.out.m3) ?_)
      refine noPanic_end ?_
      go_wp2_with fail
      have HS := Lib.hid (setRow_heap _ _ _ (rdA ts DB) _ _ HZX.out)
      refine bodyPost_ret (results_cell_tmp2 rfl _ _ _ _ _ _ _ rfl HS.out Try.underlying37 rfl (infoRD _ (rdA_size HQ.out.n3 HQ.out.m3))) rfl ?_
      exact ⟨ts, rfl, HQ.out.done HZX.out (by omega), below_setRow HLOW.out (by omega) _⟩
    | false =>
      obtain ⟨s1, s2⟩ := sync_ok i f hdn (by rw [hDB]; exact hbd)
      rw [s1, s2, hDB]
      clear s1 s2
      obtain ⟨FN, hFN⟩ : ∃ FN, f.settle (unitsAll f.steps) = FN := ⟨_, rfl⟩
      rw [hFN]
      have HFN := Lib.hid hFN
      clear hFN
      have hz := zeroD
      obtain ⟨q1, q2, q3, q4⟩ := boxes w ts d
      have HQ : Hid (RQ w.heap.size w.heap.size ts d ((w.alloc (.cells (rdA ts d) 37)).alloc (.cells zD 37))) := RQ.of h q4 (Nat.le_refl _) q1
      have HZX := Lib.hid q2
      have HLOW := Lib.hid q4
      have HSZ := Lib.hid q3
      obtain ⟨_, hc7, hc8, hfz⟩ := HQ.out.cells
      clear q1 q2 q3 q4 h hc7
      rw [hdn] at hc8
      clear hdn
      go_enter Try.func16, Try.ntmps16
      go_upto_region 1 with fail
      generalize (w.alloc (.cells (rdA ts d) 37)).alloc (.cells zD 37) = w2 at *
      have HBU := Lib.hid (rburn_any ts d w2 HQ.out.n3 HQ.out.m3 HQ.out.fuse1)
      go_wp2_with (refine wpList_load_row rfl 37 _ rfl w.heap.size rfl 37 (rdA ts d) (0, 0) _ HQ.out.row Try.underlying37 rfl (infoRD _ (rdA_size HQ.out.n3 HQ.out.m3)) ?_)
      refine HBU.out.mono ?_
      rintro e w3 ⟨rfl, hb3⟩
      have hq3 := HQ.out.next hb3
      obtain ⟨hq4, hk4⟩ := hq3.burn
      have hff : d.burn.fs = d.fs := (burn_fs d).1
      rw [hDB] at hq4 hk4 hff ⊢
      rw [← hff] at hf
      have HF := Lib.hid hf
      have HQ3 := Lib.hid hq3
      have HD3 : Hid (DB.fs.length = 3) := hq4.m3
      have HZ4 := Lib.hid (Below.keepOld hb3 HZX.out)
      have HL3 := Lib.hid (HLOW.out.trans (hb3.mono HLOW.out.size))
      have HQ4 := Lib.hid hq4
      have hz4 : (w3.setRow w.heap.size (rdA ts DB)).heap[w.heap.size + 1]? = some (.cells zD 37 (0, 0)) := by rw [setRow_other _ _ _ _ (by omega)]; exact HZ4.out
      have HZ5 := Lib.hid hz4
      have HL5 : Hid (Below w.heap.size w (w3.setRow w.heap.size (rdA ts DB))) := below_setRow HL3.out (Nat.le_refl _) _
      clear HQ HZX HLOW hc8 hfz HBU hb3 hq3 hq4 hk4 hz4 hff hf
      go_upto_region 6 with (refine wpList_store_row rfl 37 _ _ rfl w.heap.size (rdA ts DB) rfl rfl 37 (rdA ts d) HQ3.out.row (infoRD _ (rdA_size HQ3.out.n3 HD3.out)) (by rw [rdA_size HQ3.out.n3 HD3.out, rdA_size HQ3.out.n3 HQ3.out.m3]) (rdA_one HQ3.out.n3 HD3.out) ?_)
      try simp only [Act.put, List.setIfInBounds_toArray, List.set_cons_zero, List.set_cons_succ]
      clear HQ3 HZ4 HL3
      generalize w3.setRow w.heap.size (rdA ts DB) = w4 at *
      obtain ⟨_, _, hc8, hfz⟩ := HQ4.out.cells
      rw [hbd] at hc8
      have HZX := HZ5
      have HLOW := HL5
      have hlt : i < ts.length := by rw [HQ4.out.n3]; exact hi
      have hti : ts[i]? = some (ts[i]'hlt) := List.getElem?_eq_getElem hlt
      generalize ts[i]'hlt = t at *
      obtain ⟨hrb, hnd⟩ := HQ4.out.each i t f hti HF.out
      have hil : i < DB.fs.length := by rw [HD3.out]; exact hi
      have hfe : DB.fs[i] = f := by have := HF.out; rw [List.getElem?_eq_getElem hil] at this; exact Option.some.inj this
      have hnb : f.need ≤ 1000000 := by have h1 := usedL_mem hil; have h2 := HQ4.out.used; rw [hfe] at h1; omega
      have HRG := Lib.hid (rd_range HQ4.out.n3 HQ4.out.m3 HQ4.out.row i hti HF.out)
      have HHO := Lib.hid (rholds_any t f w4 hrb.now hnb)
      have hset : FN = ⟨f.now, f.now, [], f.now.length⟩ := by
        rw [← HFN.out]
        unfold FD.settle
        rw [someU_all _ _ _ (Nat.le_refl _), ← hrb.now.ok.now]
      have hun := usedL_set hil FN
      have hnow := hrb.now.ok.le
      have HUS : Hid (usedL (setF DB i FN).fs ≤ 1000000) := by
        show usedL (DB.fs.set i _) ≤ _
        have h2 := HQ4.out.used
        rw [hfe] at hun
        have h3 : FN.need = f.now.length := by rw [hset]
        omega
      have HNS : Hid (Nd FN) := by have := nd_settle f (unitsAll f.steps); rw [HFN.out] at this; exact this
      have HST := Lib.hid hset
      clear HZ5 HL5 hti hrb hnd hnb hset hun hnow hfe hDB HFN
      generalize f.now = L at *
      go_upto_region 7 with fail
      go_wp2_with ((with_reducible refine wpAt 25 ?_); refine wpList_load_mid rfl 34 _ rfl w.heap.size (i * 2) rfl (fA t f).toList _ HRG.out Try.underlying34 rfl (infoFi (fA t f) rfl) ?_)
      try rw [Array.toArray_toList]
      refine HHO.out.mono ?_
      rintro e w5 ⟨p5, c5, rfl, ho5, hb5⟩
      have hq5 := HQ4.out.next hb5
      have hfr : Rb w.heap.size w5 ⟨p5, c5, none, 0⟩ FN := Rb.fresh (f := FN) ho5 HST.out
      obtain ⟨TN, hTN⟩ : ∃ TN : RF, (⟨p5, c5, none, 0⟩ : RF) = TN := ⟨_, rfl⟩
      have hfa : fA TN FN = #[.slice p5 L.length c5, .slice none 0 0] := by rw [← hTN, HST.out]; rfl
      rw [hTN] at hfr
      obtain ⟨hq6, hk6⟩ := hq5.file i hi TN FN hfr HNS.out HUS.out
      rw [hfa] at hq6 hk6
      have HTH := Lib.hid (hq5.there i hi)
      have HQ6 := Lib.hid hq6
      have HL6 := Lib.hid (HLOW.out.trans (hb5.mono HLOW.out.size))
      have HL7 : Hid (Below w.heap.size w (w5.setCells w.heap.size (i * 2) #[.slice p5 L.length c5, .slice none 0 0].toList)) := Lib.hid (HL6.out.trans (Turns.below (turns_setCells (S := fun k => k = w.heap.size) rfl _ _ _ (Turns.refl _ w5)) HL6.out.size (fun _ e => by omega)))
      have HZ6 := Lib.hid (Below.keepOld hb5 HZX.out)
      have hd6 : (w5.setCells w.heap.size (i * 2) #[.slice p5 L.length c5, .slice none 0 0].toList).heap[w.heap.size + 1]? = some (.cells zD 37 (0, 0)) := (turns_setCells (S := fun k => k = w.heap.size) rfl _ _ _ (Turns.refl _ w5)).keep HZ6.out (by omega)
      have HZ7 := Lib.hid hd6
      have HAN : Hid ((if (setF DB i FN).down = true then (18 : Int) else 0) = 0) := by show _ = _; rw [show (setF DB i FN).down = DB.down from rfl, if_neg (by rw [hbd]; decide)]
      clear HQ4 HZX HLOW hc8 hfz HHO ho5 hb5 hq5 hfr hq6 hk6 hd6 HRG HUS HNS HF hbd HST HZ6 HL6 hTN hfa
      go_upto_region 8 with (refine wpList_store_mid rfl 34 _ _ rfl w.heap.size (i * 2) #[.slice p5 L.length c5, .slice none 0 0] rfl rfl HTH.out (infoFi _ rfl) (by simp [Value.oneCell']) ?_)
      try simp only [Act.put, List.setIfInBounds_toArray, List.set_cons_zero, List.set_cons_succ]
      clear HTH
      generalize w5.setCells w.heap.size (i * 2) #[.slice p5 L.length c5, .slice none 0 0].toList = w6 at *
      have HQ := HQ6
      have HZX := HZ7
      have HLOW := HL7
      clear HQ6 HZ7 HL7
      generalize setF DB i FN = DF at *
      obtain ⟨TF, hTF⟩ : ∃ TF, ts.set i TN = TF := ⟨_, rfl⟩
      rw [hTF] at HQ
      clear hTF
      skip
      -- 'return d, answer(d)': region 8 of world w6, disk DF of TF
      have HLA : Hid (∀ w', Below w6.heap.size w6 w' → w'.rangeAt w.heap.size 0 (rdA TF DF).toList) := fun w' hb j v hv => by rw [cell_of_row _ _ _ _ _ _ (Below.keepOld hb HQ.out.row), ← Array.getElem?_toList, Nat.zero_add]; exact hv
      go_upto_region 8 with fail
      refine wp_region_eager_t (Below w6.heap.size w6) [0, 1] [(0, true), (1, true), (2, false)] [3, 4] (by kernel_rfl) (by kernel_rfl) ?_ (eagerTOpen rfl ?_)
      · exact below_drew1 _ _
      have hy0 : Below w6.heap.size w6 w6.drew := below_drew1 _ _
      repeat (first
        | ((with_reducible refine eagerTLoadAt 2 ?_); refine wpEagerT_load (by rfl) 37 _ rfl w.heap.size 0 rfl (rdA TF DF) _ (fun w' hb => HLA.out w' hb) Try.underlying37 rfl (infoRD _ (rdA_size HQ.out.n3 HQ.out.m3)) ?_; (try simp only [Act.put, List.setIfInBounds_toArray, List.set_cons_zero, List.set_cons_succ]); (try refine eagerTOpen rfl ?_))
        | (first | (apply wpEagerT_take; (· rfl); (· (intro w' hb'; go_simp; try with_reducible rfl)); (try simp only [Act.put, List.setIfInBounds_toArray, List.set_cons_zero, List.set_cons_succ]); (try refine eagerTOpen rfl ?_)) | (refine wpEagerT_skip (by rfl) ?_; (try simp only [Act.put, List.setIfInBounds_toArray, List.set_cons_zero, List.set_cons_succ]); (try refine eagerTOpen rfl ?_))))
      (refine wpEagerT_op (by rfl) (fun K hK => ?_); go_simp; (refine (ranswer2 TF DF 0 HAN.out _ HQ.out.n3 HQ.out.m3).mono ?_; rintro e y1 ⟨rfl, hb⟩; have hy1 := hy0.trans hb; clear hb); refine Shut.out hK _ _ (by assumption) ?_; clear hK K; (try simp only [Act.put, List.setIfInBounds_toArray, List.set_cons_zero, List.set_cons_succ]); (try refine eagerTOpen rfl ?_))
      refine eagerTEnd (tail2 rfl rfl ?_)
      have hq1 := HQ.out.next hy1
      have hz1 := Below.keepOld hy1 HZX.out
      have hl1 := HLOW.out.trans (hy1.mono HLOW.out.size)
      clear HQ HZX HLOW HLA hy0 hy1
      have HQ := Lib.hid hq1
      have HZX := Lib.hid hz1
      have HLOW := Lib.hid hl1
      clear hq1 hz1 hl1
      go_wp2_with (refine wpList_store_row rfl 37 _ _ rfl (w.heap.size + 1) (rdA TF DF) rfl rfl 37 zD HZX.out (infoRD _ (rdA_size HQ.out.n3 HQ.out.m3)) (by rw [rdA_size HQ.out.n3 HQ.out.m3]; rfl) (rdA_one HQ.out.n3 HQ.out.m3) ?_)
      refine noPanic_end ?_
      go_wp2_with fail
      have HS := Lib.hid (setRow_heap _ _ _ (rdA TF DF) _ _ HZX.out)
      refine bodyPost_ret (results_cell_tmp2 rfl _ _ _ _ _ _ _ rfl HS.out Try.underlying37 rfl (infoRD _ (rdA_size HQ.out.n3 HQ.out.m3))) rfl ?_
      exact ⟨TF, rfl, HQ.out.done HZX.out (by omega), below_setRow HLOW.out (by omega) _⟩
end Go.Proofs.Ytbkkcejpkfbcjaa.Rk

namespace Go.Mir
open Go.RowKit

/-- which operation comes next: taken at once; the only one; one of two -/
inductive Tr where
  | nil
  | take (i : Nat) (r : Tr)
  | one (i : Nat) (r : Tr)
  | two (i j : Nat) (r s : Tr)
def Tr.deep : Tr → Nat
  | .nil => 0
  | .take _ r => r.deep + 1
  | .one _ r => r.deep + 1
  | .two _ _ r _ => r.deep + 1
def treeB (ops : Array Oper) : Tr → Array Bool → Bool
  | .nil, l => (Region.ready .any ops l).isEmpty
  | .take i r, l => (ops[i]?).isSome && Region.free .any ops l i && (Region.ready .any ops l).contains i && treeB ops r (l.setIfInBounds i true)
  | .one i r, l => (ops[i]?).isSome && Region.ready .any ops l == [i] && treeB ops r (l.setIfInBounds i true)
  | .two i j r s, l => (ops[i]?).isSome && (ops[j]?).isSome && Region.ready .any ops l == [i, j] && r.deep == s.deep && !(i == j) && treeB ops r (l.setIfInBounds i true) && treeB ops s (l.setIfInBounds j true)
section
variable {P : Program} {ops : Array Oper} {S : World → Prop} {Q : Exit → Act → World → Prop}
/-- one operation, in its turn -/
def wpTurn (P : Program) (ops : Array Oper) (o : Oper) (a : Act) (w : World) (K : Act → World → Prop) (Q : Exit → Act → World → Prop) : Prop :=
  if Region.wanted o (yielded ops a.tmps) then o.wp P a w K Q else K (a.put o.dst undef) w
def wpTree (P : Program) (ops : Array Oper) (S : World → Prop) (Q : Exit → Act → World → Prop) (l : List Oper) : Tr → Act → World → Prop
  | .nil, a, w => Q .normal a w
  | .take i r, a, w => match nthO l i with
    | some o => ∃ v, YieldsIf P ops S o v a ∧ wpTree P ops S Q l r (a.put o.dst v) w
    | none => False
  | .one i r, a, w => match nthO l i with
    | some o => wpTurn P ops o a w (fun a' w' => S w' ∧ wpTree P ops S Q l r a' w') Q
    | none => False
  | .two i j r s, a, w => (match nthO l i with
    | some o => wpTurn P ops o a w (fun a' w' => S w' ∧ wpTree P ops S Q l r a' w') Q
    | none => False) ∧ (match nthO l j with
    | some o => wpTurn P ops o a w (fun a' w' => S w' ∧ wpTree P ops S Q l s a' w') Q
    | none => False)
theorem wpOp_turn {i : Nat} {o : Oper} {K K' : Act → World → Prop} {a : Act} {w : World} (ho : ops[i]? = some o) (hK : ∀ a w, K a w → K' a w) (h : wpTurn P ops o a w K Q) : wpOp P ops Q i K' a w := by
  unfold wpOp
  simp only [ho]
  unfold wpTurn at h
  split at h
  · rename_i hw
    rw [if_pos hw]
    exact .inl (Oper.wp_mono (fun a' w' h5 => hK _ _ h5) h)
  · rename_i hw
    rw [if_neg hw]
    exact hK _ _ h
theorem wpAnyH_tree {l : List Oper} (hl : l.toArray = ops) (hs : Region.noSelect ops = true) (hQ : ∀ c a d v w, Q (.panic c) (a.put d v) w → Q (.panic c) a w) :
    ∀ (t : Tr) (listed : Array Bool) (a : Act) (w : World), treeB ops t listed = true → S w → wpTree P ops S Q l t a w → wpAnyH P .any ops Q S t.deep listed a w
  | .nil, listed, a, w, hp, _, h => by
    refine wpAnyH_done ?_ h _
    simpa [treeB, List.isEmpty_iff] using hp
  | .take i r, listed, a, w, hp, hS, h => by
    simp only [treeB, Bool.and_eq_true] at hp
    obtain ⟨⟨⟨h1, h2⟩, h3⟩, h4⟩ := hp
    obtain ⟨o, ho⟩ := Option.isSome_iff_exists.1 h1
    have hn : nthO l i = some o := by rw [← nthO_eq, hl]; exact ho
    simp only [wpTree, hn] at h
    obtain ⟨v, hy, h⟩ := h
    exact wpAnyH_take ho hs h2 h3 (fun c a w => hQ c a _ _ w) hy hS (wpAnyH_tree hl hs hQ r _ _ _ h4 hS h)
  | .one i r, listed, a, w, hp, hS, h => by
    simp only [treeB, Bool.and_eq_true, beq_iff_eq] at hp
    obtain ⟨⟨h1, h2⟩, h4⟩ := hp
    obtain ⟨o, ho⟩ := Option.isSome_iff_exists.1 h1
    have hn : nthO l i = some o := by rw [← nthO_eq, hl]; exact ho
    simp only [wpTree, hn] at h
    refine wpAnyH_all h2 (by simp) fun j hj => ?_
    rw [List.mem_singleton] at hj
    subst hj
    exact wpOp_turn ho (fun a' w' ⟨h5, h6⟩ => ⟨h5, wpAnyH_tree hl hs hQ r _ _ _ h4 h5 h6⟩) h
  | .two i j r s, listed, a, w, hp, hS, h => by
    simp only [treeB, Bool.and_eq_true, beq_iff_eq] at hp
    obtain ⟨⟨⟨⟨⟨⟨h1, h1'⟩, h2⟩, hd⟩, hne⟩, h4⟩, h4'⟩ := hp
    obtain ⟨o, ho⟩ := Option.isSome_iff_exists.1 h1
    obtain ⟨o', ho'⟩ := Option.isSome_iff_exists.1 h1'
    have hn : nthO l i = some o := by rw [← nthO_eq, hl]; exact ho
    have hn' : nthO l j = some o' := by rw [← nthO_eq, hl]; exact ho'
    simp only [wpTree, hn, hn'] at h
    refine wpAnyH_all h2 (by simp) fun k hk => ?_
    rcases List.mem_cons.1 hk with rfl | hk
    · exact wpOp_turn ho (fun a' w' ⟨h5, h6⟩ => ⟨h5, wpAnyH_tree hl hs hQ r _ _ _ h4 h5 h6⟩) h.1
    · rw [List.mem_singleton] at hk
      subst hk
      exact wpOp_turn ho' (fun a' w' ⟨h5, h6⟩ => ⟨h5, by rw [hd]; exact wpAnyH_tree hl hs hQ s _ _ _ h4' h5 h6⟩) h.2
/-- the beginning -/
theorem wp_region_tree {id : Nat} {a : Act} {w : World} {l : List Oper} (S : World → Prop) (t : Tr) (hm : P.follows .mixedOrders = true)
    (hp : (treeB l.toArray t (Array.replicate l.length false) && Region.noSelect l.toArray && t.deep == l.length) = true) (hS : S w.drew)
    (h : wpTree P l.toArray S (NoPanic Q) l t a w.drew) : (Code.region id l.toArray true).wp P Q a w := by
  refine wp_region_noPanic ?_
  simp only [Bool.and_eq_true, beq_iff_eq] at hp
  obtain ⟨⟨h1, h2⟩, h3⟩ := hp
  have := wpAnyH_tree (P := P) (Q := NoPanic Q) (S := S) (l := l) rfl h2 (fun _ _ _ _ _ h => h) t (Array.replicate l.length false) a w.drew h1 hS h
  refine wp_region_held hm (S := S) ?_
  rw [h3] at this
  have hz : l.toArray.size = l.length := List.size_toArray ..
  rw [hz]
  exact this
/-- its steps -/
theorem tree_take {l : List Oper} {i : Nat} {r : Tr} {a : Act} {w : World} {o : Oper} {v : Value} (hn : nthO l i = some o) (hw : Region.wanted o (yielded ops a.tmps) = true) (hy : ∀ w', S w' → (execOp a.eval o).run P w' = .ok (.value v) w')
    (h : wpTree P ops S Q l r (a.put o.dst v) w) : wpTree P ops S Q l (.take i r) a w := by
  simp only [wpTree, hn]; exact ⟨v, .inl ⟨hw, hy⟩, h⟩
theorem tree_load {l : List Oper} {i : Nat} {r : Tr} {a : Act} {w : World} {op : Oper} (hn : nthO l i = some op) (hw : Region.wanted op (yielded ops a.tmps) = true) (ty : TypeId) (x : Operand) (ho : op.op = .load ty x)
    (b o : Nat) (hx : a.eval x = .pointer (some ⟨b, o, none⟩)) (M : Array Value) (d : TypeDesc) (hc : ∀ w', S w' → w'.rangeAt b o M.toList)
    (hu : P.underlying ty = some d) (hd : d.isRow = true) (hi : (P.info? ty).map (·.size) = some M.size)
    (h : wpTree P ops S Q l r (a.put op.dst (.agg M)) w) : wpTree P ops S Q l (.take i r) a w := by
  refine tree_take hn hw (fun w' hb => ?_) h
  unfold execOp
  simp only [ho, hx, Instr.loadAt, Instr.sureAddr, Sem.run_bind, Sem.run_pure, Result.andThen_ok, run_loadVar_mid w' b o ty M.toList d (hc w' hb) hu hd (by simpa using hi)]
theorem tree_one {l : List Oper} {i : Nat} {r : Tr} {a : Act} {w : World} {o : Oper} (hn : nthO l i = some o) (hw : Region.wanted o (yielded ops a.tmps) = true)
    (h : ∀ K : Act → World → Prop, Shut (∀ a w, S w → wpTree P ops S Q l r a w → K a w) → Oper.wp P o a w K Q) : wpTree P ops S Q l (.one i r) a w := by
  simp only [wpTree, hn, wpTurn]; rw [if_pos hw]; exact h _ fun _ _ h1 h2 => ⟨h1, h2⟩
theorem tree_two {l : List Oper} {i j : Nat} {r s : Tr} {a : Act} {w : World} (h1 : wpTree P ops S Q l (.one i r) a w) (h2 : wpTree P ops S Q l (.one j s) a w) : wpTree P ops S Q l (.two i j r s) a w := by
  simp only [wpTree] at h1 h2 ⊢; exact ⟨h1, h2⟩
theorem tree_nil {l : List Oper} {a : Act} {w : World} (h : Q .normal a w) : wpTree P ops S (NoPanic Q) l .nil a w := h
end
end Go.Mir

namespace Go.Proofs.Ytbkkcejpkfbcjaa.Rk
open Go.RowKit Go.Mir Go.Mir.Parts Dk

theorem row_sl {w : World} {b : Nat} {A : Array Value} {t : TypeId} {fr : Nat × Nat} (h : w.heap[b]? = some (.cells A t fr)) (n : Nat) (hn : A.size = n) : Sl w (some ⟨b, 0, none⟩) 1 1 n A.toList :=
  ⟨by rw [Array.length_toList, hn, Nat.one_mul], Nat.le_refl _, by omega, fun h => (by cases h), fun a ha j u hu => by
    obtain rfl := Option.some.inj ha
    rw [add_none, Nat.zero_add, cell_of_row _ _ _ _ _ _ h, ← Array.getElem?_toList]
    exact hu⟩
theorem own_below_alloc {w : World} {base e size n : Nat} {v : Value} {xs : List Value} (h : w.ownsRow base e size v n xs) (o : Obj) : (w.alloc o).ownsRow base e size v n xs :=
  own_touch h (Turns.of_below (S := fun _ => False) (Below.allocs w o)) (fun _ _ h => h)
theorem infoSteps : (Try.prog.info? 76).map (fun i => (i.zero, i.size, i.bytes)) = some (some (.agg #[.bool false, .int .i64 0, .slice none 0 0]), 3, 40) := by kernel_rfl
theorem rsetS {ts : List RF} {d : DD} (h1 : ts.length = 3) (h2 : d.fs.length = 3) (i : Nat) {t : RF} {f : FD} (ht : ts[i]? = some t) (hf : d.fs[i]? = some f) (p : Option Addr) (c : Nat) (f' : FD) (hk : f'.kept = f.kept) :
    (rdA ts d).setIfInBounds (i * 2 + 1) (.slice p f'.steps.length c) = rdA (ts.set i ⟨t.kp, t.kc, p, c⟩) (setF d i f') := by
  obtain ⟨a, b, e, x, y, z, rfl, e2⟩ := rdA_form h1 h2
  unfold rdA rdL setF
  rw [e2] at hf ⊢
  match i, ht, hf with
  | 0, ht, hf => cases ht; cases hf; simp [fL, hk]
  | 1, ht, hf => cases ht; cases hf; simp [fL, hk]
  | 2, ht, hf => cases ht; cases hf; simp [fL, hk]
  | i + 3, ht, hf => cases ht
theorem RQ.steps {base g : Nat} {ts : List RF} {d : DD} {x : World} (h : RQ base g ts d x) (i : Nat) (hi : i < 3) {t : RF} {f : FD} (ht : ts[i]? = some t) (hf : d.fs[i]? = some f) (p : Option Addr) (c : Nat) (f' : FD) (hkp : f'.kept = f.kept) (hr : Rb base x ⟨t.kp, t.kc, p, c⟩ f') (hn : Nd f') (hu : usedL (setF d i f').fs ≤ 1000000) :
    RQ base g (ts.set i ⟨t.kp, t.kc, p, c⟩) (setF d i f') (x.setCell ⟨g, i * 2 + 1, none⟩ (.slice p f'.steps.length c)) ∧ KR base x (x.setCell ⟨g, i * 2 + 1, none⟩ (.slice p f'.steps.length c)) := by
  have hk : KR base x (x.setCell ⟨g, i * 2 + 1, none⟩ (.slice p f'.steps.length c)) := KR.of_turn ((Turns.refl (fun k => k = g) x).setCell (p := ⟨g, i * 2 + 1, none⟩) (fun _ => rfl) _) h.row
  refine ⟨⟨by rw [heap_setCell_same _ _ _ _ _ _ h.row, rsetS h.n3 h.m3 i ht hf p c f' hkp], h.low, by rw [List.length_set]; exact h.n3, by show (d.fs.set i f').length = 3; rw [List.length_set]; exact h.m3, fun j t' g' a b => ?_, h.room1, h.fuse1, hu⟩, hk⟩
  have b : (d.fs.set i f')[j]? = some g' := b
  rw [List.getElem?_set] at a b
  by_cases hij : i = j
  · rw [if_pos hij] at a b
    rw [if_pos (by rw [h.n3]; omega)] at a
    rw [if_pos (by rw [h.m3]; omega)] at b
    cases a; cases b
    exact ⟨hr.step hk, hn⟩
  · rw [if_neg hij] at a b
    exact ⟨(h.each j t' g' a b).1.step hk, (h.each j t' g' a b).2⟩
/-- a file with one step more -/
theorem Rb.snoc {base : Nat} {w x : World} {t : RF} {f : FD} {s : St} {r : List Value} {p : Option Addr} {c b2 : Nat} {rows : List (List Value)} (hrb : ∀ y, KR base w y → RFR y t f rows)
    (hsr : ∀ y, KR base w y → StR y r s) (hr3 : r.length = 3) (hok : (f.take s).Ok) (hfew : f.steps.length + 1 ≤ 4398046511104) (hb : Below w.heap.size w x) (ho : x.ownsRow b2 76 3 (.slice p (f.steps.length + 1) c) (f.steps.length + 1) (rows.flatten ++ r)) :
    Rb base x ⟨t.kp, t.kc, p, c⟩ (f.take s) := ⟨rows ++ [r], fun y hy => by
  have hwy : KR base w y := (KR.of_below hb).trans hy
  have hrf := hrb y hwy
  have hl : (f.take s).steps.length = f.steps.length + 1 := by show (f.steps ++ [s]).length = _; simp
  have hoy := hy.own ho (fun h => h.2 rfl)
  obtain ⟨p', c', e1, hs⟩ := own_sl hoy
  cases e1
  refine ⟨hrf.kept, ?_, ?_, hok, by rw [hl]; exact hfew⟩
  · rw [hl]
    refine ⟨by rw [List.flatten_append]; simpa using hs, fun q hq => ?_, by rw [List.length_append, hrf.rs.count]; rfl⟩
    rcases List.mem_append.1 hq with hq | hq
    · exact hrf.rs.each q hq
    · rw [List.mem_singleton] at hq; subst hq; exact hr3
  · intro i q s' hq hs'
    have hs' : (f.steps ++ [s])[i]? = some s' := hs'
    by_cases hi : i < rows.length
    · rw [List.getElem?_append_left hi] at hq
      rw [List.getElem?_append_left (by rw [← hrf.rs.count]; exact hi)] at hs'
      exact hrf.st i q s' hq hs'
    · rw [List.getElem?_append_right (by omega)] at hq
      rw [List.getElem?_append_right (by rw [← hrf.rs.count]; omega)] at hs'
      rw [hrf.rs.count] at hq
      have h0 : i - f.steps.length = 0 := by
        have := (List.getElem?_eq_some_iff.1 hq).1
        simp at this; omega
      rw [h0] at hq hs'
      cases hq; cases hs'
      exact hsr y hwy⟩
end Go.Proofs.Ytbkkcejpkfbcjaa.Rk
