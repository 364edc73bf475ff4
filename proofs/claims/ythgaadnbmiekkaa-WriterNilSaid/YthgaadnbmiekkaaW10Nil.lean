/- LAYER 10, NIL: the walk of the law of a writer that is none. Conditions: the ids of the ask take no more than the reach. -/
import Derived.Test.YthgaadnbmiekkaaW10
import Derived.Deep.MidRow
namespace Go.Proofs.Ythgaadnbmiekkaa.W10
open Go.RowKit Go.Mir Go.Mir.Parts Wr

set_option maxRecDepth 100000 in
set_option maxHeartbeats 400000 in
theorem nil_any (cs : List Value) (o : OpD) (w : World) (h : OpAt w cs o) (hs : o.ids.length ≤ 4398046511104) :
    Calls Try.prog 3 #[.agg cs.toArray] w fun e w' => e = .returned (.bool true) ∧ Below w.heap.size w w' := by
  obtain ⟨pb, nb, cb, pl, nl, cl, hlen, h0, h1, h2, h3, h36, hid, hB, hI⟩ := h.row
  have hz : ∀ w, (zeroValue 32).run Try.prog w = .ok (.agg #[.bool false, .int .i64 0, .slice none 0 0, .int .i64 0]) w := fun w => by kernel_rfl
  have hBl := hB.le
  have hIl := hI.sl.le
  have hcnt := hI.count
  obtain ⟨kB1, kB2⟩ := h.kindB
  obtain ⟨aB1, aB2⟩ := h.aB
  have nB := h.nB
  have HBs := Lib.hid hB
  have HI := Lib.hid hI
  have HID := Lib.hid hid
  have HL := Lib.hid h.idlen
  have g1 : cs[1]'(by omega) = .int .i64 o.a := by rw [List.getElem?_eq_getElem (by omega)] at h1; exact Option.some.inj h1
  have g2 : cs[2]'(by omega) = .int .u64 (o.n : Int) := by rw [List.getElem?_eq_getElem (by omega)] at h2; exact Option.some.inj h2
  have keep : Hid (∀ wk W2, W2 = (w.alloc (.cells cs.toArray 28)).alloc (.cells #[.bool false, .int .i64 0, .slice none 0 0, .int .i64 0] 32) → Below W2.heap.size W2 wk →
      wk.cell? ⟨w.heap.size, 1, none⟩ = some (.int .i64 o.a) ∧ wk.cell? ⟨w.heap.size, 2, none⟩ = some (.int .u64 (o.n : Int)) ∧ wk.cell? ⟨w.heap.size, 3, none⟩ = some (.slice pb nb cb) ∧ wk.cell? ⟨w.heap.size, 36, none⟩ = some (.slice pl nl cl) ∧
      Hid (wk.rangeAt w.heap.size 4 (bytesV o.id) ∧ NoneAt wk (.pointer (some ⟨w.heap.size + 1, 0, none⟩)) ∧ Is wk pl nl cl 32 o.ids ∧ Below w.heap.size w wk)) := by
    intro wk W2 hW hb
    have r0 : W2.heap[w.heap.size]? = some (.cells cs.toArray 28 (0, 0)) := by rw [hW]; exact Below.keepOld (Below.allocs _ _) (heap_alloc_last _ _)
    have r1 : W2.heap[w.heap.size + 1]? = some (.cells #[.bool false, .int .i64 0, .slice none 0 0, .int .i64 0] 32 (0, 0)) := by rw [hW, show w.heap.size + 1 = (w.alloc (.cells cs.toArray 28)).heap.size by simp]; exact heap_alloc_last _ _
    have q0 := Below.keepOld hb r0
    have q1 := Below.keepOld hb r1
    have hbw : Below w.heap.size w wk := by
      have hw2 : Below w.heap.size w W2 := by rw [hW]; exact (Below.allocs _ _).alloc (by simp) _
      exact hw2.trans (hb.mono (by rw [hW]; simp; omega))
    have cell : ∀ i v, cs[i]? = some v → wk.cell? ⟨w.heap.size, i, none⟩ = some v := fun i v hi => by rw [cell_of_row _ _ _ _ _ _ q0]; simpa using hi
    refine ⟨cell 1 _ h1, cell 2 _ h2, cell 3 _ h3, cell 36 _ h36, ?_, .inr ⟨_, rfl, q1⟩, HI.out.below hbw, hbw⟩
    intro j v hj
    refine cell (4 + j) v ?_
    rw [← HID.out] at hj
    rw [← hj]
    have : j < 32 := by have h32 := (List.getElem?_eq_some_iff.1 hj).1; rw [List.length_take] at h32; omega
    rw [List.getElem?_take, if_pos this, List.getElem?_drop]
  obtain ⟨ok, oa, on, ob, oid, oids⟩ := o
  clear hB hI hid h h0 h1 h2
  go_enter Try.func3, Try.ntmps3
  go_wp2_with fail
  generalize hW2 : (w.alloc (.cells cs.toArray 28)).alloc (.cells #[.bool false, .int .i64 0, .slice none 0 0, .int .i64 0] 32) = W2
  have HW2 := Lib.hid hW2
  clear hW2
  refine (num_none on oa _ _ (.inl rfl) nB aB1 aB2).mono ?_
  rintro e w3 ⟨rfl, hb3⟩
  have HB3 : Hid (Below W2.heap.size W2 w3) := hb3
  clear hb3
  obtain ⟨c1, c2, c3, c36, HK3⟩ := keep.out _ _ HW2.out.symm HB3.out
  go_wp2_with fail
  refine (num_none on oa _ _ HK3.out.2.1 nB aB1 aB2).mono ?_
  rintro e w4 ⟨rfl, hb⟩
  have HB4 : Hid (Below W2.heap.size W2 w4) := HB3.out.trans (hb.mono HB3.out.size)
  clear hb c1 c2 c3 c36
  obtain ⟨c1, c2, c3, c36, HK4⟩ := keep.out _ _ HW2.out.symm HB4.out
  go_wp2_with fail
  refine (bytes_none _ _ _ _ _ (.inl rfl)).mono ?_
  rintro e w5 ⟨rfl, hb⟩
  have HB5 : Hid (Below W2.heap.size W2 w5) := HB4.out.trans (hb.mono HB4.out.size)
  clear hb c1 c2 c3 c36
  obtain ⟨c1, c2, c3, c36, HK5⟩ := keep.out _ _ HW2.out.symm HB5.out
  go_wp2_with fail
  refine (ids_none _ _ _ oids _ _ HK5.out.2.1 HK5.out.2.2.1 (by omega)).mono ?_
  rintro e w6 ⟨rfl, hb⟩
  have HB6 : Hid (Below W2.heap.size W2 w6) := HB5.out.trans (hb.mono HB5.out.size)
  clear hb c1 c2 c3 c36
  obtain ⟨c1, c2, c3, c36, HK6⟩ := keep.out _ _ HW2.out.symm HB6.out
  go_wp2_with (refine wpList_load_mid rfl 25 _ rfl w.heap.size 4 rfl _ _ HK6.out.1 Try.underlying25 rfl (by rw [bytesV_length, HL.out]; kernel_rfl) ?_)
  refine (id_none _ _ _ (.inl rfl)).mono ?_
  rintro e w7 ⟨rfl, hb⟩
  have HB7 : Hid (Below W2.heap.size W2 w7) := HB6.out.trans (hb.mono HB6.out.size)
  clear hb c1 c2 c3 c36
  obtain ⟨c1, c2, c3, c36, HK7⟩ := keep.out _ _ HW2.out.symm HB7.out
  go_wp2_with fail
  refine (fail_none _ _ _ HK7.out.2.1).mono ?_
  rintro e w' ⟨rfl, rfl⟩
  go_wp2_with fail
  refine (done_none _ _ (.inl rfl)).mono ?_
  rintro e w' ⟨rfl, rfl⟩
  go_wp2_with fail
  refine (done_none _ _ HK7.out.2.1).mono ?_
  rintro e w' ⟨rfl, rfl⟩
  go_wp2_with fail
  refine (len_none _ _ (.inl rfl)).mono ?_
  rintro e w' ⟨rfl, rfl⟩
  go_wp2_with fail
  refine (len_none _ _ HK7.out.2.1).mono ?_
  rintro e w' ⟨rfl, rfl⟩
  go_wp2_with fail
  refine (err_none _ _ (.inl rfl)).mono ?_
  rintro e w' ⟨rfl, rfl⟩
  go_wp2_with fail
  refine (err_none _ _ HK7.out.2.1).mono ?_
  rintro e w' ⟨rfl, rfl⟩
  go_wp2_with fail
  refine (alive_any _).mono ?_
  rintro e w8 ⟨rfl, hb⟩
  have HB8 : Hid (Below w.heap.size w w8) := HK7.out.2.2.2.trans (hb.mono HK7.out.2.2.2.size)
  clear hb
  go_wp2_with fail
  go_ret
  exact ⟨rfl, HB8.out⟩

end Go.Proofs.Ythgaadnbmiekkaa.W10
