/- LAYER 10: there and back, the walk. Conditions: the laid cell of errors.errorType; the total fits an int. -/
import Derived.Test.YtbfddfmglkhimaaDoorW10Read
import Derived.Test.YtbfddfmglkhimaaDoorEager3
namespace Go.Proofs.YtbfddfmglkhimaaDoor.W10R
open Go.RowKit Go.Mir Go.Mir.Parts Wr W10

theorem rd_num {base rb : Nat} {E r : List UInt8} {pos n k : Nat} (w : World) (h : Rdr.RAt w base rb ⟨E, pos, none⟩) (hd : E.drop pos = be n k ++ r) (h1 : 1 ≤ k) (h8 : k ≤ 8) (hn : n < 256 ^ k) :
    Calls Tryd.prog 10 #[.pointer (some ⟨rb, 0, none⟩), .int .i64 (k : Int)] w fun e w' => e = .returned (.int .u64 (n : Int)) ∧ Rdr.LeftR base rb ⟨E, pos + k, none⟩ w w' := by
  obtain ⟨a, b, _, _⟩ := num_rest (by obtain ⟨v, bv, h'⟩ := h; exact h'.at1) hd h1 h8 hn
  refine (Rdr.num_any w h (k : Int) (by omega)).mono ?_
  rintro e w' ⟨rfl, hl⟩
  rw [b] at hl
  exact ⟨by rw [a], hl⟩
theorem rd_cnt {base rb : Nat} {E r : List UInt8} {pos n k m : Nat} (w : World) (h : Rdr.RAt w base rb ⟨E, pos, none⟩) (hd : E.drop pos = be n k ++ r) (h1 : 1 ≤ k) (h8 : k ≤ 8) (hn : n < 256 ^ k) (hm : n ≤ m) (hm2 : m ≤ 1000000) :
    Calls Tryd.prog 21 #[.pointer (some ⟨rb, 0, none⟩), .int .i64 (k : Int), .int .i64 (m : Int)] w fun e w' => e = .returned (.int .i64 (n : Int)) ∧ Rdr.LeftR base rb ⟨E, pos + k, none⟩ w w' := by
  obtain ⟨a, b, _, _⟩ := cnt_rest (by obtain ⟨v, bv, h'⟩ := h; exact h'.at1) hd h1 h8 hn hm
  refine (Rdr.count_any w h (k : Int) (by omega) (m : Int) (by omega)).mono ?_
  rintro e w' ⟨rfl, hl⟩
  rw [b] at hl
  exact ⟨by rw [a], hl⟩
theorem rd_id {base rb : Nat} {E x r : List UInt8} {pos : Nat} (w : World) (h : Rdr.RAt w base rb ⟨E, pos, none⟩) (hd : E.drop pos = x ++ r) (hx : x.length = 32) :
    Calls Tryd.prog 22 #[.pointer (some ⟨rb, 0, none⟩)] w fun e w' => e = .returned (.agg (idA x)) ∧ Rdr.LeftR base rb ⟨E, pos + 32, none⟩ w w' := by
  obtain ⟨a, b, _, _⟩ := take_rest (by obtain ⟨v, bv, h'⟩ := h; exact h'.at1) hd
  rw [hx] at a b
  refine (Rdr.id_any w h).mono ?_
  rintro e w' ⟨rfl, hl⟩
  rw [b] at hl
  refine ⟨?_, hl⟩
  unfold Rdr.RD.idV
  rw [a, hx]
  simp
theorem rd_bytes {base rb : Nat} {E x r : List UInt8} {pos : Nat} (w : World) (h : Rdr.RAt w base rb ⟨E, pos, none⟩) (hd : E.drop pos = x ++ r) (hx : x.length ≤ 1000000) :
    Calls Tryd.prog 13 #[.pointer (some ⟨rb, 0, none⟩), .int .i64 (x.length : Int)] w fun e w' => ∃ p c, e = .returned (.slice p x.length c) ∧ w'.ownsRow w.heap.size 5 1 (.slice p x.length c) x.length (bytesV x) ∧ Rdr.LeftR base rb ⟨E, pos + x.length, none⟩ w w' := by
  obtain ⟨a, b, _, _⟩ := take_rest (by obtain ⟨v, bv, h'⟩ := h; exact h'.at1) hd
  refine (Rdr.bytes_any w h (x.length : Int) (by omega)).mono ?_
  rintro e w' ⟨p, c, he, ho, hl⟩
  rw [a] at he ho
  rw [b] at hl
  exact ⟨p, c, he, ho, hl⟩
theorem rd_ids {base rb : Nat} {E r : List UInt8} {ids : List (List UInt8)} {pos : Nat} (w : World) (h : Rdr.RAt w base rb ⟨E, pos, none⟩) (hd : E.drop pos = ids.flatten ++ r) (hI : ∀ x ∈ ids, x.length = 32) (hx : ids.length ≤ 1000000) :
    Calls Tryd.prog 20 #[.pointer (some ⟨rb, 0, none⟩), .int .i64 (ids.length : Int)] w fun e w' => ∃ p c, e = .returned (.slice p ids.length c) ∧ Is w' p ids.length c 32 ids ∧ Rdr.LeftR base rb ⟨E, pos + ids.flatten.length, none⟩ w w' := by
  obtain ⟨a, b, _, _⟩ := take_rest (by obtain ⟨v, bv, h'⟩ := h; exact h'.at1) hd
  have hf := flat32 ids hI
  have hc : (ids.flatten.length : Int) = 32 * (ids.length : Int) := by rw [hf]; omega
  rw [hc] at a b
  refine (Rdr.ids_any w h (ids.length : Int) (by omega)).mono ?_
  rintro e w' ⟨p, k, c, hk, he, ho, hl⟩
  rw [a] at hk ho
  rw [b] at hl
  obtain rfl : k = ids.length := by omega
  refine ⟨p, c, he, ?_, hl⟩
  have := is_chunks ho hk
  rw [chunks_of ids hI] at this
  exact this
theorem inv_len {R : Nat} {E l : List UInt8} {bad : Int} (h : Inv2 R E l bad) : l.length ≤ R := h.1
/-- the writer, and what is written so far -/
structure WS (w : World) (wb g : Nat) (R : Nat) (E : List UInt8) (cs : List Value) (x : World) : Prop where
  all : ∃ v l bad, WI w wb g v R l bad cs x ∧ Inv2 R E l bad
theorem ws_num {w x : World} {wb g R : Nat} {E : List UInt8} {cs : List Value} (h : WS w wb g R E cs x) (hR : R ≤ 1000000) (n k : Nat) (h1 : 1 ≤ k) (h8 : k ≤ 8) (hn : n < 2 ^ (8 * k)) (hn2 : n < 18446744073709551616) :
    Calls Tryd.prog 27 #[.pointer (some ⟨wb, 0, none⟩), .int .u64 (n : Int), .int .i64 (k : Int)] x fun e y => e = .returned (.tuple #[]) ∧ WS w wb g R (E ++ be n k) cs y := by
  obtain ⟨v, l, bad, hi, hv⟩ := h.all
  refine (Wr.num_any n k wb v R l bad x hi.wat hn2 (by omega) (by omega) (by have := hv.1; omega)).mono ?_
  rintro e y ⟨rfl, hl⟩
  obtain ⟨v', hi'⟩ := hi.step hl
  exact ⟨rfl, ⟨v', _, _, hi', hv.num n k h1 h8 hn⟩⟩
theorem ws_bytes {w x : World} {wb g R : Nat} {E : List UInt8} {cs : List Value} (h : WS w wb g R E cs x) (hR : R ≤ 1000000) (p : Option Addr) (n c : Nat) (b : List UInt8) (hB : Bs w p n c b) (hb : b.length ≤ 70368744177664) :
    Calls Tryd.prog 29 #[.pointer (some ⟨wb, 0, none⟩), .slice p n c] x fun e y => e = .returned (.tuple #[]) ∧ WS w wb g R (E ++ b) cs y := by
  obtain ⟨v, l, bad, hi, hv⟩ := h.all
  refine (Wr.bytes_any p n c b wb v R l bad x hi.wat (fun w' ht => hB.below (hi.turn ht)) hb (by have := hv.1; omega)).mono ?_
  rintro e y ⟨rfl, hl⟩
  obtain ⟨v', hi'⟩ := hi.step hl
  exact ⟨rfl, ⟨v', _, _, hi', hv.one b⟩⟩
theorem ws_id {w x : World} {wb g R : Nat} {E : List UInt8} {cs : List Value} (h : WS w wb g R E cs x) (hR : R ≤ 1000000) (b : List UInt8) (hb : b.length = 32) :
    Calls Tryd.prog 28 #[.pointer (some ⟨wb, 0, none⟩), .agg (idA b)] x fun e y => e = .returned (.tuple #[]) ∧ WS w wb g R (E ++ b) cs y := by
  obtain ⟨v, l, bad, hi, hv⟩ := h.all
  refine (Wr.id_any (idA b) b (idA_toList b) hb wb v R l bad x hi.wat (by have := hv.1; omega)).mono ?_
  rintro e y ⟨rfl, hl⟩
  obtain ⟨v', hi'⟩ := hi.step hl
  exact ⟨rfl, ⟨v', _, _, hi', hv.one b⟩⟩
theorem ws_ids {w x : World} {wb g R : Nat} {E : List UInt8} {cs : List Value} (h : WS w wb g R E cs x) (hR : R ≤ 1000000) (p : Option Addr) (n c : Nat) (ids : List (List UInt8)) (hI : Is w p n c 32 ids) (hn : n ≤ 1099511627776) :
    Calls Tryd.prog 30 #[.pointer (some ⟨wb, 0, none⟩), .slice p n c] x fun e y => e = .returned (.tuple #[]) ∧ WS w wb g R (E ++ ids.flatten) cs y := by
  obtain ⟨v, l, bad, hi, hv⟩ := h.all
  refine (Wr.ids_any p n c ids wb v R l bad x hi.wat (fun w' ht => hI.below (hi.turn ht)) hn (by have := hv.1; omega)).mono ?_
  rintro e y ⟨rfl, hl⟩
  obtain ⟨v', hi'⟩ := hi.step hl
  exact ⟨rfl, ⟨v', _, _, hi', hv.put ids⟩⟩
theorem ws_cells {w x : World} {wb g R : Nat} {E : List UInt8} {cs : List Value} (h : WS w wb g R E cs x) : x.heap[g]? = some (.cells cs.toArray 66 (0, 0)) ∧ Below w.heap.size w x := by
  obtain ⟨v, l, bad, hi, hv⟩ := h.all
  exact ⟨hi.row, hi.bel⟩
/-- what a slot of an ask reads as -/
theorem op_cells2 {x : World} {g : Nat} {o : OpD} {pb pl : Option Addr} {nb cb nl cl : Nat} (hid : o.id.length = 32) (hr : x.heap[g]? = some (.cells ([.int .i64 o.kind, .int .i64 o.a, .int .u64 (o.n : Int), .slice pb nb cb] ++ bytesV o.id ++ [.slice pl nl cl] : List Value).toArray 66 (0, 0))) :
    x.cell? ⟨g, 2, none⟩ = some (.int .u64 (o.n : Int)) ∧ x.cell? ⟨g, 3, none⟩ = some (.slice pb nb cb) ∧ x.cell? ⟨g, 36, none⟩ = some (.slice pl nl cl) ∧ x.rangeAt g 4 (idA o.id).toList := by
  have hl := bytesV_length o.id
  have cell : ∀ i v, ([.int .i64 o.kind, .int .i64 o.a, .int .u64 (o.n : Int), .slice pb nb cb] ++ bytesV o.id ++ [.slice pl nl cl] : List Value)[i]? = some v → x.cell? ⟨g, i, none⟩ = some v := fun i v hi => by rw [cell_of_row _ _ _ _ _ _ hr]; simpa using hi
  refine ⟨cell 2 _ rfl, cell 3 _ rfl, cell 36 _ ?_, fun j v hv => cell (4 + j) v ?_⟩
  · rw [List.getElem?_append_right (by simp [hl, hid])]; simp [hl, hid]
  · rw [idA_toList] at hv
    have hj := (List.getElem?_eq_some_iff.1 hv).1
    rw [List.getElem?_append_left (by simp [hl] at hj ⊢; omega), List.getElem?_append_right (by simp)]
    simpa using hv
set_option maxRecDepth 100000 in
set_option maxHeartbeats 6400000 in
theorem law_read (w : World) (hE : Rdr.EType w) (p0 : Option Addr) (n0 c0 : Nat) (L : List (List Value × OpD)) (h : OpsAt w p0 n0 c0 L) (hs : n0 + weights L ≤ 4611686018427387904) :
    Calls Tryd.prog 7 #[.slice p0 n0 c0] w fun e w' => e = .returned (.bool true) ∧ Below w.heap.size w w' := by
  have HE := Lib.hid hE
  have H := Lib.hid h
  have hle := h.rs.sl.le
  have hmax := h.rs.sl.max
  have HCNT : Hid (L.length = n0) := by have := h.rs.count; show _ = _; simpa using this
  have HSM := Lib.hid (small_any p0 n0 c0 L w h hs)
  have hz := zeroOp
  clear hE h
  by_cases hbig : 5000 < n0 + weights L
  · have HD : Hid (decide (n0 + weights L ≤ 5000) = false) := decide_eq_false (by omega)
    go_enter Tryd.func7, Tryd.ntmps7
    go_wp2_with fail
    refine HSM.out.mono ?_
    rintro e w1 ⟨rfl, hb1⟩
    have HB1 := Lib.hid hb1
    clear hb1
    rw [HD.out]
    go_wp2_with fail
    refine (alive_any _).mono ?_
    rintro e w2 ⟨rfl, hb2⟩
    have HB2 := Lib.hid (HB1.out.trans (hb2.mono HB1.out.size))
    clear hb2
    go_wp2_with fail
    go_ret
    exact ⟨rfl, HB2.out⟩
  have HD : Hid (decide (n0 + weights L ≤ 5000) = true) := decide_eq_true (by omega)
  have hn05 : n0 ≤ 5000 := by omega
  have HW5 : Hid (n0 + weights L ≤ 5000) := by show _ ≤ _; omega
  clear hbig hs
  go_enter Tryd.func7, Tryd.ntmps7
  go_wp2_with fail
  refine HSM.out.mono ?_
  rintro e w1 ⟨rfl, hb1⟩
  have HB1 := Lib.hid hb1
  clear hb1
  rw [HD.out]
  go_wp2_with fail
  refine (Wr.new_any 100000 _ (by omega)).mono ?_
  rintro e w2 ⟨rfl, hw2, hb2⟩
  have HB2 := Lib.hid (HB1.out.trans (hb2.mono HB1.out.size))
  have HW2 := Lib.hid hw2
  have HWB : Hid (w.heap.size ≤ w1.heap.size ∧ w1.heap.size < w2.heap.size) := ⟨HB1.out.size, hw2.lt _ (.inl rfl)⟩
  have HR : Hid ((100000 : Int).toNat = 100000) := rfl
  clear hb2 hw2
  generalize (100000 : Int).toNat = R at *
  generalize w1.heap.size = wb at *
  clear HB1 HSM HD
  go_wp2_with fail
  go_loopw [18] (fun j wr => ∃ k : Nat, k ≤ n0 ∧ j = .int .i64 k ∧ Below w.heap.size w wr ∧ ∃ v l bad, WAt wr wb v R l bad ∧ Inv2 R (enc (L.take k)) l bad ∧ ∀ i, foot wb v i → w.heap.size ≤ i) (fun j _ => n0 - (intOf j).toNat)
  case atStart => exact ⟨0, by omega, rfl, HB2.out, _, _, _, HW2.out, Inv2.nil R, fun i hi => by
    rcases hi with rfl | hi
    · exact HWB.out.1
    · simp [Value.ownBlock] at hi⟩
  case round =>
    obtain ⟨k, hk, rfl, hbw, v, l, bad, hwat, hinv, hft⟩ := hrel
    have HBW := Lib.hid hbw
    have HWAT := Lib.hid hwat
    have HINV := Lib.hid hinv
    have HFT := Lib.hid hft
    clear hbw hwat hinv hft
    by_cases hlt : k < n0
    · have hd : decide ((k : Int) < (n0 : Int)) = true := decide_eq_true (by omega)
      obtain ⟨b, o, rfl⟩ := H.out.rs.sl.addr (by omega) (by omega)
      have hkL : k < L.length := by rw [HCNT.out]; exact hlt
      have hop : OpAt w (L[k]'hkL).1 (L[k]'hkL).2 := H.out.each _ (List.getElem_mem _)
      have hrow : wr.rangeAt b (o + k * 37) (L[k]'hkL).1 := by
        have := (H.out.rs.below HBW.out).row k (by simpa using hkL)
        simpa using this
      have henc := enc_succ L k hkL
      have hwl := weights_succ L k hkL
      have hwl2 := weights_le L (k + 1)
      generalize L[k]'hkL = x at *
      obtain ⟨cs, op⟩ := x
      dsimp only at hop hrow hwl henc
      have HENC := Lib.hid henc
      clear henc
      obtain ⟨pb, nb, cb, pl, nl, cl, hform, hBs, hIs⟩ := hop.form
      have hone := all_oneCell_toArray hop.one
      obtain rfl := hBs.length
      obtain rfl := hIs.count
      have hwn : op.b.length ≤ 5000 ∧ op.ids.length ≤ 5000 := by
        have h5 := HW5.out
        have h6 : op.weight = op.b.length + 32 * op.ids.length := rfl
        omega
      have hcbl := hBs.le
      have hcbm := hBs.max
      have hcll := hIs.sl.le
      have hclm := hIs.sl.max
      obtain ⟨hwb, hwi⟩ := hwn
      clear hwl hwl2
      have hwx1 : IntKind.u64.wrap (op.b.length : Int) = (op.b.length : Int) := by rw [IntKind.wrap_u64]; omega
      have hwx2 : IntKind.u64.wrap (op.ids.length : Int) = (op.ids.length : Int) := by rw [IntKind.wrap_u64]; omega
      have HID := Lib.hid hop.idlen
      have hopn := hop.nB
      have HLCS : Hid (cs.length = 37) := by obtain ⟨_, _, _, _, _, _, h, _⟩ := hop.row; exact h
      have HR1 := Lib.hid hrow
      have HBs := Lib.hid hBs
      have HIs := Lib.hid hIs
      have HFORM := Lib.hid hform
      clear hop hrow hBs hIs hform
      go_upto_region 7 with (first
        | refine wpList_load_mid rfl 66 _ rfl b (o + k * 37) rfl _ _ HR1.out Tryd.underlying66 rfl (by rw [HLCS.out]; kernel_rfl) ?_
        | refine wpList_store_mid rfl 66 _ _ rfl wr.heap.size 0 cs.toArray rfl rfl (there_alloc_new _ _ _ _ (by rw [Z37_size]; exact HLCS.out.symm)) (by show _ = some cs.length; rw [HLCS.out]; kernel_rfl) hone ?_)
      simp only [Act.put]
      have hst : ((wr.alloc (.cells Z37 66)).setCells wr.heap.size 0 cs).heap[wr.heap.size]? = some (.cells cs.toArray 66 (0, 0)) ∧ Below wr.heap.size wr ((wr.alloc (.cells Z37 66)).setCells wr.heap.size 0 cs) := alloc_stored wr Z37 _ cs wr.heap.size rfl (by rw [Z37_size]; exact HLCS.out.symm)
      generalize (wr.alloc (.cells Z37 66)).setCells wr.heap.size 0 cs = x0 at *
      have hws : WS w wb wr.heap.size R (enc (L.take k)) cs x0 := ⟨v, l, bad, ⟨HWAT.out.touch (Turns.of_below (S := fun _ => False) hst.2) (fun _ _ h => h), fun i hi => ⟨HFT.out i hi, by have := HWAT.out.lt i hi; omega⟩, hst.1, HBW.out.trans (hst.2.mono HBW.out.size)⟩, HINV.out⟩
      have HGL : Hid (w.heap.size ≤ wr.heap.size) := HBW.out.size
      clear hst HWAT HINV HFT HBW
      generalize wr.heap.size = g at *
      have HWS := Lib.hid hws
      have hrc := (ws_cells hws).1
      rw [HFORM.out] at hrc
      obtain ⟨c2, c3, c36, hrg⟩ := op_cells2 HID.out hrc
      rw [idA_toList] at hrg
      have HRG := Lib.hid hrg
      clear hws hrc hrg
      have hR6 : R ≤ 1000000 := by have := HR.out; omega
      go_wp2_with fail
      refine (ws_num HWS.out hR6 op.n 8 (by omega) (by omega) (by simpa using hopn) hopn).mono ?_
      rintro e x1 ⟨rfl, hws⟩
      clear HWS HRG c2 c3 c36
      have HWS := Lib.hid hws
      have hrc := (ws_cells hws).1
      rw [HFORM.out] at hrc
      obtain ⟨c2, c3, c36, hrg⟩ := op_cells2 HID.out hrc
      rw [idA_toList] at hrg
      have HRG := Lib.hid hrg
      clear hws hrc hrg
      go_wp2_with (refine wpList_load_mid rfl 55 _ rfl g 4 rfl (bytesV op.id) _ HRG.out Tryd.underlying55 rfl (by rw [bytesV_length, HID.out]; kernel_rfl) ?_)
      refine (ws_id HWS.out hR6 op.id HID.out).mono ?_
      rintro e x2 ⟨rfl, hws⟩
      clear HWS HRG c2 c3 c36
      have HWS := Lib.hid hws
      have hrc := (ws_cells hws).1
      rw [HFORM.out] at hrc
      obtain ⟨c2, c3, c36, hrg⟩ := op_cells2 HID.out hrc
      rw [idA_toList] at hrg
      have HRG := Lib.hid hrg
      clear hws hrc hrg
      go_wp2_with fail
      refine (ws_num HWS.out hR6 op.b.length 4 (by omega) (by omega) (by omega) (by omega)).mono ?_
      rintro e x3 ⟨rfl, hws⟩
      clear HWS HRG c2 c3 c36
      have HWS := Lib.hid hws
      have hrc := (ws_cells hws).1
      rw [HFORM.out] at hrc
      obtain ⟨c2, c3, c36, hrg⟩ := op_cells2 HID.out hrc
      rw [idA_toList] at hrg
      have HRG := Lib.hid hrg
      clear hws hrc hrg
      go_wp2_with fail
      refine (ws_bytes HWS.out hR6 _ _ _ op.b HBs.out (by omega)).mono ?_
      rintro e x4 ⟨rfl, hws⟩
      clear HWS HRG c2 c3 c36
      have HWS := Lib.hid hws
      have hrc := (ws_cells hws).1
      rw [HFORM.out] at hrc
      obtain ⟨c2, c3, c36, hrg⟩ := op_cells2 HID.out hrc
      rw [idA_toList] at hrg
      have HRG := Lib.hid hrg
      clear hws hrc hrg
      go_wp2_with fail
      refine (ws_num HWS.out hR6 op.ids.length 2 (by omega) (by omega) (by omega) (by omega)).mono ?_
      rintro e x5 ⟨rfl, hws⟩
      clear HWS HRG c2 c3 c36
      have HWS := Lib.hid hws
      have hrc := (ws_cells hws).1
      rw [HFORM.out] at hrc
      obtain ⟨c2, c3, c36, hrg⟩ := op_cells2 HID.out hrc
      rw [idA_toList] at hrg
      have HRG := Lib.hid hrg
      clear hws hrc hrg
      go_wp2_with fail
      refine (ws_ids HWS.out hR6 _ _ _ op.ids HIs.out (by omega)).mono ?_
      rintro e x6 ⟨rfl, hws⟩
      clear HWS HRG c2 c3 c36
      have HWS := Lib.hid hws
      clear hws
      go_wp2_with fail
      go_roundw
      case rel =>
        obtain ⟨v', l', bad', hi', hv'⟩ := HWS.out.all
        refine ⟨k + 1, by omega, by go_num, hi'.bel, v', l', bad', hi'.wat, ?_, fun i hi => (hi'.low i hi).1⟩
        rw [HENC.out]
        simpa [encOp, List.append_assoc] using hv'
      case measure => simp [intOf]; omega
    · obtain rfl : k = n0 := by omega
      have hd : decide ((k : Int) < (k : Int)) = false := by simp
      have hinv := HINV.out
      rw [List.take_of_length_le (by rw [HCNT.out]; omega)] at hinv
      have helen := enc_len L (fun x hx => ⟨(H.out.each x hx).idlen, by
        obtain ⟨_, _, _, _, _, _, _, _, hI⟩ := (H.out.each x hx).form
        exact hI.each⟩)
      rw [HCNT.out] at helen
      have HEL := Lib.hid helen
      have hDN := Lib.hid (Wr.done_any wb v R l bad wr HWAT.out (by have := hinv.1; have := HR.out; omega))
      obtain ⟨hlR, hcase⟩ := hinv
      clear helen HINV HWAT HFT
      rcases hcase with ⟨rfl, rfl⟩ | ⟨rfl, hov⟩
      · go_wp2_with fail
        refine hDN.out.mono ?_
        rintro e w5 ⟨⟨p5, n5, c5, rfl, ho5⟩, hb5⟩
        simp only [if_true] at ho5
        obtain ⟨p6, c6, he6, hs6⟩ := own_sl ho5
        cases he6
        have HS6 : Hid (Bs w5 p5 n5 c5 (enc L)) := hs6
        have hn5 := HS6.out.length
        have HN5 := Lib.hid hn5
        have hle5 := HS6.out.le
        have hmax5 := HS6.out.max
        have HB5 := Lib.hid (HBW.out.trans (hb5.mono HBW.out.size))
        have HE5 := Lib.hid (HE.out.below HB5.out HE.out.lt)
        have hn5b : n5 ≤ 1000000 := by have := HR.out; omega
        clear ho5 hs6 hb5 hDN
        go_wp2_with fail
        refine (Rdr.new_any w5 _ _ _ _ HS6.out (by omega)).mono ?_
        rintro e w6 ⟨rb, rfl, hr6, hb6⟩
        have HR6 := Lib.hid hr6
        have HB6 := Lib.hid (HB5.out.trans (hb6.mono HB5.out.size))
        have HBA : Hid (w.heap.size ≤ w5.heap.size) := HB5.out.size
        have HEB : Hid (0 < w5.heap.size) := HE5.out.lt
        clear hr6 hb6
        generalize w5.heap.size = base at *
        go_wp2_with fail
        go_loopw [72] (fun j wr => ∃ i : Nat, i ≤ k ∧ j = .int .i64 i ∧ Below w.heap.size w wr ∧ Rdr.RAt wr base rb ⟨enc L, (enc (L.take i)).length, none⟩) (fun j _ => k - (intOf j).toNat)
        case atStart => exact ⟨0, by omega, rfl, HB6.out, HR6.out⟩
        case round =>
          obtain ⟨i, hi, rfl, hbw, hra⟩ := hrel
          have HBW7 := Lib.hid hbw
          have HRA := Lib.hid hra
          clear hbw hra
          by_cases hlt : i < k
          · have hdi : decide ((i : Int) < (k : Int)) = true := decide_eq_true (by omega)
            obtain ⟨b, o, rfl⟩ := H.out.rs.sl.addr (by omega) (by omega)
            have hkL : i < L.length := by rw [HCNT.out]; exact hlt
            have hop : OpAt w (L[i]'hkL).1 (L[i]'hkL).2 := H.out.each _ (List.getElem_mem _)
            have hrow : wr.rangeAt b (o + i * 37) (L[i]'hkL).1 := by
              have := (H.out.rs.below HBW7.out).row i (by simpa using hkL)
              simpa using this
            have henc := enc_succ L i hkL
            have hedr := enc_drop L i hkL
            have hwl := weights_succ L i hkL
            have hwl2 := weights_le L (i + 1)
            generalize L[i]'hkL = x at *
            obtain ⟨cs, op⟩ := x
            dsimp only at hop hrow hwl henc hedr
            have HENC := Lib.hid henc
            have HEDR := Lib.hid hedr
            clear henc hedr
            obtain ⟨pb, nb, cb, pl, nl, cl, hform, hBs, hIs⟩ := hop.form
            have hone := all_oneCell_toArray hop.one
            obtain rfl := hBs.length
            obtain rfl := hIs.count
            have hwn : op.b.length ≤ 5000 ∧ op.ids.length ≤ 5000 := by
              have h5 := HW5.out
              have h6 : op.weight = op.b.length + 32 * op.ids.length := rfl
              omega
            obtain ⟨hwb, hwi⟩ := hwn
            have hcbl := hBs.le
            have hcbm := hBs.max
            have hcll := hIs.sl.le
            have hclm := hIs.sl.max
            have HID := Lib.hid hop.idlen
            have hopn := hop.nB
            have HLCS : Hid (cs.length = 37) := by obtain ⟨_, _, _, _, _, _, h, _⟩ := hop.row; exact h
            have HR1 := Lib.hid hrow
            have HBs := Lib.hid hBs
            have HIs := Lib.hid hIs
            have HFORM := Lib.hid hform
            clear hop hrow hBs hIs hform hwl hwl2
            go_upto_region 21 with (first
              | refine wpList_load_mid rfl 66 _ rfl b (o + i * 37) rfl _ _ HR1.out Tryd.underlying66 rfl (by rw [HLCS.out]; kernel_rfl) ?_
              | refine wpList_store_mid rfl 66 _ _ rfl wr.heap.size 0 cs.toArray rfl rfl (there_alloc_new _ _ _ _ (by rw [Z37_size]; exact HLCS.out.symm)) (by show _ = some cs.length; rw [HLCS.out]; kernel_rfl) hone ?_)
            simp only [Act.put]
            have hst : ((wr.alloc (.cells Z37 66)).setCells wr.heap.size 0 cs).heap[wr.heap.size]? = some (.cells cs.toArray 66 (0, 0)) ∧ Below wr.heap.size wr ((wr.alloc (.cells Z37 66)).setCells wr.heap.size 0 cs) := alloc_stored wr Z37 _ cs wr.heap.size rfl (by rw [Z37_size]; exact HLCS.out.symm)
            generalize (wr.alloc (.cells Z37 66)).setCells wr.heap.size 0 cs = x0 at *
            have HRA0 := Lib.hid (HRA.out.below hst.2)
            have HBX := Lib.hid (HBW7.out.trans (hst.2.mono HBW7.out.size))
            have HRG : Hid (rb < wr.heap.size) := by obtain ⟨v, bv, h'⟩ := HRA.out; exact h'.lt
            have hrow0 := hst.1
            rw [HFORM.out] at hrow0
            have HROW0 := Lib.hid hrow0
            have HGW : Hid (base ≤ rb ∧ w.heap.size ≤ base) := ⟨by obtain ⟨v, bv, h'⟩ := HRA.out; exact h'.low, HBA.out⟩
            clear hst hrow0 HRA HBW7
            generalize wr.heap.size = g at *
            have HD0 : Hid ((enc L).drop (enc (L.take i)).length = be op.n 8 ++ (op.id ++ (be op.b.length 4 ++ (op.b ++ (be op.ids.length 2 ++ (op.ids.flatten ++ enc (L.drop (i + 1)))))))) := by
              show _ = _
              rw [HEDR.out]
              simp [encOp, List.append_assoc]
            have HPE : Hid ((enc (L.take (i + 1))).length = (enc (L.take i)).length + 8 + 32 + 4 + op.b.length + 2 + op.ids.flatten.length) := by
              show _ = _
              rw [HENC.out]
              simp [encOp, be_length, HID.out]
              omega
            clear HEDR HENC
            obtain ⟨v0, bv0, hr0⟩ := HRA0.out
            have hp0 : (enc (L.take i)).length ≤ (enc L).length := hr0.at1
            clear hr0
            obtain ⟨_, _, hD1, hp1⟩ := num_rest hp0 HD0.out (by omega) (by omega) (by simpa using hopn)
            obtain ⟨_, _, hD2, hp2⟩ := take_rest hp1 hD1
            rw [HID.out] at hD2 hp2
            obtain ⟨_, _, hD3, hp3⟩ := num_rest hp2 hD2 (by omega) (by omega) (by omega)
            obtain ⟨_, _, hD4, hp4⟩ := take_rest hp3 hD3
            obtain ⟨_, _, hD5, hp5⟩ := num_rest hp4 hD4 (by omega) (by omega) (by omega)
            have HD1 := Lib.hid hD1
            have HD2 := Lib.hid hD2
            have HD3 := Lib.hid hD3
            have HD4 := Lib.hid hD4
            have HD5 := Lib.hid hD5
            clear hp0 hp1 hp2 hp3 hp4 hp5 hD1 hD2 hD3 hD4 hD5
            have HK : Hid (∀ w', Turns (fun k => k = rb) x0 w' → w'.cell? ⟨g, 2, none⟩ = some (.int .u64 (op.n : Int)) ∧ w'.cell? ⟨g, 3, none⟩ = some (.slice pb op.b.length cb) ∧ w'.cell? ⟨g, 36, none⟩ = some (.slice pl op.ids.length cl)) := fun w' ht => by
              obtain ⟨a, b, c, _⟩ := op_cells2 HID.out (ht.keep HROW0.out (by have := HRG.out; omega))
              exact ⟨a, b, c⟩
            have HKI : Hid (∀ w', Turns (fun k => k = rb) x0 w' → w'.rangeAt g 4 (idA op.id).toList) := fun w' ht => (op_cells2 HID.out (ht.keep HROW0.out (by have := HRG.out; omega))).2.2.2
            have HIN : Hid (∀ w', Turns (fun k => k = rb) x0 w' → Below w.heap.size w w') := fun w' ht => HBX.out.trans (ht.below HBX.out.size (fun i hi => by have := HGW.out; omega))
            have HC1 : Hid (∀ w', Turns (fun k => k = rb) x0 w' → (convert 25 9 (.slice pb op.b.length cb)).run Tryd.prog w' = .ok (.string (S op.b)) w') := fun w' ht =>
              run_conv (P := Tryd.prog) 25 9 5 Tryd.underlying25 Tryd.underlying5 Tryd.underlying9 (HBs.out.below (HIN.out w' ht))
            have HIDL : Hid ((idA op.id).size = 32) := by show _ = _; rw [idA_size, HID.out]
            have hq : ∀ w, (Op.equalIn 10000 55 (.agg (idA op.id)) (.agg (idA op.id))).run Tryd.prog w = .ok (op.id == op.id) w := fun w => RR.eqI w _ _ HID.out HID.out
            have hqq : (op.id == op.id) = true := by simp
            refine wp_region_eager_x (Turns (fun k => k = rb) x0) [(0, true), (2, true), (3, true), (1, false), (4, true), (5, true), (6, true), (8, true), (9, true), (7, false), (10, true), (11, true), (12, true), (13, true), (14, true), (18, true), (19, true), (20, true), (15, false), (16, false), (17, true), (21, true), (22, true), (23, true), (24, true), (25, true), (28, true), (29, true), (26, false), (27, false), (30, false), (31, true), (32, true)] (by kernel_rfl) (by kernel_rfl) ?_ (eagerXOpen rfl ?_)
            · exact (Turns.refl _ _).drew
            have hy0 : Turns (fun k => k = rb) x0 x0.drew := (Turns.refl _ _).drew
            have hrx0 : Rdr.RAt x0.drew base rb ⟨enc L, (enc (L.take i)).length, none⟩ := HRA0.out.below (below_drew1 _ _)
            repeat (first
              | ((with_reducible refine eagerXLoadAt 84 ?_); refine wpEagerX_load (by rfl) 55 _ rfl g 4 rfl (idA op.id) _ (fun w' hb => HKI.out w' hb) Tryd.underlying55 rfl (Rdr.infoid _ HIDL.out) ?_; (try simp only [Act.put, List.setIfInBounds_toArray, List.set_cons_zero, List.set_cons_succ]); (try refine eagerXOpen rfl ?_))
              | (first | (apply wpEagerX_take; (· rfl); (· (intro w' hb'; go_simp; try with_reducible rfl)); (try simp only [Act.put, List.setIfInBounds_toArray, List.set_cons_zero, List.set_cons_succ]); (try refine eagerXOpen rfl ?_)) | (refine wpEagerX_skip (by rfl) ?_; (try simp only [Act.put, List.setIfInBounds_toArray, List.set_cons_zero, List.set_cons_succ]); (try refine eagerXOpen rfl ?_)) | (refine wpEager_off (by rfl) ?_; (try simp only [Act.put, List.setIfInBounds_toArray, List.set_cons_zero, List.set_cons_succ]); (try refine eagerXOpen rfl ?_)))
              | (apply wpEagerX_take; (· rfl); (· (intro w' hb'; have hk' := (HK.out) w' hb'; go_split_ands; go_simp; try with_reducible rfl)); (try simp only [Act.put, List.setIfInBounds_toArray, List.set_cons_zero, List.set_cons_succ]); (try refine eagerXOpen rfl ?_))
              | (apply wpEagerX_take; (· rfl); (· (intro w' hb'; have hk' := (fun w' hb => HC1.out w' hb) w' hb'; go_split_ands; go_simp; try with_reducible rfl)); (try simp only [Act.put, List.setIfInBounds_toArray, List.set_cons_zero, List.set_cons_succ]); (try refine eagerXOpen rfl ?_)))
            (refine wpEagerX_op (by rfl) (fun K hK => ?_); go_simp; (refine (rd_num (k := 8) _ hrx0 HD0.out (by omega) (by omega) (by simpa using hopn)).mono ?_; rintro e y1 ⟨rfl, hl⟩; have hy1 : Turns (fun k => k = rb) x0 y1 := hy0.trans hl.turn (fun _ _ h => h); have hr1 := hl.there; have hsub : ∀ x, Turns (fun k => k = rb) x0 x → Turns (fun k => k = rb) x0 x := fun _ h => h; clear hl); refine Shut.out hK _ _ _ hsub (by assumption) ?_; clear hK K hsub; (try simp only [Act.put, List.setIfInBounds_toArray, List.set_cons_zero, List.set_cons_succ]); (try refine eagerXOpen rfl ?_))
            repeat (first
              | ((with_reducible refine eagerXLoadAt 84 ?_); refine wpEagerX_load (by rfl) 55 _ rfl g 4 rfl (idA op.id) _ (fun w' hb => HKI.out w' hb) Tryd.underlying55 rfl (Rdr.infoid _ HIDL.out) ?_; (try simp only [Act.put, List.setIfInBounds_toArray, List.set_cons_zero, List.set_cons_succ]); (try refine eagerXOpen rfl ?_))
              | (first | (apply wpEagerX_take; (· rfl); (· (intro w' hb'; go_simp; try with_reducible rfl)); (try simp only [Act.put, List.setIfInBounds_toArray, List.set_cons_zero, List.set_cons_succ]); (try refine eagerXOpen rfl ?_)) | (refine wpEagerX_skip (by rfl) ?_; (try simp only [Act.put, List.setIfInBounds_toArray, List.set_cons_zero, List.set_cons_succ]); (try refine eagerXOpen rfl ?_)) | (refine wpEager_off (by rfl) ?_; (try simp only [Act.put, List.setIfInBounds_toArray, List.set_cons_zero, List.set_cons_succ]); (try refine eagerXOpen rfl ?_)))
              | (apply wpEagerX_take; (· rfl); (· (intro w' hb'; have hk' := (HK.out) w' hb'; go_split_ands; go_simp; try with_reducible rfl)); (try simp only [Act.put, List.setIfInBounds_toArray, List.set_cons_zero, List.set_cons_succ]); (try refine eagerXOpen rfl ?_))
              | (apply wpEagerX_take; (· rfl); (· (intro w' hb'; have hk' := (fun w' hb => HC1.out w' hb) w' hb'; go_split_ands; go_simp; try with_reducible rfl)); (try simp only [Act.put, List.setIfInBounds_toArray, List.set_cons_zero, List.set_cons_succ]); (try refine eagerXOpen rfl ?_)))
            (refine wpEagerX_op (by rfl) (fun K hK => ?_); go_simp; (refine (rd_id _ hr1 HD1.out HID.out).mono ?_; rintro e y2 ⟨rfl, hl⟩; have hy2 : Turns (fun k => k = rb) x0 y2 := hy1.trans hl.turn (fun _ _ h => h); have hr2 := hl.there; have hsub : ∀ x, Turns (fun k => k = rb) x0 x → Turns (fun k => k = rb) x0 x := fun _ h => h; clear hl); refine Shut.out hK _ _ _ hsub (by assumption) ?_; clear hK K hsub; (try simp only [Act.put, List.setIfInBounds_toArray, List.set_cons_zero, List.set_cons_succ]); (try refine eagerXOpen rfl ?_))
            repeat (first
              | ((with_reducible refine eagerXLoadAt 84 ?_); refine wpEagerX_load (by rfl) 55 _ rfl g 4 rfl (idA op.id) _ (fun w' hb => HKI.out w' hb) Tryd.underlying55 rfl (Rdr.infoid _ HIDL.out) ?_; (try simp only [Act.put, List.setIfInBounds_toArray, List.set_cons_zero, List.set_cons_succ]); (try refine eagerXOpen rfl ?_))
              | (first | (apply wpEagerX_take; (· rfl); (· (intro w' hb'; go_simp; try with_reducible rfl)); (try simp only [Act.put, List.setIfInBounds_toArray, List.set_cons_zero, List.set_cons_succ]); (try refine eagerXOpen rfl ?_)) | (refine wpEagerX_skip (by rfl) ?_; (try simp only [Act.put, List.setIfInBounds_toArray, List.set_cons_zero, List.set_cons_succ]); (try refine eagerXOpen rfl ?_)) | (refine wpEager_off (by rfl) ?_; (try simp only [Act.put, List.setIfInBounds_toArray, List.set_cons_zero, List.set_cons_succ]); (try refine eagerXOpen rfl ?_)))
              | (apply wpEagerX_take; (· rfl); (· (intro w' hb'; have hk' := (HK.out) w' hb'; go_split_ands; go_simp; try with_reducible rfl)); (try simp only [Act.put, List.setIfInBounds_toArray, List.set_cons_zero, List.set_cons_succ]); (try refine eagerXOpen rfl ?_))
              | (apply wpEagerX_take; (· rfl); (· (intro w' hb'; have hk' := (fun w' hb => HC1.out w' hb) w' hb'; go_split_ands; go_simp; try with_reducible rfl)); (try simp only [Act.put, List.setIfInBounds_toArray, List.set_cons_zero, List.set_cons_succ]); (try refine eagerXOpen rfl ?_)))
            (refine wpEagerX_op (by rfl) (fun K hK => ?_); go_simp; (refine (rd_cnt (k := 4) (m := 5000) _ hr2 HD2.out (by omega) (by omega) (by omega) (by omega) (by omega)).mono ?_; rintro e y3 ⟨rfl, hl⟩; have hy3 : Turns (fun k => k = rb) x0 y3 := hy2.trans hl.turn (fun _ _ h => h); have hr3 := hl.there; have hsub : ∀ x, Turns (fun k => k = rb) x0 x → Turns (fun k => k = rb) x0 x := fun _ h => h; clear hl); refine Shut.out hK _ _ _ hsub (by assumption) ?_; clear hK K hsub; (try simp only [Act.put, List.setIfInBounds_toArray, List.set_cons_zero, List.set_cons_succ]); (try refine eagerXOpen rfl ?_))
            (refine wpEagerX_op (by rfl) (fun K hK => ?_); go_simp; (refine (rd_bytes _ hr3 HD3.out (by omega)).mono ?_; rintro e y4 ⟨p9, c9, rfl, ho, hl⟩; have hy4 : Turns (fun k => k = rb) x0 y4 := hy3.trans hl.turn (fun _ _ h => h); have hr4 := hl.there; have HO4 := Lib.hid ho; have hsub : ∀ x, (Turns (fun k => k = rb) x0 x ∧ Turns (fun k => k = rb) y4 x) → Turns (fun k => k = rb) x0 x := fun _ h => h.1; have hyy : Turns (fun k => k = rb) x0 y4 ∧ Turns (fun k => k = rb) y4 y4 := ⟨hy4, Turns.refl _ _⟩; clear hl ho); refine Shut.out hK _ _ _ hsub (by assumption) ?_; clear hK K hsub; (try simp only [Act.put, List.setIfInBounds_toArray, List.set_cons_zero, List.set_cons_succ]); (try refine eagerXOpen rfl ?_))
            have HC2 : Hid (∀ w', (Turns (fun k => k = rb) x0 w' ∧ Turns (fun k => k = rb) y4 w') → (convert 25 9 (.slice p9 op.b.length c9)).run Tryd.prog w' = .ok (.string (S op.b)) w') := fun w' ht => by
              obtain ⟨p8, c8, e8, hs8⟩ := own_sl (own_touch HO4.out ht.2 (fun k hk e => by have h1 := (HO4.out.lt k hk).1; have h2 := hy3.size; have h4 : x0.drew.heap.size = x0.heap.size := rfl; obtain ⟨v, bv, h'⟩ := hr3; have h5 := h'.lt; omega))
              cases e8
              exact run_conv (P := Tryd.prog) 25 9 5 Tryd.underlying25 Tryd.underlying5 Tryd.underlying9 hs8
            have HK2 : Hid (∀ w', (Turns (fun k => k = rb) x0 w' ∧ Turns (fun k => k = rb) y4 w') → w'.cell? ⟨g, 2, none⟩ = some (.int .u64 (op.n : Int)) ∧ w'.cell? ⟨g, 3, none⟩ = some (.slice pb op.b.length cb) ∧ w'.cell? ⟨g, 36, none⟩ = some (.slice pl op.ids.length cl)) := fun w' ht => HK.out w' ht.1
            repeat (first
              | (first | (apply wpEagerX_take; (· rfl); (· (intro w' hb'; go_simp; try with_reducible rfl)); (try simp only [Act.put, List.setIfInBounds_toArray, List.set_cons_zero, List.set_cons_succ]); (try refine eagerXOpen rfl ?_)) | (refine wpEagerX_skip (by rfl) ?_; (try simp only [Act.put, List.setIfInBounds_toArray, List.set_cons_zero, List.set_cons_succ]); (try refine eagerXOpen rfl ?_)) | (refine wpEager_off (by rfl) ?_; (try simp only [Act.put, List.setIfInBounds_toArray, List.set_cons_zero, List.set_cons_succ]); (try refine eagerXOpen rfl ?_)))
              | (apply wpEagerX_take; (· rfl); (· (intro w' hb'; have hk' := (fun w' hb => HK2.out w' hb) w' hb'; go_split_ands; go_simp; try with_reducible rfl)); (try simp only [Act.put, List.setIfInBounds_toArray, List.set_cons_zero, List.set_cons_succ]); (try refine eagerXOpen rfl ?_))
              | (apply wpEagerX_take; (· rfl); (· (intro w' hb'; have hk' := (fun w' hb => HC2.out w' hb) w' hb'; go_split_ands; go_simp; try with_reducible rfl)); (try simp only [Act.put, List.setIfInBounds_toArray, List.set_cons_zero, List.set_cons_succ]); (try refine eagerXOpen rfl ?_)))
            (refine wpEagerX_op (by rfl) (fun K hK => ?_); go_simp; (refine (rd_cnt (k := 2) (m := 5000) _ hr4 HD4.out (by omega) (by omega) (by omega) (by omega) (by omega)).mono ?_; rintro e y5 ⟨rfl, hl⟩; have hy5 : Turns (fun k => k = rb) x0 y5 ∧ Turns (fun k => k = rb) y4 y5 := ⟨hy4.trans hl.turn (fun _ _ h => h), hl.turn⟩; have hr5 := hl.there; have hsub : ∀ x, (Turns (fun k => k = rb) x0 x ∧ Turns (fun k => k = rb) y4 x) → (Turns (fun k => k = rb) x0 x ∧ Turns (fun k => k = rb) y4 x) := fun _ h => h; clear hl); refine Shut.out hK _ _ _ hsub (by assumption) ?_; clear hK K hsub; (try simp only [Act.put, List.setIfInBounds_toArray, List.set_cons_zero, List.set_cons_succ]); (try refine eagerXOpen rfl ?_))
            (refine wpEagerX_op (by rfl) (fun K hK => ?_); go_simp; (refine (rd_ids _ hr5 HD5.out HIs.out.each (by omega)).mono ?_; rintro e y6 ⟨p7, c7, rfl, ho, hl⟩; have hy6 : Turns (fun k => k = rb) x0 y6 ∧ Turns (fun k => k = rb) y4 y6 := ⟨hy5.1.trans hl.turn (fun _ _ h => h), hy5.2.trans hl.turn (fun _ _ h => h)⟩; have hr6 := hl.there; have HO6 := Lib.hid ho; have hsub : ∀ x, (Turns (fun k => k = rb) x0 x ∧ Turns (fun k => k = rb) y4 x) → (Turns (fun k => k = rb) x0 x ∧ Turns (fun k => k = rb) y4 x) := fun _ h => h; clear hl ho); refine Shut.out hK _ _ _ hsub (by assumption) ?_; clear hK K hsub; (try simp only [Act.put, List.setIfInBounds_toArray, List.set_cons_zero, List.set_cons_succ]); (try refine eagerXOpen rfl ?_))
            (refine wpEagerX_op (by rfl) (fun K hK => ?_); go_simp; (refine (RR.idsSame_any _ _ _ _ _ _ _ _ y6 HO6.out (HIs.out.below (HIN.out y6 hy6.1))).mono ?_; rintro e y7 ⟨rfl, hb⟩; have hy7 : Turns (fun k => k = rb) x0 y7 ∧ Turns (fun k => k = rb) y4 y7 := ⟨hy6.1.trans (Turns.of_below (S := fun _ => False) hb) (fun _ _ h => h.elim), hy6.2.trans (Turns.of_below (S := fun _ => False) hb) (fun _ _ h => h.elim)⟩; have hr7 := hr6.below hb; have hsub : ∀ x, (Turns (fun k => k = rb) x0 x ∧ Turns (fun k => k = rb) y4 x) → (Turns (fun k => k = rb) x0 x ∧ Turns (fun k => k = rb) y4 x) := fun _ h => h; clear hb); refine Shut.out hK _ _ _ hsub (by assumption) ?_; clear hK K hsub; (try simp only [Act.put, List.setIfInBounds_toArray, List.set_cons_zero, List.set_cons_succ]); (try refine eagerXOpen rfl ?_))
            repeat (first | (apply wpEagerX_take; (· rfl); (· (intro w' hb'; go_simp; try with_reducible rfl)); (try simp only [Act.put, List.setIfInBounds_toArray, List.set_cons_zero, List.set_cons_succ]); (try refine eagerXOpen rfl ?_)) | (refine wpEagerX_skip (by rfl) ?_; (try simp only [Act.put, List.setIfInBounds_toArray, List.set_cons_zero, List.set_cons_succ]); (try refine eagerXOpen rfl ?_)) | (refine wpEager_off (by rfl) ?_; (try simp only [Act.put, List.setIfInBounds_toArray, List.set_cons_zero, List.set_cons_succ]); (try refine eagerXOpen rfl ?_)))
            refine eagerXEnd ?_
            have HR7 := Lib.hid hr7
            have HB7 := Lib.hid (HIN.out y7 hy7.1)
            clear hy0 hy1 hy2 hy3 hy4 hy5 hy6 hy7 hr1 hr2 hr3 hr4 hr5 hr6 hr7 hrx0 hyy
            go_wp2_with fail
            go_roundw
            case rel => exact ⟨i + 1, by omega, by go_num, HB7.out, by rw [HPE.out]; exact HR7.out⟩
            case measure => simp [intOf]; omega
          · obtain rfl : i = k := by omega
            have hdi : decide ((i : Int) < (i : Int)) = false := by simp
            have hra := HRA.out
            rw [List.take_of_length_le (by rw [HCNT.out]; omega)] at hra
            have HRE := Lib.hid hra
            have HE7 := Lib.hid (HE.out.below HBW7.out HE.out.lt)
            have HDN : Hid (Rdr.RD.done ⟨enc L, (enc L).length, none⟩ = 0) := by
              show _ = _
              unfold Rdr.RD.done
              rw [if_neg (by show ¬ (0 : Int) ≠ 0; simp), if_pos (Nat.sub_self _)]
            clear hra HRA
            go_wp2_with fail
            refine (Rdr.done_any _ HRE.out HE7.out).mono ?_
            rintro e w8 ⟨rfl, hb8⟩
            rw [HDN.out]
            have HB8 := Lib.hid (HBW7.out.trans (hb8.mono HBW7.out.size))
            clear hb8
            go_wp2_with fail
            refine (alive_any _).mono ?_
            rintro e w9 ⟨rfl, hb9⟩
            have HB9 := Lib.hid (HB8.out.trans (hb9.mono HB8.out.size))
            clear hb9
            go_wp2_with fail
            go_ret
            exact ⟨rfl, HB9.out⟩
      · have hgt : 400 < k := by have := HEL.out; have := HW5.out; have := HR.out; omega
        have hd4 : decide ((400 : Int) < (k : Int)) = true := decide_eq_true (by omega)
        go_wp2_with fail
        refine hDN.out.mono ?_
        rintro e w5 ⟨⟨p5, n5, c5, rfl, ho5⟩, hb5⟩
        have HB5 := Lib.hid (HBW.out.trans (hb5.mono HBW.out.size))
        clear ho5 hb5 hDN
        go_wp2_with fail
        refine (alive_any _).mono ?_
        rintro e w6 ⟨rfl, hb6⟩
        have HB6 := Lib.hid (HB5.out.trans (hb6.mono HB5.out.size))
        clear hb6
        go_wp2_with fail
        go_ret
        exact ⟨rfl, HB6.out⟩
end Go.Proofs.YtbfddfmglkhimaaDoor.W10R
