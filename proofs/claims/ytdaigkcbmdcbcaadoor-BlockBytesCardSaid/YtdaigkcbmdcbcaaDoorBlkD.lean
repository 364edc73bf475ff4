/- BLOCKS: Decode. Conditions: the laid cell of errors.errorType; at most 2^40 bytes. -/
import Derived.Test.YtdaigkcbmdcbcaaDoorBlkE
import Derived.Test.YtdaigkcbmdcbcaaDoorBlk8
namespace Go.Proofs.YtdaigkcbmdcbcaaDoor.Blk
open Go.RowKit Go.Mir Go.Mir.Parts Wr Cod Rdr

theorem buildB64v (a0 a1 a2 a3 a4 a5 a6 a7 a8 a9 a10 a11 a12 a13 a14 a15 a16 a17 a18 a19 a20 a21 a22 a23 a24 a25 a26 a27 a28 a29 a30 a31 b0 b1 b2 b3 b4 b5 b6 b7 b8 b9 b10 b11 b12 b13 b14 b15 b16 b17 b18 b19 b20 b21 b22 b23 b24 b25 b26 b27 b28 b29 b30 b31 : Value) : Tryd.prog.built 26 [(0, .agg #[a0, a1, a2, a3, a4, a5, a6, a7, a8, a9, a10, a11, a12, a13, a14, a15, a16, a17, a18, a19, a20, a21, a22, a23, a24, a25, a26, a27, a28, a29, a30, a31]), (1, .agg #[b0, b1, b2, b3, b4, b5, b6, b7, b8, b9, b10, b11, b12, b13, b14, b15, b16, b17, b18, b19, b20, b21, b22, b23, b24, b25, b26, b27, b28, b29, b30, b31])] = some #[a0, a1, a2, a3, a4, a5, a6, a7, a8, a9, a10, a11, a12, a13, a14, a15, a16, a17, a18, a19, a20, a21, a22, a23, a24, a25, a26, a27, a28, a29, a30, a31, b0, b1, b2, b3, b4, b5, b6, b7, b8, b9, b10, b11, b12, b13, b14, b15, b16, b17, b18, b19, b20, b21, b22, b23, b24, b25, b26, b27, b28, b29, b30, b31, Value.slice none 0 0] := by kernel_rfl
theorem buildB64 (a b : List Value) (ha : a.length = 32) (hb : b.length = 32) : Tryd.prog.built 26 [(0, .agg a.toArray), (1, .agg b.toArray)] = some (a ++ b ++ [Value.slice none 0 0]).toArray :=
  match a, ha, b, hb with
  | [a0, a1, a2, a3, a4, a5, a6, a7, a8, a9, a10, a11, a12, a13, a14, a15, a16, a17, a18, a19, a20, a21, a22, a23, a24, a25, a26, a27, a28, a29, a30, a31], _, [b0, b1, b2, b3, b4, b5, b6, b7, b8, b9, b10, b11, b12, b13, b14, b15, b16, b17, b18, b19, b20, b21, b22, b23, b24, b25, b26, b27, b28, b29, b30, b31], _ => buildB64v a0 a1 a2 a3 a4 a5 a6 a7 a8 a9 a10 a11 a12 a13 a14 a15 a16 a17 a18 a19 a20 a21 a22 a23 a24 a25 a26 a27 a28 a29 a30 a31 b0 b1 b2 b3 b4 b5 b6 b7 b8 b9 b10 b11 b12 b13 b14 b15 b16 b17 b18 b19 b20 b21 b22 b23 b24 b25 b26 b27 b28 b29 b30 b31
theorem build_blk (h p : List UInt8) (hh : h.length = 32) (hp : p.length = 32) : Tryd.prog.built 26 [(0, .agg (idA h)), (1, .agg (idA p))] = some (blkA h p none 0 0) := by
  have := buildB64 (bytesV h) (bytesV p) (by rw [bytesV_length, hh]) (by rw [bytesV_length, hp])
  exact this
theorem build_b0 : Tryd.prog.built 26 [] = some (blkA zeros zeros none 0 0) := by kernel_rfl
theorem zeroB (w : World) : (zeroValue 26).run Tryd.prog w = .ok (.agg (blkA zeros zeros none 0 0)) w := by kernel_rfl
theorem blk_one (h p : List UInt8) (q : Option Addr) (n c : Nat) : (blkA h p q n c).all (·.oneCell') = true := by
  have := all_oneCell_toArray (cs := (blkA h p q n c).toList) (fun v hv => by
    rw [blkA_toList] at hv
    simp only [List.mem_append, List.mem_singleton] at hv
    rcases hv with (hv | hv) | hv
    · exact bytesV_one _ v hv
    · exact bytesV_one _ v hv
    · rw [hv]; rfl)
  rwa [Array.toArray_toList] at this
theorem blk_size {h p : List UInt8} (hh : h.length = 32) (hp : p.length = 32) (q : Option Addr) (n c : Nat) : (blkA h p q n c).size = 65 := by
  rw [← Array.length_toList, blkA_toList]; simp [bytesV_length, hh, hp]
/-! ### in memory -/
structure DWB (w : World) (base rb bb : Nat) (s : RD) (h p : List UInt8) (q : Option Addr) (n c : Nat) (x : World) : Prop where
  rd : RAt x base rb s
  r0 : x.heap[w.heap.size]? = some (.cells (blkA zeros zeros none 0 0) 26 (0, 0))
  r1 : x.heap[bb]? = some (.cells (blkA h p q n c) 26 (0, 0))
  low : Below w.heap.size w x
  ne : bb ≠ rb ∧ w.heap.size < rb ∧ w.heap.size < bb
  len : h.length = 32 ∧ p.length = 32
theorem DWB.left {w x y : World} {base rb bb : Nat} {s s' : RD} {h p : List UInt8} {q : Option Addr} {n c : Nat} (H : DWB w base rb bb s h p q n c x) (hl : LeftR base rb s' x y) : DWB w base rb bb s' h p q n c y :=
  ⟨hl.there, hl.turn.keep H.r0 (by have := H.ne; omega), hl.turn.keep H.r1 (by have := H.ne; omega), H.low.trans (hl.turn.below H.low.size (fun i hi => by have := H.ne; omega)), H.ne, H.len⟩
theorem DWB.below {w x y : World} {base rb bb : Nat} {s : RD} {h p : List UInt8} {q : Option Addr} {n c : Nat} (H : DWB w base rb bb s h p q n c x) (hb : Below x.heap.size x y) : DWB w base rb bb s h p q n c y :=
  ⟨H.rd.below hb, Below.keepOld hb H.r0, Below.keepOld hb H.r1, H.low.trans (hb.mono H.low.size), H.ne, H.len⟩
theorem DWB.kind {w x : World} {base rb bb : Nat} {s : RD} {h p : List UInt8} {q : Option Addr} {n c : Nat} (H : DWB w base rb bb s h p q n c x) : ∀ k M t fr, x.heap[k]? = some (.cells M t fr) → (t = 5 ∨ t = 94 ∨ t = 85) → ¬ k = bb := fun k M t fr hk h2 h3 => by
  subst h3
  rw [H.r1] at hk
  injection hk with e1
  injection e1 with _ e2
  subst e2
  revert h2
  decide
theorem DWB.set {w x : World} {base rb bb : Nat} {s : RD} {h p : List UInt8} {q : Option Addr} {n c : Nat} (H : DWB w base rb bb s h p q n c x) (q' : Option Addr) (n' c' : Nat) :
    DWB w base rb bb s h p q' n' c' (x.setCell ⟨bb, 64, none⟩ (.slice q' n' c')) :=
  ⟨H.rd.touch ((Turns.refl (fun k => k = bb) x).setCell (p := ⟨bb, 64, none⟩) (fun _ => rfl) _) H.kind, by rw [heap_setCell_other _ _ _ _ (by have := H.ne; simp; omega)]; exact H.r0, by rw [heap_setCell_same _ _ _ _ _ _ H.r1, blkA_set _ _ H.len.1 H.len.2], H.low.setCell (by have := H.ne; show w.heap.size ≤ bb; omega) _, H.ne, H.len⟩
def DecP (d : BlkD) (ev : Int) (w : World) (e : Ending) (w' : World) : Prop :=
  ∃ M q n c, e = .returned (.tuple #[.agg M, .int .i64 ev]) ∧ BlkAt w' M d q n c ∧ Below w.heap.size w w'
theorem results_cell_tmp2 {P : Program} {fn : Func} {p q : Tmp} {ty : TypeId} (h : fn.results = #[.cell p ty, .tmp q]) (tmps : Array Value) (w : World) (g : Nat) (t : TypeId) (cs : Array Value) (fr : Nat × Nat) (d : TypeDesc)
    (hp : tmps.getD p undef = .pointer (some ⟨g, 0, none⟩)) (hg : w.heap[g]? = some (.cells cs t fr))
    (hu : P.underlying ty = some d) (hd : (match d with | .struct _ | .array _ _ => true | _ => false) = true) (hi : (P.info? ty).map (·.size) = some cs.size) :
    (results fn tmps).run P w = .ok (.tuple #[.agg cs, tmps.getD q undef]) w := by
  have hp' : tmps[p]?.getD undef = .pointer (some ⟨g, 0, none⟩) := by simpa using hp
  simp [results, h, hp', asAddr, run_loadVar_row w g t ty cs fr d hg hu hd hi]
set_option maxRecDepth 100000 in
set_option maxHeartbeats 3200000 in
theorem decode_any (p0 : Option Addr) (n0 c0 : Nat) (l : List UInt8) (w : World) (hE : EType w) (hB : Bs w p0 n0 c0 l) (hn : n0 ≤ 1099511627776) :
    Calls Tryd.prog 14 #[.slice p0 n0 c0] w (DecP (decB l).1 (decB l).2 w) := by
  rw [← dQ_dec]
  have hz := zeroB
  have HE := Lib.hid hE
  have hle := hB.le
  have hmax := hB.max
  have HZB : Hid (Below w.heap.size w (w.alloc (.cells (blkA zeros zeros none 0 0) 26))) := Below.allocs _ _
  have HZR : Hid ((w.alloc (.cells (blkA zeros zeros none 0 0) 26)).heap[w.heap.size]? = some (.cells (blkA zeros zeros none 0 0) 26 (0, 0))) := heap_alloc_last _ _
  have HZS : Hid ((w.alloc (.cells (blkA zeros zeros none 0 0) 26)).heap.size = w.heap.size + 1) := by show _ = _; simp
  have HBS := Lib.hid hB
  clear hB hE
  have HI1 : Hid (∀ (w : World) (base rb : Nat), RAt w base rb (RD.new l) → Calls Tryd.prog 36 #[.pointer (some ⟨rb, 0, none⟩)] w (IdP base rb (RD.new l) 32 w)) := fun w base rb h => Rdr.id_any w h
  have HI2 : Hid (∀ (w : World) (base rb : Nat), RAt w base rb (s1P l) → Calls Tryd.prog 36 #[.pointer (some ⟨rb, 0, none⟩)] w (IdP base rb (s1P l) 32 w)) := fun w base rb h => Rdr.id_any w h
  have HCN : Hid (∀ (w : World) (base rb : Nat), RAt w base rb (s2P l) → Calls Tryd.prog 38 #[.pointer (some ⟨rb, 0, none⟩), .int .i64 1, .int .i64 32] w (CountP base rb (s2P l) 1 32 w)) := fun w base rb h => Rdr.count_any w h 1 (by omega) 32 (by omega)
  have hnb : -9223372036854775808 ≤ nP l ∧ nP l ≤ 9223372036854775807 := by
    have h1 := numV_pow (s2P l) 1 (by omega)
    have h9 : (s2P l).numV 1 < 256 := by simpa using h1
    unfold nP RD.cntV
    split <;> omega
  have HID : Hid (∀ (w : World) (base rb : Nat), RAt w base rb (s3P l) → Calls Tryd.prog 37 #[.pointer (some ⟨rb, 0, none⟩), .int .i64 (nP l)] w (Rdr.IdsP base rb (s3P l) (nP l) w)) := fun w base rb h => Rdr.ids_any w h _ hnb
  have HHL : Hid (((RD.new l).idV 32).length = 32 ∧ ((s1P l).idV 32).length = 32) := ⟨idV_len _ _, idV_len _ _⟩
  have HDD : Hid (blkP l = ⟨(RD.new l).idV 32, (s1P l).idV 32, chunks (idsP l) ((idsP l).length / 32)⟩) := rfl
  have hQ0 : (s4P l).done ≠ 0 → dQ l = (.zero, (s4P l).done) := fun h => by unfold dQ; rw [if_pos h]
  have hQ1 : (s4P l).done = 0 → rightB (blkP l) = true → dQ l = (blkP l, 0) := fun h h' => by unfold dQ; rw [if_neg (by simp [h]), if_pos h']
  have hQ2 : (s4P l).done = 0 → ¬ rightB (blkP l) = true → dQ l = (.zero, 4) := fun h h' => by unfold dQ; rw [if_neg (by simp [h]), if_neg h']
  unfold IdP at HI1 HI2
  unfold CountP at HCN
  unfold Rdr.IdsP at HID
  have HDN : Hid ((s4P l).done = (s4P l).done) := rfl
  have e2 : (RD.new l).takeS 32 true = s1P l := rfl
  have e3 : (s1P l).takeS 32 true = s2P l := rfl
  have e4 : (s2P l).cntS 1 32 = s3P l := rfl
  have e5 : (s3P l).takeS (32 * nP l) true = s4P l := rfl
  have e6 : (s3P l).takeB (32 * nP l) true = idsP l := rfl
  have e7 : (s2P l).cntV 1 32 = nP l := rfl
  simp only [show (((32 : Nat) : Int)) = 32 from rfl] at HI1 HI2
  rw [e2] at HI1
  rw [e3] at HI2
  rw [e4, e7] at HCN
  rw [e5, e6] at HID
  clear e2 e3 e4 e5 e6 e7 hnb
  have HQ0 := Lib.hid hQ0
  have HQ1 := Lib.hid hQ1
  have HQ2 := Lib.hid hQ2
  clear hQ0 hQ1 hQ2
  generalize (RD.new l).idV 32 = h1 at *
  generalize (s1P l).idV 32 = h2 at *
  generalize blkP l = D at *
  generalize idsP l = B at *
  generalize nP l = nn at *
  generalize s4P l = s4 at *
  generalize s3P l = s3 at *
  generalize s2P l = s2 at *
  generalize s1P l = s1 at *
  generalize dQ l = Q at *
  obtain ⟨ev, hev⟩ : ∃ ev, s4.done = ev := ⟨_, rfl⟩
  clear HDN
  have HDN := Lib.hid hev
  rw [hev] at HQ0 HQ1 HQ2
  clear hev
  have HZW : Hid (∀ w', BlkAt w' (blkA zeros zeros none 0 0) BlkD.zero none 0 0) := fun w' => ⟨rfl, rfl, rfl, Is.nil _ _⟩
  by_cases h0 : ev = 0
  · have z1 : (ev == 0) = true := by rw [beq_iff_eq]; exact h0
    have z2 : (ev != 0) = false := by simp [h0]
    by_cases hr : rightB D = true
    · have hq := HQ1.out h0 hr
      have HRT := Lib.hid hr
      clear h0 hr HQ0 HQ1 HQ2
      subst hq
      go_enter Tryd.func14, Tryd.ntmps14
      go_upto_region 1 with fail
      generalize w.alloc (.cells (blkA zeros zeros none 0 0) 26) = w1 at *
      go_wp2_with fail
      refine (Rdr.new_any w1 _ _ _ l (HBS.out.below HZB.out) (by omega)).mono ?_
      rintro e w2 ⟨rb, rfl, hr2, hb2⟩
      have HR2 := Lib.hid hr2
      have HB2 := Lib.hid hb2
      clear hr2 hb2
      go_wp2_with fail
      refine (HI1.out _ _ _ HR2.out).mono ?_
      rintro e w3 ⟨rfl, hl3⟩
      have HL3 := Lib.hid hl3
      clear hl3
      go_wp2_with fail
      refine (HI2.out _ _ _ HL3.out.there).mono ?_
      rintro e w4 ⟨rfl, hl4⟩
      have HL4 := Lib.hid hl4
      clear hl4
      go_upto_region 3 with (first
        | ((with_reducible refine wpAt 13 ?_); refine Rdr.wpList_build rfl 26 _ rfl [(0, .agg (idA h1)), (1, .agg (idA h2))] rfl _ (build_blk _ _ HHL.out.1 HHL.out.2) ?_)
        | ((with_reducible refine wpStoreAt 5 ?_); refine wpList_store_row rfl 26 _ _ rfl w4.heap.size (blkA h1 h2 none 0 0) rfl rfl 26 (blkA zeros zeros none 0 0) (heap_alloc_last _ _) (infoBlk _ (blk_size HHL.out.1 HHL.out.2 _ _ _)) (by rw [blk_size HHL.out.1 HHL.out.2]; rfl) (blk_one _ _ _ _ _) ?_))
      simp only [Act.put]
      have hdw : DWB w w1.heap.size rb w4.heap.size s2 h1 h2 none 0 0 ((w4.alloc (.cells (blkA zeros zeros none 0 0) 26)).setRow w4.heap.size (blkA h1 h2 none 0 0)) := by
        have hb4 : Below w4.heap.size w4 ((w4.alloc (.cells (blkA zeros zeros none 0 0) 26)).setRow w4.heap.size (blkA h1 h2 none 0 0)) := below_setRow (Below.allocs _ _) (Nat.le_refl _) _
        have hs1 := HZS.out
        have hs2 := HB2.out.size
        have hs3 := HL3.out.turn.size
        have hs4 := HL4.out.turn.size
        obtain ⟨v, bv, hr⟩ := HR2.out
        have hlow := hr.low
        have hlt := hr.lt
        have hb13 : Below w1.heap.size w1 w3 := HB2.out.trans (HL3.out.turn.below hs2 (fun i hi => by omega))
        have hb14 : Below w1.heap.size w1 w4 := hb13.trans (HL4.out.turn.below (by omega) (fun i hi => by omega))
        have hb15 : Below w1.heap.size w1 _ := hb14.trans (hb4.mono hb14.size)
        exact ⟨HL4.out.there.below hb4, Below.keepOld hb15 HZR.out, setRow_heap _ _ _ _ _ _ (heap_alloc_last _ _), HZB.out.trans (hb15.mono (by omega)), ⟨by omega, by omega, by omega⟩, HHL.out⟩
      generalize (w4.alloc (.cells (blkA zeros zeros none 0 0) 26)).setRow w4.heap.size (blkA h1 h2 none 0 0) = w5 at *
      generalize w4.heap.size = bb at *
      have HDW := Lib.hid hdw
      clear hdw HL3 HL4 HR2 HB2
      go_wp2_with fail
      refine (HCN.out _ _ _ HDW.out.rd).mono ?_
      rintro e w6 ⟨rfl, hl6⟩
      have hdw := HDW.out.left hl6
      clear HDW hl6
      have HDW := Lib.hid hdw
      clear hdw
      go_wp2_with fail
      refine (HID.out _ _ _ HDW.out.rd).mono ?_
      rintro e w7 ⟨qi, ki, ci, hki, rfl, ho7, hl7⟩
      have hdw := HDW.out.left hl7
      have HSZ : Hid (w.heap.size ≤ w6.heap.size) := HDW.out.low.size
      have HSM : Hid (bb < w6.heap.size) := (Array.getElem?_eq_some_iff.1 HDW.out.r1).1
      have c64 : w7.cell? ⟨bb, 64, none⟩ = some (.slice none 0 0) := by
        have := range_row hdw.r1 (bytesV h1 ++ bytesV h2) [Value.slice none 0 0] [] (by rw [blkA_toList]; simp)
        rw [List.length_append, bytesV_length, bytesV_length, hdw.len.1, hdw.len.2] at this
        exact this 0 _ rfl
      have f64 := frozen_of_row _ _ 64 _ _ hdw.r1
      have hdw2 := hdw.set qi ki ci
      have HOW : Hid ((w7.setCell ⟨bb, 64, none⟩ (.slice qi ki ci)).ownsRow w6.heap.size 23 32 (.slice qi ki ci) ki (bytesV B)) :=
        own_touch ho7 ((Turns.refl (fun k => k = bb) w7).setCell (p := ⟨bb, 64, none⟩) (fun _ => rfl) _) (fun k hk e => by have := (ho7.lt k hk).1; have := HSM.out; omega)
      have HKI := Lib.hid hki
      clear HDW hl7 hdw ho7 hki
      have HDW := Lib.hid hdw2
      clear hdw2
      go_upto_region 4 with fail
      generalize w7.setCell ⟨bb, 64, none⟩ (.slice qi ki ci) = w8 at *
      clear c64 f64
      have HBK : Hid (BlkAt w8 (blkA h1 h2 qi ki ci) D qi ki ci) := by
        have h9 := is_chunks HOW.out HKI.out
        have h8 := HDD.out
        have hk9 : B.length / 32 = ki := by rw [HKI.out]; omega
        rw [hk9] at h8
        rw [h8]
        exact ⟨rfl, HHL.out.1, HHL.out.2, h9⟩
      have HE9 := Lib.hid (HE.out.below HDW.out.low HE.out.lt)
      go_wp2_with fail
      refine (Rdr.done_any _ HDW.out.rd HE9.out).mono ?_
      rintro e x9 ⟨rfl, hb9⟩
      rw [HDN.out]
      have hdw9 := HDW.out.below hb9
      have hbk9 := HBK.out.below hb9
      have how9 := own_touch HOW.out (Turns.of_below (S := fun _ => False) hb9) (fun _ _ h => h)
      clear hb9 HDW HE9 HBK HOW
      have HDW := Lib.hid hdw9
      have HBK := Lib.hid hbk9
      have HOW := Lib.hid how9
      clear hdw9 hbk9 how9
      go_wp2_with ((with_reducible refine wpAt 24 ?_); refine wpList_unguard (by rfl) ?_; refine wpList_load_row rfl 26 _ rfl bb rfl 26 (blkA h1 h2 qi ki ci) (0, 0) _ HDW.out.r1 Tryd.underlying26 rfl (infoBlk _ (blk_size HHL.out.1 HHL.out.2 _ _ _)) ?_)
      refine (right_any _ D qi ki ci _ HBK.out).mono ?_
      rintro e x10 ⟨rfl, hb10⟩
      rw [HRT.out]
      have hdw10 := HDW.out.below hb10
      have hbk10 := HBK.out.below hb10
      have how10 := own_touch HOW.out (Turns.of_below (S := fun _ => False) hb10) (fun _ _ h => h)
      clear hb10 HDW HBK HOW
      have HDW := Lib.hid hdw10
      have HBK := Lib.hid hbk10
      have HOW := Lib.hid how10
      clear hdw10 hbk10 how10
      have HSZ2 := HSZ.out
      have HSM2 := HSM.out
      go_wp2_with (first
        | refine wpList_load_row rfl 26 _ rfl bb rfl 26 (blkA h1 h2 qi ki ci) (0, 0) _ HDW.out.r1 Tryd.underlying26 rfl (infoBlk _ (blk_size HHL.out.1 HHL.out.2 _ _ _)) ?_
        | refine wpList_store_row rfl 26 _ _ rfl w.heap.size (blkA h1 h2 qi ki ci) rfl rfl 26 (blkA zeros zeros none 0 0) HDW.out.r0 (infoBlk _ (blk_size HHL.out.1 HHL.out.2 _ _ _)) (by rw [blk_size HHL.out.1 HHL.out.2]; rfl) (blk_one _ _ _ _ _) ?_)
      have HS := Lib.hid (setRow_heap _ _ _ (blkA h1 h2 qi ki ci) _ _ HDW.out.r0)
      refine bodyPost_ret (results_cell_tmp2 rfl _ _ _ _ _ _ _ rfl HS.out Tryd.underlying26 rfl (infoBlk _ (blk_size HHL.out.1 HHL.out.2 _ _ _))) rfl ?_
      refine ⟨blkA h1 h2 qi ki ci, qi, ki, ci, rfl, ?_, below_setRow HDW.out.low (Nat.le_refl _) _⟩
      have how := own_touch HOW.out (turns_setRow _ w.heap.size (blkA h1 h2 qi ki ci)) (fun k hk e => by have := (HOW.out.lt k hk).1; have := HDW.out.ne.2.2; omega)
      have h9 := is_chunks how HKI.out
      have h8 := HDD.out
      have hk9 : B.length / 32 = ki := by rw [HKI.out]; omega
      rw [hk9] at h8
      rw [h8]
      exact ⟨rfl, HHL.out.1, HHL.out.2, h9⟩
    · have hq := HQ2.out h0 hr
      have HRT : Hid (rightB D = false) := by cases h : rightB D; rfl; exact absurd h hr
      clear h0 hr HQ0 HQ1 HQ2
      subst hq
      have HBAD : Hid (∀ w', Below w.heap.size w w' → DecP BlkD.zero 4 w (.returned (.tuple #[.agg (blkA zeros zeros none 0 0), .int .i64 4])) w') := fun w' hb => ⟨_, _, _, _, rfl, HZW.out _, hb⟩
      go_enter Tryd.func14, Tryd.ntmps14
      go_upto_region 1 with fail
      generalize w.alloc (.cells (blkA zeros zeros none 0 0) 26) = w1 at *
      go_wp2_with fail
      refine (Rdr.new_any w1 _ _ _ l (HBS.out.below HZB.out) (by omega)).mono ?_
      rintro e w2 ⟨rb, rfl, hr2, hb2⟩
      have HR2 := Lib.hid hr2
      have HB2 := Lib.hid hb2
      clear hr2 hb2
      go_wp2_with fail
      refine (HI1.out _ _ _ HR2.out).mono ?_
      rintro e w3 ⟨rfl, hl3⟩
      have HL3 := Lib.hid hl3
      clear hl3
      go_wp2_with fail
      refine (HI2.out _ _ _ HL3.out.there).mono ?_
      rintro e w4 ⟨rfl, hl4⟩
      have HL4 := Lib.hid hl4
      clear hl4
      go_upto_region 3 with (first
        | ((with_reducible refine wpAt 13 ?_); refine Rdr.wpList_build rfl 26 _ rfl [(0, .agg (idA h1)), (1, .agg (idA h2))] rfl _ (build_blk _ _ HHL.out.1 HHL.out.2) ?_)
        | ((with_reducible refine wpStoreAt 5 ?_); refine wpList_store_row rfl 26 _ _ rfl w4.heap.size (blkA h1 h2 none 0 0) rfl rfl 26 (blkA zeros zeros none 0 0) (heap_alloc_last _ _) (infoBlk _ (blk_size HHL.out.1 HHL.out.2 _ _ _)) (by rw [blk_size HHL.out.1 HHL.out.2]; rfl) (blk_one _ _ _ _ _) ?_))
      simp only [Act.put]
      have hdw : DWB w w1.heap.size rb w4.heap.size s2 h1 h2 none 0 0 ((w4.alloc (.cells (blkA zeros zeros none 0 0) 26)).setRow w4.heap.size (blkA h1 h2 none 0 0)) := by
        have hb4 : Below w4.heap.size w4 ((w4.alloc (.cells (blkA zeros zeros none 0 0) 26)).setRow w4.heap.size (blkA h1 h2 none 0 0)) := below_setRow (Below.allocs _ _) (Nat.le_refl _) _
        have hs1 := HZS.out
        have hs2 := HB2.out.size
        have hs3 := HL3.out.turn.size
        have hs4 := HL4.out.turn.size
        obtain ⟨v, bv, hr⟩ := HR2.out
        have hlow := hr.low
        have hlt := hr.lt
        have hb13 : Below w1.heap.size w1 w3 := HB2.out.trans (HL3.out.turn.below hs2 (fun i hi => by omega))
        have hb14 : Below w1.heap.size w1 w4 := hb13.trans (HL4.out.turn.below (by omega) (fun i hi => by omega))
        have hb15 : Below w1.heap.size w1 _ := hb14.trans (hb4.mono hb14.size)
        exact ⟨HL4.out.there.below hb4, Below.keepOld hb15 HZR.out, setRow_heap _ _ _ _ _ _ (heap_alloc_last _ _), HZB.out.trans (hb15.mono (by omega)), ⟨by omega, by omega, by omega⟩, HHL.out⟩
      generalize (w4.alloc (.cells (blkA zeros zeros none 0 0) 26)).setRow w4.heap.size (blkA h1 h2 none 0 0) = w5 at *
      generalize w4.heap.size = bb at *
      have HDW := Lib.hid hdw
      clear hdw HL3 HL4 HR2 HB2
      go_wp2_with fail
      refine (HCN.out _ _ _ HDW.out.rd).mono ?_
      rintro e w6 ⟨rfl, hl6⟩
      have hdw := HDW.out.left hl6
      clear HDW hl6
      have HDW := Lib.hid hdw
      clear hdw
      go_wp2_with fail
      refine (HID.out _ _ _ HDW.out.rd).mono ?_
      rintro e w7 ⟨qi, ki, ci, hki, rfl, ho7, hl7⟩
      have hdw := HDW.out.left hl7
      have HSZ : Hid (w.heap.size ≤ w6.heap.size) := HDW.out.low.size
      have HSM : Hid (bb < w6.heap.size) := (Array.getElem?_eq_some_iff.1 HDW.out.r1).1
      have c64 : w7.cell? ⟨bb, 64, none⟩ = some (.slice none 0 0) := by
        have := range_row hdw.r1 (bytesV h1 ++ bytesV h2) [Value.slice none 0 0] [] (by rw [blkA_toList]; simp)
        rw [List.length_append, bytesV_length, bytesV_length, hdw.len.1, hdw.len.2] at this
        exact this 0 _ rfl
      have f64 := frozen_of_row _ _ 64 _ _ hdw.r1
      have hdw2 := hdw.set qi ki ci
      have HOW : Hid ((w7.setCell ⟨bb, 64, none⟩ (.slice qi ki ci)).ownsRow w6.heap.size 23 32 (.slice qi ki ci) ki (bytesV B)) :=
        own_touch ho7 ((Turns.refl (fun k => k = bb) w7).setCell (p := ⟨bb, 64, none⟩) (fun _ => rfl) _) (fun k hk e => by have := (ho7.lt k hk).1; have := HSM.out; omega)
      have HKI := Lib.hid hki
      clear HDW hl7 hdw ho7 hki
      have HDW := Lib.hid hdw2
      clear hdw2
      go_upto_region 4 with fail
      generalize w7.setCell ⟨bb, 64, none⟩ (.slice qi ki ci) = w8 at *
      clear c64 f64
      have HBK : Hid (BlkAt w8 (blkA h1 h2 qi ki ci) D qi ki ci) := by
        have h9 := is_chunks HOW.out HKI.out
        have h8 := HDD.out
        have hk9 : B.length / 32 = ki := by rw [HKI.out]; omega
        rw [hk9] at h8
        rw [h8]
        exact ⟨rfl, HHL.out.1, HHL.out.2, h9⟩
      have HE9 := Lib.hid (HE.out.below HDW.out.low HE.out.lt)
      go_wp2_with fail
      refine (Rdr.done_any _ HDW.out.rd HE9.out).mono ?_
      rintro e x9 ⟨rfl, hb9⟩
      rw [HDN.out]
      have hdw9 := HDW.out.below hb9
      have hbk9 := HBK.out.below hb9
      have how9 := own_touch HOW.out (Turns.of_below (S := fun _ => False) hb9) (fun _ _ h => h)
      clear hb9 HDW HE9 HBK HOW
      have HDW := Lib.hid hdw9
      have HBK := Lib.hid hbk9
      have HOW := Lib.hid how9
      clear hdw9 hbk9 how9
      go_wp2_with ((with_reducible refine wpAt 24 ?_); refine wpList_unguard (by rfl) ?_; refine wpList_load_row rfl 26 _ rfl bb rfl 26 (blkA h1 h2 qi ki ci) (0, 0) _ HDW.out.r1 Tryd.underlying26 rfl (infoBlk _ (blk_size HHL.out.1 HHL.out.2 _ _ _)) ?_)
      refine (right_any _ D qi ki ci _ HBK.out).mono ?_
      rintro e x10 ⟨rfl, hb10⟩
      rw [HRT.out]
      have hdw10 := HDW.out.below hb10
      have hbk10 := HBK.out.below hb10
      have how10 := own_touch HOW.out (Turns.of_below (S := fun _ => False) hb10) (fun _ _ h => h)
      clear hb10 HDW HBK HOW
      have HDW := Lib.hid hdw10
      have HBK := Lib.hid hbk10
      have HOW := Lib.hid how10
      clear hdw10 hbk10 how10
      go_wp2_with (first
        | refine Rdr.wpList_build rfl 26 _ rfl [] rfl _ build_b0 ?_
        | refine wpList_store_row rfl 26 _ _ rfl w.heap.size (blkA zeros zeros none 0 0) rfl rfl 26 (blkA zeros zeros none 0 0) HDW.out.r0 (infoBlk _ rfl) rfl (blk_one _ _ _ _ _) ?_)
      have HS := Lib.hid (setRow_heap _ _ _ (blkA zeros zeros none 0 0) _ _ HDW.out.r0)
      refine bodyPost_ret (results_cell_tmp2 rfl _ _ _ _ _ _ _ rfl HS.out Tryd.underlying26 rfl (infoBlk _ rfl)) rfl ?_
      exact HBAD.out _ (below_setRow HDW.out.low (Nat.le_refl _) _)
  · have z1 : (ev == 0) = false := by rw [beq_eq_false_iff_ne]; exact h0
    have z2 : (ev != 0) = true := by simp [h0]
    have hq := HQ0.out h0
    clear h0 HQ0 HQ1 HQ2
    subst hq
    have HBAD : Hid (∀ w', Below w.heap.size w w' → DecP BlkD.zero ev w (.returned (.tuple #[.agg (blkA zeros zeros none 0 0), .int .i64 ev])) w') := fun w' hb => ⟨_, _, _, _, rfl, HZW.out _, hb⟩
    go_enter Tryd.func14, Tryd.ntmps14
    go_upto_region 1 with fail
    generalize w.alloc (.cells (blkA zeros zeros none 0 0) 26) = w1 at *
    go_wp2_with fail
    refine (Rdr.new_any w1 _ _ _ l (HBS.out.below HZB.out) (by omega)).mono ?_
    rintro e w2 ⟨rb, rfl, hr2, hb2⟩
    have HR2 := Lib.hid hr2
    have HB2 := Lib.hid hb2
    clear hr2 hb2
    go_wp2_with fail
    refine (HI1.out _ _ _ HR2.out).mono ?_
    rintro e w3 ⟨rfl, hl3⟩
    have HL3 := Lib.hid hl3
    clear hl3
    go_wp2_with fail
    refine (HI2.out _ _ _ HL3.out.there).mono ?_
    rintro e w4 ⟨rfl, hl4⟩
    have HL4 := Lib.hid hl4
    clear hl4
    go_upto_region 3 with (first
      | ((with_reducible refine wpAt 13 ?_); refine Rdr.wpList_build rfl 26 _ rfl [(0, .agg (idA h1)), (1, .agg (idA h2))] rfl _ (build_blk _ _ HHL.out.1 HHL.out.2) ?_)
      | ((with_reducible refine wpStoreAt 5 ?_); refine wpList_store_row rfl 26 _ _ rfl w4.heap.size (blkA h1 h2 none 0 0) rfl rfl 26 (blkA zeros zeros none 0 0) (heap_alloc_last _ _) (infoBlk _ (blk_size HHL.out.1 HHL.out.2 _ _ _)) (by rw [blk_size HHL.out.1 HHL.out.2]; rfl) (blk_one _ _ _ _ _) ?_))
    simp only [Act.put]
    have hdw : DWB w w1.heap.size rb w4.heap.size s2 h1 h2 none 0 0 ((w4.alloc (.cells (blkA zeros zeros none 0 0) 26)).setRow w4.heap.size (blkA h1 h2 none 0 0)) := by
      have hb4 : Below w4.heap.size w4 ((w4.alloc (.cells (blkA zeros zeros none 0 0) 26)).setRow w4.heap.size (blkA h1 h2 none 0 0)) := below_setRow (Below.allocs _ _) (Nat.le_refl _) _
      have hs1 := HZS.out
      have hs2 := HB2.out.size
      have hs3 := HL3.out.turn.size
      have hs4 := HL4.out.turn.size
      obtain ⟨v, bv, hr⟩ := HR2.out
      have hlow := hr.low
      have hlt := hr.lt
      have hb13 : Below w1.heap.size w1 w3 := HB2.out.trans (HL3.out.turn.below hs2 (fun i hi => by omega))
      have hb14 : Below w1.heap.size w1 w4 := hb13.trans (HL4.out.turn.below (by omega) (fun i hi => by omega))
      have hb15 : Below w1.heap.size w1 _ := hb14.trans (hb4.mono hb14.size)
      exact ⟨HL4.out.there.below hb4, Below.keepOld hb15 HZR.out, setRow_heap _ _ _ _ _ _ (heap_alloc_last _ _), HZB.out.trans (hb15.mono (by omega)), ⟨by omega, by omega, by omega⟩, HHL.out⟩
    generalize (w4.alloc (.cells (blkA zeros zeros none 0 0) 26)).setRow w4.heap.size (blkA h1 h2 none 0 0) = w5 at *
    generalize w4.heap.size = bb at *
    have HDW := Lib.hid hdw
    clear hdw HL3 HL4 HR2 HB2
    go_wp2_with fail
    refine (HCN.out _ _ _ HDW.out.rd).mono ?_
    rintro e w6 ⟨rfl, hl6⟩
    have hdw := HDW.out.left hl6
    clear HDW hl6
    have HDW := Lib.hid hdw
    clear hdw
    go_wp2_with fail
    refine (HID.out _ _ _ HDW.out.rd).mono ?_
    rintro e w7 ⟨qi, ki, ci, hki, rfl, ho7, hl7⟩
    have hdw := HDW.out.left hl7
    have HSZ : Hid (w.heap.size ≤ w6.heap.size) := HDW.out.low.size
    have HSM : Hid (bb < w6.heap.size) := (Array.getElem?_eq_some_iff.1 HDW.out.r1).1
    have c64 : w7.cell? ⟨bb, 64, none⟩ = some (.slice none 0 0) := by
      have := range_row hdw.r1 (bytesV h1 ++ bytesV h2) [Value.slice none 0 0] [] (by rw [blkA_toList]; simp)
      rw [List.length_append, bytesV_length, bytesV_length, hdw.len.1, hdw.len.2] at this
      exact this 0 _ rfl
    have f64 := frozen_of_row _ _ 64 _ _ hdw.r1
    have hdw2 := hdw.set qi ki ci
    have HOW : Hid ((w7.setCell ⟨bb, 64, none⟩ (.slice qi ki ci)).ownsRow w6.heap.size 23 32 (.slice qi ki ci) ki (bytesV B)) :=
      own_touch ho7 ((Turns.refl (fun k => k = bb) w7).setCell (p := ⟨bb, 64, none⟩) (fun _ => rfl) _) (fun k hk e => by have := (ho7.lt k hk).1; have := HSM.out; omega)
    have HKI := Lib.hid hki
    clear HDW hl7 hdw ho7 hki
    have HDW := Lib.hid hdw2
    clear hdw2
    go_upto_region 4 with fail
    generalize w7.setCell ⟨bb, 64, none⟩ (.slice qi ki ci) = w8 at *
    clear c64 f64
    have HBK : Hid (BlkAt w8 (blkA h1 h2 qi ki ci) D qi ki ci) := by
      have h9 := is_chunks HOW.out HKI.out
      have h8 := HDD.out
      have hk9 : B.length / 32 = ki := by rw [HKI.out]; omega
      rw [hk9] at h8
      rw [h8]
      exact ⟨rfl, HHL.out.1, HHL.out.2, h9⟩
    have HE9 := Lib.hid (HE.out.below HDW.out.low HE.out.lt)
    go_wp2_with fail
    refine (Rdr.done_any _ HDW.out.rd HE9.out).mono ?_
    rintro e x9 ⟨rfl, hb9⟩
    rw [HDN.out]
    have hdw9 := HDW.out.below hb9
    have hbk9 := HBK.out.below hb9
    have how9 := own_touch HOW.out (Turns.of_below (S := fun _ => False) hb9) (fun _ _ h => h)
    clear hb9 HDW HE9 HBK HOW
    have HDW := Lib.hid hdw9
    have HBK := Lib.hid hbk9
    have HOW := Lib.hid how9
    clear hdw9 hbk9 how9
    go_wp2_with (first
      | refine Rdr.wpList_build rfl 26 _ rfl [] rfl _ build_b0 ?_
      | refine wpList_store_row rfl 26 _ _ rfl w.heap.size (blkA zeros zeros none 0 0) rfl rfl 26 (blkA zeros zeros none 0 0) HDW.out.r0 (infoBlk _ rfl) rfl (blk_one _ _ _ _ _) ?_)
    have HS := Lib.hid (setRow_heap _ _ _ (blkA zeros zeros none 0 0) _ _ HDW.out.r0)
    refine bodyPost_ret (results_cell_tmp2 rfl _ _ _ _ _ _ _ rfl HS.out Tryd.underlying26 rfl (infoBlk _ rfl)) rfl ?_
    exact HBAD.out _ (below_setRow HDW.out.low (Nat.le_refl _) _)
end Go.Proofs.YtdaigkcbmdcbcaaDoor.Blk
