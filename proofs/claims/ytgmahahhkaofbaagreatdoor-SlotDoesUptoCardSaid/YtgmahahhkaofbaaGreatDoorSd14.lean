/- PARTS, JOINED: THE LAW OF SLOTS: step: one call both ways. Conditions: sizes that fit. THE LAW OF SLOTS: like: slots, and their disk, stand as the document's. Conditions: none. -/
import Derived.Test.YtgmahahhkaofbaaGreatDoorSd1
import Derived.Test.YtgmahahhkaofbaaGreatDoorSd2
import Derived.Test.YtgmahahhkaofbaaGreatDoorSd3
import Derived.Test.YtgmahahhkaofbaaGreatDoorSd4
import Derived.Test.YtgmahahhkaofbaaGreatDoorSd5
import Derived.Test.YtgmahahhkaofbaaGreatDoorSd6
import Derived.Test.YtgmahahhkaofbaaGreatDoorSd7
import Derived.Test.YtgmahahhkaofbaaGreatDoorSd8
import Derived.Test.YtgmahahhkaofbaaGreatDoorSd9
import Derived.Test.YtgmahahhkaofbaaGreatDoorSd10
import Derived.Test.YtgmahahhkaofbaaGreatDoorSd11
import Derived.Test.YtgmahahhkaofbaaGreatDoorSd12
import Derived.Test.YtgmahahhkaofbaaGreatDoorSd13
namespace Go.Proofs.YtgmahahhkaofbaaGreatDoor.Slt
open Go.RowKit Go.Mir Go.Mir.Parts Dk Rol Rk Wr

set_option maxRecDepth 100000 in
set_option maxHeartbeats 12800000 in
theorem step21_any {base db sb N : Nat} {d : DD} {s : SS} {ts : List RF} {p : Option Addr} {c : Nat} (o : SOp) (pb : Option Addr) (cb : Nat) (W w : World) (hW : Below W.heap.size W w) (hWb : W.heap.size ≤ base) (hE : Rdr.EType w) (hEb : 0 < base) (hS : SX base sb db 1 2 d s w) (hR : RDB w ts d) (hB : RBs w p s.body.length c s.body)
    (hb : Bs W pb o.b.length cb o.b) (hbl : o.b.length ≤ 1000) (hn : -9223372036854775808 ≤ o.n ∧ o.n ≤ 9223372036854775807) (hm : -9223372036854775808 ≤ o.m ∧ o.m ≤ 9223372036854775807) (hfew : FewD d N) (hN : N ≤ 100000) (hbo : BodyOk s) :
    Calls Tryz.prog 12 #[.pointer (some ⟨db, 0, none⟩), .pointer (some ⟨sb, 0, none⟩), .agg (rdA ts d), .agg (rsA 1 2 s p c), .agg (sopA o pb cb)] w (StepS base db N w) := by
  have hz := zeroD
  have hz2 := zeroRS
  obtain ⟨q1, q2, q3⟩ := five_boxes w (rdA ts d) (rsA 1 2 s p c) (sopA o pb cb)
  have HSBQ := Lib.hid q1
  have HLOW := Lib.hid q2
  have HSZ := Lib.hid q3
  have HWW := Lib.hid (hW.trans (q2.mono hW.size))
  have HSQ := Lib.hid (hS.below q2)
  have HR := Lib.hid (hR.below q2)
  have HBB := Lib.hid (hB.below q2)
  have HBY := Lib.hid hb
  have HWB := Lib.hid hWb
  have HEQ := Lib.hid (hE.below q2 hE.lt)
  have HEB := Lib.hid hEb
  have HBL := Lib.hid hbl
  have HNB := Lib.hid hn
  have HMB := Lib.hid hm
  have HFEW := Lib.hid hfew
  have HN := Lib.hid hN
  have HBO := Lib.hid hbo
  have HLB0 : Hid (base ≤ w.heap.size) := hS.dx.1
  have HUR := Lib.hid (show usedL d.fs ≤ d.room from hS.dx.room.2.2)
  have HN30 := Lib.hid hR.n3
  have HM30 := Lib.hid hR.m3
  obtain ⟨hc0, hc1, hc2, hc3⟩ := sopA_cell q1.r2
  clear q1 q2 q3 hW hS hR hB hb hWb hE hEb hbl hn hm hfew hN hbo
  go_enter Tryz.func12, Tryz.ntmps12
  go_upto_region 2 with fail
  generalize ((((w.alloc (.cells (rdA ts d) 37)).alloc (.cells (rsA 1 2 s p c) 46)).alloc (.cells (sopA o pb cb) 51)).alloc (.cells zD 37)).alloc (.cells zS 46) = w5 at *
  have HBS : Hid (base ≤ w5.heap.size) := HSQ.out.dx.1
  have HKQ : Hid (KS base w w5) := KS.of_below HLOW.out
  by_cases n0 : o.kind = 0
  · have m0 : (o.kind == 0) = true := beq_iff_eq.2 n0
    clear n0 hc0 hc1 hc2
    have hp := sput_any (N := N) w5 HSQ.out (by omega) (by omega) pb cb o.b (fun w' hk => HBY.out.below (HWW.out.trans (((KS.of_kt hk).below HBS.out).mono HWB.out))) (by have := HBL.out; omega) (by have := HN.out; omega) (fun j => fewfd HFEW.out)
    unfold SPutP at hp
    have HP := Lib.hid hp
    clear hp
    go_upto_region 3 with fail
    go_wp2_with fail
    refine HP.out.mono ?_
    rintro e wA ⟨rfl, hs2, hk2⟩
    have hsb := HSBQ.out.ks hk2
    have HWA := Lib.hid (HWW.out.trans ((hk2.below HBS.out).mono HWB.out))
    have hrp := rputS_any ts d s 1 2 N (by omega) (by omega) p c wA (HR.out.step (kr_of_ks hk2)) (HBB.out.step (kr_of_ks hk2)) ⟨HUR.out, HFEW.out⟩ (by have := HN.out; omega) pb o.b cb (HBY.out.below HWA.out) (by have := HBL.out; omega) HSQ.out.turn
    unfold RPuP at hrp
    have HFD9 : Hid (FewD (putSD d s 1 2 o.b) (N + 4)) := few_putSD HFEW.out
    have HBO9 : Hid (BodyOk (putSS d s 1 2 o.b)) := HBO.out.put HBL.out
    have HRP := Lib.hid hrp
    have HSBA := Lib.hid hsb
    have HSXA := Lib.hid hs2
    have HKA := Lib.hid (HKQ.out.trans hk2)
    have HSZA : Hid (w.heap.size + 5 ≤ wA.heap.size) := by show _ ≤ _; have := hk2.size; have := HSZ.out; omega
    obtain ⟨_, _, _, hc3'⟩ := sopA_cell hsb.r2
    clear hrp hsb hs2 hk2 hc3 HP HSBQ HSQ HR HBB HBY HKQ HLOW HSZ HWW
    generalize putSE d s 1 2 o.b = E9 at *
    generalize putSD d s 1 2 o.b = D9 at *
    generalize putSS d s 1 2 o.b = S9 at *
    have hqe : ((E9 : Int) == E9) = true := beq_self_eq_true _
    go_upto_region 4 with fail
    go_wp2_with (first
      | refine wpList_load_row rfl 37 _ rfl w.heap.size rfl 37 (rdA ts d) (0, 0) _ HSBA.out.r0 Tryz.underlying37 rfl (infoRD _ (rdA_size HN30.out HM30.out)) ?_
      | refine wpList_load_row rfl 46 _ rfl (w.heap.size + 1) rfl 46 (rsA 1 2 s p c) (0, 0) _ HSBA.out.r1 Tryz.underlying46 rfl (infoRS _ rfl) ?_)
    refine HRP.out.mono ?_
    rintro e wB ⟨T, q, k, rfl, hrd, hrb, hbB⟩
    obtain ⟨a1, a2, a3, a4⟩ := two_allocs wB (.cells zD 37) (.cells zS 46)
    have hb2 := hbB.trans (a4.mono hbB.size)
    have A1 := Lib.hid a1
    have hr2 : ((((wB.alloc (.cells zD 37)).alloc (.cells zS 46)).setRow wB.heap.size (rdA T D9))).heap[wB.heap.size + 1]? = some (.cells zS 46 (0, 0)) := by rw [setRow_other _ _ _ _ (by omega)]; exact a2
    have A2 := Lib.hid hr2
    have HRD := Lib.hid (hrd.below a4)
    have k1 := kr_turn (base := 0) (turns_setRow ((wB.alloc (.cells zD 37)).alloc (.cells zS 46)) wB.heap.size (rdA T D9)) a1 (by decide) (by decide)
    have k2 := k1.trans (kr_turn (base := 0) (turns_setRow ((((wB.alloc (.cells zD 37)).alloc (.cells zS 46)).setRow wB.heap.size (rdA T D9))) (wB.heap.size + 1) (rsA 1 2 S9 q k)) hr2 (by decide) (by decide))
    have HRX := Lib.hid ((hrd.below a4).step k2)
    have HBX := Lib.hid ((hrb.below a4).step k2)
    have h1 : ((((wB.alloc (.cells zD 37)).alloc (.cells zS 46)).setRow wB.heap.size (rdA T D9)).setRow (wB.heap.size + 1) (rsA 1 2 S9 q k)).heap[wB.heap.size]? = some (.cells (rdA T D9) 37 (0, 0)) := by
      rw [setRow_other _ _ _ _ (by omega)]; exact setRow_heap _ _ _ _ _ _ a1
    have H1 := Lib.hid h1
    have H2 := Lib.hid (setRow_heap _ _ _ (rsA 1 2 S9 q k) _ _ hr2)
    have hbX := below_setRow (below_setRow hb2 (show wA.heap.size ≤ wB.heap.size from hbB.size) (rdA T D9)) (show wA.heap.size ≤ wB.heap.size + 1 by have := hbB.size; omega) (rsA 1 2 S9 q k)
    have HSBX := Lib.hid (HSBA.out.below hbX)
    have HSX := Lib.hid (HSXA.out.below hbX)
    have HKX := Lib.hid (HKA.out.next hbX)
    have HN1 : Hid (wB.heap.size ≠ w.heap.size + 3 ∧ wB.heap.size ≠ w.heap.size + 4) := ⟨by have := HSZA.out; have := hbB.size; omega, by have := HSZA.out; have := hbB.size; omega⟩
    have HN2 : Hid (wB.heap.size + 1 ≠ w.heap.size + 3 ∧ wB.heap.size + 1 ≠ w.heap.size + 4) := ⟨by have := HSZA.out; have := hbB.size; omega, by have := HSZA.out; have := hbB.size; omega⟩
    clear hrd hrb hbB a1 a2 a3 a4 hb2 hr2 k1 k2 h1 hbX HSBA HSXA HKA HRP
    go_upto_region 5 with (first
      | refine wpList_store_row rfl 37 _ _ rfl wB.heap.size (rdA T D9) rfl rfl 37 zD A1.out (infoRD _ (rdA_size HRD.out.n3 HRD.out.m3)) (by rw [rdA_size HRD.out.n3 HRD.out.m3]; rfl) (rdA_one HRD.out.n3 HRD.out.m3) ?_
      | refine wpList_store_row rfl 46 _ _ rfl (wB.heap.size + 1) (rsA 1 2 S9 q k) rfl rfl 46 zS A2.out (infoRS _ rfl) rfl (rsA_one _ _ _ _ _) ?_)
    try simp only [Act.put, List.setIfInBounds_toArray, List.set_cons_zero, List.set_cons_succ]
    clear A1 A2 HRD hc3'
    generalize (((wB.alloc (.cells zD 37)).alloc (.cells zS 46)).setRow wB.heap.size (rdA T D9)).setRow (wB.heap.size + 1) (rsA 1 2 S9 q k) = wX at *
    skip
    -- the results: world wX; HSBX : Hid (SB w .. wX); the disk's box wB.heap.size (row H1), the slots' box wB.heap.size + 1 (row H2); HN1 HN2: they are no result boxes; HSX HRX HBX HKX what stands; region 5, its tree .take 0 (.take 1 (.take 2 (.take 3 (.take 4 (.take 5 (.one 6 (.one 7 (.one 8 (.one 9 .nil)))))))))
    have HLA : Hid (∀ w', S2 base w.heap.size wX w' → w'.rangeAt (wB.heap.size) 0 (rdA T D9).toList) := fun w' hb => row_rangeR (S2.row hb H1.out (by decide) (by decide) (by decide) HN1.out)
    have HLB : Hid (∀ w', S2 base w.heap.size wX w' → w'.rangeAt (wB.heap.size + 1) 0 (rsA 1 2 S9 q k).toList) := fun w' hb => row_rangeR (S2.row hb H2.out (by decide) (by decide) (by decide) HN2.out)
    have HN3 := Lib.hid HRX.out.n3
    have HM3 := Lib.hid HRX.out.m3
    go_upto_region 5 with fail
    refine wp_region_tree (S2 base w.heap.size wX) (.take 0 (.take 1 (.take 2 (.take 3 (.take 4 (.take 5 (.one 6 (.one 7 (.one 8 (.one 9 .nil)))))))))) (by kernel_rfl) (by kernel_rfl) (S2.of_ks (KS.of_below (below_drew1 _ _))) ?_
    have hy0 : Below wX.heap.size wX wX.drew := below_drew1 _ _
    have hsb := HSBX.out.below hy0
    have hS0 : S2 base w.heap.size wX wX.drew := S2.of_ks (KS.of_below hy0)
    have hfin := fin21 hsb (HSX.out.below hy0) (HRX.out.below hy0) (HBX.out.below hy0) (HKX.out.next hy0)
    clear hy0 HSBX HSX HRX HBX HKX
    generalize wX.drew = wD at *
    repeat (first
      | (refine tree_load rfl (by rfl) 37 _ rfl (wB.heap.size) 0 rfl (rdA T D9) _ (fun w' hb => HLA.out w' hb) Tryz.underlying37 rfl (infoRD _ (rdA_size HN3.out HM3.out)) ?_; try simp only [Act.put, List.setIfInBounds_toArray, List.set_cons_zero, List.set_cons_succ])
      | (refine tree_load rfl (by rfl) 46 _ rfl (wB.heap.size + 1) 0 rfl (rsA 1 2 S9 q k) _ (fun w' hb => HLB.out w' hb) Tryz.underlying46 rfl (infoRS _ rfl) ?_; try simp only [Act.put, List.setIfInBounds_toArray, List.set_cons_zero, List.set_cons_succ])
      | (apply tree_take; (· rfl); (· rfl); (· (intro w' hb'; go_simp; try with_reducible rfl)); try simp only [Act.put, List.setIfInBounds_toArray, List.set_cons_zero, List.set_cons_succ]))
    clear HLA HLB H1 H2 HN1 HN2
    skip
    -- from the result's first assign: world WD, boxes hsb : SB w .. WD, hS0 : S2 base w.heap.size wX WD, hfin: what fin21 says (disk D9, T; slots S9, q, k)
    refine tree_one rfl (by rfl) (fun K hK => ?_)
    go_simp
    refine Shut.out hK _ _ hS0 ?_
    clear hK K
    try simp only [Act.put, List.setIfInBounds_toArray, List.set_cons_zero, List.set_cons_succ]
    obtain ⟨f3, f4, fs, fr, fb, fk, fz⟩ := hfin
    refine tree_one rfl (by rfl) (fun K hK => oper_of_list rfl ?_)
    refine wpList_store_row rfl 37 _ _ rfl (w.heap.size + 3) (rdA T D9) rfl rfl 37 zD hsb.r3 (infoRD _ (rdA_size HN3.out HM3.out)) (by rw [rdA_size HN3.out HM3.out]; rfl) (rdA_one HN3.out HM3.out) ?_
    have hS1 := S2.set (A := rdA T D9) hS0 (.inl rfl)
    refine only_end (Shut.out hK _ _ hS1 ?_)
    clear hK K
    try simp only [Act.put]
    refine tree_one rfl (by rfl) (fun K hK => oper_of_list rfl ?_)
    refine wpList_store_row rfl 46 _ _ rfl (w.heap.size + 4) (rsA 1 2 S9 q k) rfl rfl 46 zS fz (infoRS _ rfl) rfl (rsA_one _ _ _ _ _) ?_
    have hS2 := S2.set (A := rsA 1 2 S9 q k) hS1 (.inr rfl)
    refine only_end (Shut.out hK _ _ hS2 ?_)
    clear hK K
    try simp only [Act.put]
    refine tree_one rfl (by rfl) (fun K hK => ?_)
    go_simp
    refine Shut.out hK _ _ hS2 ?_
    clear hK K
    try simp only [Act.put, List.setIfInBounds_toArray, List.set_cons_zero, List.set_cons_succ]
    refine tree_nil ?_
    go_wp2_with fail
    refine bodyPost_ret (results_tcct rfl _ _ _ _ _ _ _ _ _ _ _ _ rfl rfl f3 f4 Tryz.underlying37 rfl (infoRD _ (rdA_size HN3.out HM3.out)) Tryz.underlying46 rfl (infoRS _ rfl)) rfl ?_
    exact ⟨D9, S9, sb, T, q, k, rfl, fs, fr, fb, fk, HFD9.out, HBO9.out⟩
  have m0 : (o.kind == 0) = false := beq_eq_false_iff_ne.2 n0
  by_cases n1 : o.kind = 1
  · have m1 : (o.kind == 1) = true := beq_iff_eq.2 n1
    clear n0 n1 hc0 hc1 hc2 hc3
    have HCX : Hid (∀ y, Below w5.heap.size w5 y → Calls Tryz.prog 7 #[.pointer (some ⟨db, 0, none⟩), .int .i64 (wh o.n : Int), .slice pb o.b.length cb] y (StP base db (doE d (wh o.n) (fD d (wh o.n)) (.put o.b)) (doD d (wh o.n) (fD d (wh o.n)) (.put o.b)) y)) :=
      fun y hy => xappend y (HSQ.out.dx.below hy) (wh o.n) (wh_lt _) pb o.b.length cb o.b (HBY.out.below (HWW.out.trans (hy.mono HWW.out.size))) (by have := HBL.out; omega) (by have := fewfd (i := wh o.n) HFEW.out; have := HN.out; omega)
    skip
    -- what a tree may read, from world w5 with boxes HSBQ : Hid (SB w (rdA ts d) (rsA 1 2 s p c) (sopA o pb cb) w5)
    have HLD : Hid (∀ w', S2 base w.heap.size w5 w' → w'.rangeAt w.heap.size 0 (rdA ts d).toList) := fun w' hb => row_rangeR (S2.row hb HSBQ.out.r0 (by decide) (by decide) (by decide) (by omega))
    have HLS : Hid (∀ w', S2 base w.heap.size w5 w' → w'.rangeAt (w.heap.size + 1) 0 (rsA 1 2 s p c).toList) := fun w' hb => row_rangeR (S2.row hb HSBQ.out.r1 (by decide) (by decide) (by decide) (by omega))
    have HD1 : Hid (∀ w', S2 base w.heap.size w5 w' → w'.cell? ⟨w.heap.size + 2, 1, none⟩ = some (.int .i64 o.n)) := fun w' hb => (sopA_cell (S2.row hb HSBQ.out.r2 (by decide) (by decide) (by decide) (by omega))).2.1
    have HD3 : Hid (∀ w', S2 base w.heap.size w5 w' → w'.cell? ⟨w.heap.size + 2, 3, none⟩ = some (.slice pb o.b.length cb)) := fun w' hb => (sopA_cell (S2.row hb HSBQ.out.r2 (by decide) (by decide) (by decide) (by omega))).2.2.2
    go_upto_region 7 with fail
    refine wp_region_tree (S2 base w.heap.size w5) (.take 0 (.take 1 (.take 2 (.take 4 (.take 5 (.one 3 (.one 6 (.one 7 .nil)))))))) (by kernel_rfl) (by kernel_rfl) (S2.of_ks (KS.of_below (below_drew1 _ _))) ?_
    have hy0 : Below w5.heap.size w5 w5.drew := below_drew1 _ _
    skip
    repeat (first
      | (refine tree_load rfl (by rfl) 37 _ rfl w.heap.size 0 rfl (rdA ts d) _ (fun w' hb => HLD.out w' hb) Tryz.underlying37 rfl (infoRD _ (rdA_size HN30.out HM30.out)) ?_; try simp only [Act.put, List.setIfInBounds_toArray, List.set_cons_zero, List.set_cons_succ])
      | (refine tree_load rfl (by rfl) 46 _ rfl (w.heap.size + 1) 0 rfl (rsA 1 2 s p c) _ (fun w' hb => HLS.out w' hb) Tryz.underlying46 rfl (infoRS _ rfl) ?_; try simp only [Act.put, List.setIfInBounds_toArray, List.set_cons_zero, List.set_cons_succ])
      | (apply tree_take; (· rfl); (· rfl); (· (intro w' hb'; go_simp; try with_reducible rfl)); try simp only [Act.put, List.setIfInBounds_toArray, List.set_cons_zero, List.set_cons_succ])
      | (apply tree_take; (· rfl); (· rfl); (· (intro w' hb'; have hk' := (HD1.out) w' hb'; go_simp; try with_reducible rfl)); try simp only [Act.put, List.setIfInBounds_toArray, List.set_cons_zero, List.set_cons_succ])
      | (apply tree_take; (· rfl); (· rfl); (· (intro w' hb'; have hk' := (HD3.out) w' hb'; go_simp; try with_reducible rfl)); try simp only [Act.put, List.setIfInBounds_toArray, List.set_cons_zero, List.set_cons_succ]))
    skip
    -- the call of which in a tree: hS at the world
    refine tree_one rfl (by rfl) (fun K hK => ?_)
    go_simp
    refine (which_any o.n HNB.out _).mono ?_
    rintro e y ⟨rfl, rfl⟩
    refine Shut.out hK _ _ (S2.of_ks (KS.of_below hy0)) ?_
    clear hK K
    try simp only [Act.put, List.setIfInBounds_toArray, List.set_cons_zero, List.set_cons_succ]
    refine tree_one rfl (by rfl) (fun K hK => ?_)
    go_simp
    refine (HCX.out _ hy0).mono ?_
    rintro e wA ⟨rfl, hdx, hkt⟩
    have hka : KS base w5 wA := (KS.of_below hy0).trans (KS.of_kt hkt)
    refine Shut.out hK _ _ (S2.of_ks hka) ?_
    clear hK K
    try simp only [Act.put, List.setIfInBounds_toArray, List.set_cons_zero, List.set_cons_succ]
    refine tree_one rfl (by rfl) (fun K hK => ?_)
    go_simp
    refine Shut.out hK _ _ (S2.of_ks hka) ?_
    clear hK K
    try simp only [Act.put, List.setIfInBounds_toArray, List.set_cons_zero, List.set_cons_succ]
    refine tree_nil ?_
    clear HLD HLS HD1 HD3 HCX
    have HSXA := Lib.hid ((HSQ.out.below hy0).kt hkt hdx)
    have hsbq := HSBQ.out.ks hka
    clear HSBQ
    have HSBQ := Lib.hid hsbq
    have HBA := Lib.hid (HBB.out.step (kr_of_ks hka))
    have HKA := Lib.hid (HKQ.out.trans hka)
    have HRA := Lib.hid (HR.out.step (kr_of_ks hka))
    have HSZA : Hid (w.heap.size + 5 ≤ wA.heap.size) := by show _ ≤ _; have := hka.size; have := HSZ.out; omega
    have HWA := Lib.hid (HWW.out.trans ((hka.below HBS.out).mono HWB.out))
    have HCR : Hid (∀ y, Below wA.heap.size wA y → Calls Tryz.prog 8 #[.agg (rdA ts d), .int .i64 (wh o.n : Int), .slice pb o.b.length cb] y (ROut (doD d (wh o.n) (fD d (wh o.n)) (.put o.b)) (doE d (wh o.n) (fD d (wh o.n)) (.put o.b)) y)) :=
      fun y hy => rput_in ts d (wh o.n) (wh_lt _) pb o.b cb y (HRA.out.below hy) HUR.out (HBY.out.below (HWA.out.trans (hy.mono HWA.out.size))) (by have := HBL.out; omega) (by have := fewfd (i := wh o.n) HFEW.out; have := HN.out; omega)
    have HFD9 : Hid (FewD (doD d (wh o.n) (fD d (wh o.n)) (.put o.b)) (N + 4)) := FewD.mono (HFEW.out.doD (fewfd HFEW.out)) (by omega)
    have HBO9 := HBO
    clear hsbq hka hdx hkt hy0 HSQ HKQ HBB HR HWW HLOW HSZ
    generalize doD d (wh o.n) (fD d (wh o.n)) (.put o.b) = D9 at *
    generalize doE d (wh o.n) (fD d (wh o.n)) (.put o.b) = E9 at *
    skip
    -- the document's disk's call in region 8 (tree .take 0 (.take 1 (.take 2 (.take 4 (.take 5 (.two 3 10 (.two 6 10 (.take 7 (.take 8 (.take 9 (.one 10 (.one 11 (.one 12 .nil)))))) (.one 6 (.take 7 (.take 8 (.take 9 (.one 11 (.one 12 .nil))))))) (.one 3 (.one 6 (.take 7 (.take 8 (.take 9 (.one 11 (.one 12 .nil))))))))))))), at world wA
    skip
    -- what a tree may read, from world wA with boxes HSBQ : Hid (SB w (rdA ts d) (rsA 1 2 s p c) (sopA o pb cb) wA)
    have HLD : Hid (∀ w', S2 base w.heap.size wA w' → w'.rangeAt w.heap.size 0 (rdA ts d).toList) := fun w' hb => row_rangeR (S2.row hb HSBQ.out.r0 (by decide) (by decide) (by decide) (by omega))
    have HLS : Hid (∀ w', S2 base w.heap.size wA w' → w'.rangeAt (w.heap.size + 1) 0 (rsA 1 2 s p c).toList) := fun w' hb => row_rangeR (S2.row hb HSBQ.out.r1 (by decide) (by decide) (by decide) (by omega))
    have HD1 : Hid (∀ w', S2 base w.heap.size wA w' → w'.cell? ⟨w.heap.size + 2, 1, none⟩ = some (.int .i64 o.n)) := fun w' hb => (sopA_cell (S2.row hb HSBQ.out.r2 (by decide) (by decide) (by decide) (by omega))).2.1
    have HD3 : Hid (∀ w', S2 base w.heap.size wA w' → w'.cell? ⟨w.heap.size + 2, 3, none⟩ = some (.slice pb o.b.length cb)) := fun w' hb => (sopA_cell (S2.row hb HSBQ.out.r2 (by decide) (by decide) (by decide) (by omega))).2.2.2
    have hqe : ((E9 : Int) == E9) = true := beq_self_eq_true _
    go_upto_region 8 with fail
    refine wp_region_tree (S2 base w.heap.size wA) (.take 0 (.take 1 (.take 2 (.take 4 (.take 5 (.two 3 10 (.two 6 10 (.take 7 (.take 8 (.take 9 (.one 10 (.one 11 (.one 12 .nil)))))) (.one 6 (.take 7 (.take 8 (.take 9 (.one 11 (.one 12 .nil))))))) (.one 3 (.one 6 (.take 7 (.take 8 (.take 9 (.one 11 (.one 12 .nil))))))))))))) (by kernel_rfl) (by kernel_rfl) (S2.of_ks (KS.of_below (below_drew1 _ _))) ?_
    have hy0 : Below wA.heap.size wA wA.drew := below_drew1 _ _
    skip
    repeat (first
      | (refine tree_load rfl (by rfl) 37 _ rfl w.heap.size 0 rfl (rdA ts d) _ (fun w' hb => HLD.out w' hb) Tryz.underlying37 rfl (infoRD _ (rdA_size HN30.out HM30.out)) ?_; try simp only [Act.put, List.setIfInBounds_toArray, List.set_cons_zero, List.set_cons_succ])
      | (refine tree_load rfl (by rfl) 46 _ rfl (w.heap.size + 1) 0 rfl (rsA 1 2 s p c) _ (fun w' hb => HLS.out w' hb) Tryz.underlying46 rfl (infoRS _ rfl) ?_; try simp only [Act.put, List.setIfInBounds_toArray, List.set_cons_zero, List.set_cons_succ])
      | (apply tree_take; (· rfl); (· rfl); (· (intro w' hb'; go_simp; try with_reducible rfl)); try simp only [Act.put, List.setIfInBounds_toArray, List.set_cons_zero, List.set_cons_succ])
      | (apply tree_take; (· rfl); (· rfl); (· (intro w' hb'; have hk' := (HD1.out) w' hb'; go_simp; try with_reducible rfl)); try simp only [Act.put, List.setIfInBounds_toArray, List.set_cons_zero, List.set_cons_succ])
      | (apply tree_take; (· rfl); (· rfl); (· (intro w' hb'; have hk' := (HD3.out) w' hb'; go_simp; try with_reducible rfl)); try simp only [Act.put, List.setIfInBounds_toArray, List.set_cons_zero, List.set_cons_succ]))
    refine tree_two ?_ ?_
    · skip
      -- the call of which in a tree: hS at the world
      refine tree_one rfl (by rfl) (fun K hK => ?_)
      go_simp
      refine (which_any o.n HNB.out _).mono ?_
      rintro e y ⟨rfl, rfl⟩
      refine Shut.out hK _ _ (S2.of_ks (KS.of_below hy0)) ?_
      clear hK K
      try simp only [Act.put, List.setIfInBounds_toArray, List.set_cons_zero, List.set_cons_succ]
      refine tree_two ?_ ?_
      · skip
        -- the document's call in a tree, at world wA.drew with hy0 : Below wA.heap.size wA wA.drew: leaves T at yC, hrd, hyC
        refine tree_one rfl (by rfl) (fun K hK => ?_)
        go_simp
        refine (HCR.out wA.drew hy0).mono ?_
        rintro e yC ⟨T, rfl, hrd, hb⟩
        have hyC := hy0.trans (hb.mono hy0.size)
        refine Shut.out hK _ _ (S2.of_ks (KS.of_below hyC)) ?_
        clear hK K
        try simp only [Act.put, List.setIfInBounds_toArray, List.set_cons_zero, List.set_cons_succ]
        repeat (apply tree_take; (· rfl); (· rfl); (· (intro w' hb'; go_simp; try with_reducible rfl)); try simp only [Act.put, List.setIfInBounds_toArray, List.set_cons_zero, List.set_cons_succ])
        refine tree_one rfl (by rfl) (fun K hK => ?_)
        go_simp
        have hys := hyC.alloc hyC.size (.cells zD 37)
        refine Shut.out hK _ _ (S2.of_ks (KS.of_below hys)) ?_
        clear hK K
        try simp only [Act.put, List.setIfInBounds_toArray, List.set_cons_zero, List.set_cons_succ]
        have hgb := heap_alloc_last yC (.cells zD 37)
        have hgl := hyC.size
        have hrs := hrd.below (Below.allocs yC (.cells zD 37))
        clear hrd hb hyC hy0
        skip
        -- the new disk's box yC.heap.size (row hgb at yC.alloc (.cells zD 37), zero), hys : Below wA.heap.size wA yC.alloc (.cells zD 37), hrs : RDB yC.alloc (.cells zD 37) T D9; then the error's assign; then the results
        refine tree_one rfl (by rfl) (fun K hK => oper_of_list rfl ?_)
        refine wpList_store_row rfl 37 _ _ rfl (yC.heap.size) (rdA T D9) rfl rfl 37 zD hgb (infoRD _ (rdA_size hrs.n3 hrs.m3)) (by rw [rdA_size hrs.n3 hrs.m3]; rfl) (rdA_one hrs.n3 hrs.m3) ?_
        have hyT := below_setRow hys hgl (rdA T D9)
        refine only_end (Shut.out hK _ _ (S2.of_ks (KS.of_below hyT)) ?_)
        clear hK K
        try simp only [Act.put]
        refine tree_one rfl (by rfl) (fun K hK => ?_)
        go_simp
        refine Shut.out hK _ _ (S2.of_ks (KS.of_below hyT)) ?_
        clear hK K
        try simp only [Act.put, List.setIfInBounds_toArray, List.set_cons_zero, List.set_cons_succ]
        refine tree_nil ?_
        have H1 := Lib.hid (setRow_heap _ _ _ (rdA T D9) _ _ hgb)
        have HRX : Hid (RDB ((yC.alloc (.cells zD 37)).setRow (yC.heap.size) (rdA T D9)) T D9) := hrs.step (kr_turn (turns_setRow _ _ _) hgb (by decide) (by decide))
        have HSBX := Lib.hid (HSBQ.out.below hyT)
        have H2 := Lib.hid HSBX.out.r1
        have HSX := Lib.hid (HSXA.out.below hyT)
        have HBX := Lib.hid (HBA.out.below hyT)
        have HKX := Lib.hid (HKA.out.next hyT)
        have HN1 : Hid ((yC.heap.size) ≠ w.heap.size + 3 ∧ (yC.heap.size) ≠ w.heap.size + 4) := ⟨by have := HSZA.out; omega, by have := HSZA.out; omega⟩
        have HN2 : Hid (w.heap.size + 1 ≠ w.heap.size + 3 ∧ w.heap.size + 1 ≠ w.heap.size + 4) := ⟨by omega, by omega⟩
        clear hyT hys hrs hgb HSXA HBA HKA HCR HLD HLS HD1 HD3 HSBQ
        generalize (yC.alloc (.cells zD 37)).setRow (yC.heap.size) (rdA T D9) = wX at *
        skip
        -- the results: world wX; HSBX : Hid (SB w .. wX); the disk's box yC.heap.size (row H1), the slots' box w.heap.size + 1 (row H2); HN1 HN2: they are no result boxes; HSX HRX HBX HKX what stands; region 9, its tree .take 0 (.take 1 (.take 2 (.take 3 (.take 4 (.take 5 (.one 6 (.one 7 (.one 8 (.one 9 .nil)))))))))
        have HLA : Hid (∀ w', S2 base w.heap.size wX w' → w'.rangeAt (yC.heap.size) 0 (rdA T D9).toList) := fun w' hb => row_rangeR (S2.row hb H1.out (by decide) (by decide) (by decide) HN1.out)
        have HLB : Hid (∀ w', S2 base w.heap.size wX w' → w'.rangeAt (w.heap.size + 1) 0 (rsA 1 2 s p c).toList) := fun w' hb => row_rangeR (S2.row hb H2.out (by decide) (by decide) (by decide) HN2.out)
        have HN3 := Lib.hid HRX.out.n3
        have HM3 := Lib.hid HRX.out.m3
        go_upto_region 9 with fail
        refine wp_region_tree (S2 base w.heap.size wX) (.take 0 (.take 1 (.take 2 (.take 3 (.take 4 (.take 5 (.one 6 (.one 7 (.one 8 (.one 9 .nil)))))))))) (by kernel_rfl) (by kernel_rfl) (S2.of_ks (KS.of_below (below_drew1 _ _))) ?_
        have hy0 : Below wX.heap.size wX wX.drew := below_drew1 _ _
        have hsb := HSBX.out.below hy0
        have hS0 : S2 base w.heap.size wX wX.drew := S2.of_ks (KS.of_below hy0)
        have hfin := fin21 hsb (HSX.out.below hy0) (HRX.out.below hy0) (HBX.out.below hy0) (HKX.out.next hy0)
        clear hy0 HSBX HSX HRX HBX HKX
        generalize wX.drew = wD at *
        repeat (first
          | (refine tree_load rfl (by rfl) 37 _ rfl (yC.heap.size) 0 rfl (rdA T D9) _ (fun w' hb => HLA.out w' hb) Tryz.underlying37 rfl (infoRD _ (rdA_size HN3.out HM3.out)) ?_; try simp only [Act.put, List.setIfInBounds_toArray, List.set_cons_zero, List.set_cons_succ])
          | (refine tree_load rfl (by rfl) 46 _ rfl (w.heap.size + 1) 0 rfl (rsA 1 2 s p c) _ (fun w' hb => HLB.out w' hb) Tryz.underlying46 rfl (infoRS _ rfl) ?_; try simp only [Act.put, List.setIfInBounds_toArray, List.set_cons_zero, List.set_cons_succ])
          | (apply tree_take; (· rfl); (· rfl); (· (intro w' hb'; go_simp; try with_reducible rfl)); try simp only [Act.put, List.setIfInBounds_toArray, List.set_cons_zero, List.set_cons_succ]))
        clear HLA HLB H1 H2 HN1 HN2
        skip
        -- from the result's first assign: world WD, boxes hsb : SB w .. WD, hS0 : S2 base w.heap.size wX WD, hfin: what fin21 says (disk D9, T; slots s, p, c)
        refine tree_one rfl (by rfl) (fun K hK => ?_)
        go_simp
        refine Shut.out hK _ _ hS0 ?_
        clear hK K
        try simp only [Act.put, List.setIfInBounds_toArray, List.set_cons_zero, List.set_cons_succ]
        obtain ⟨f3, f4, fs, fr, fb, fk, fz⟩ := hfin
        refine tree_one rfl (by rfl) (fun K hK => oper_of_list rfl ?_)
        refine wpList_store_row rfl 37 _ _ rfl (w.heap.size + 3) (rdA T D9) rfl rfl 37 zD hsb.r3 (infoRD _ (rdA_size HN3.out HM3.out)) (by rw [rdA_size HN3.out HM3.out]; rfl) (rdA_one HN3.out HM3.out) ?_
        have hS1 := S2.set (A := rdA T D9) hS0 (.inl rfl)
        refine only_end (Shut.out hK _ _ hS1 ?_)
        clear hK K
        try simp only [Act.put]
        refine tree_one rfl (by rfl) (fun K hK => oper_of_list rfl ?_)
        refine wpList_store_row rfl 46 _ _ rfl (w.heap.size + 4) (rsA 1 2 s p c) rfl rfl 46 zS fz (infoRS _ rfl) rfl (rsA_one _ _ _ _ _) ?_
        have hS2 := S2.set (A := rsA 1 2 s p c) hS1 (.inr rfl)
        refine only_end (Shut.out hK _ _ hS2 ?_)
        clear hK K
        try simp only [Act.put]
        refine tree_one rfl (by rfl) (fun K hK => ?_)
        go_simp
        refine Shut.out hK _ _ hS2 ?_
        clear hK K
        try simp only [Act.put, List.setIfInBounds_toArray, List.set_cons_zero, List.set_cons_succ]
        refine tree_nil ?_
        go_wp2_with fail
        refine bodyPost_ret (results_tcct rfl _ _ _ _ _ _ _ _ _ _ _ _ rfl rfl f3 f4 Tryz.underlying37 rfl (infoRD _ (rdA_size HN3.out HM3.out)) Tryz.underlying46 rfl (infoRS _ rfl)) rfl ?_
        exact ⟨D9, s, sb, T, p, c, rfl, fs, fr, fb, fk, HFD9.out, HBO9.out⟩
      · refine tree_one rfl (by rfl) (fun K hK => ?_)
        go_simp
        have hy1 := hy0.alloc hy0.size (.cells zD 37)
        have hg1 : (wA.drew.alloc (.cells zD 37)).heap[wA.heap.size]? = some (.cells zD 37 (0, 0)) := heap_alloc_last wA.drew (.cells zD 37)
        refine Shut.out hK _ _ (S2.of_ks (KS.of_below hy1)) ?_
        clear hK K
        try simp only [Act.put, List.setIfInBounds_toArray, List.set_cons_zero, List.set_cons_succ]
        skip
        -- the document's call in a tree, at world (wA.drew.alloc (.cells zD 37)) with hy1 : Below wA.heap.size wA (wA.drew.alloc (.cells zD 37)): leaves T at yC, hrd, hyC
        refine tree_one rfl (by rfl) (fun K hK => ?_)
        go_simp
        refine (HCR.out (wA.drew.alloc (.cells zD 37)) hy1).mono ?_
        rintro e yC ⟨T, rfl, hrd, hb⟩
        have hyC := hy1.trans (hb.mono hy1.size)
        refine Shut.out hK _ _ (S2.of_ks (KS.of_below hyC)) ?_
        clear hK K
        try simp only [Act.put, List.setIfInBounds_toArray, List.set_cons_zero, List.set_cons_succ]
        repeat (apply tree_take; (· rfl); (· rfl); (· (intro w' hb'; go_simp; try with_reducible rfl)); try simp only [Act.put, List.setIfInBounds_toArray, List.set_cons_zero, List.set_cons_succ])
        have hgb := Below.keepOld hb hg1
        have hys := hyC
        have hgl := Nat.le_refl wA.heap.size
        have hrs := hrd
        clear hrd hb hyC hy0 hy1 hg1
        skip
        -- the new disk's box wA.heap.size (row hgb at yC, zero), hys : Below wA.heap.size wA yC, hrs : RDB yC T D9; then the error's assign; then the results
        refine tree_one rfl (by rfl) (fun K hK => oper_of_list rfl ?_)
        refine wpList_store_row rfl 37 _ _ rfl (wA.heap.size) (rdA T D9) rfl rfl 37 zD hgb (infoRD _ (rdA_size hrs.n3 hrs.m3)) (by rw [rdA_size hrs.n3 hrs.m3]; rfl) (rdA_one hrs.n3 hrs.m3) ?_
        have hyT := below_setRow hys hgl (rdA T D9)
        refine only_end (Shut.out hK _ _ (S2.of_ks (KS.of_below hyT)) ?_)
        clear hK K
        try simp only [Act.put]
        refine tree_one rfl (by rfl) (fun K hK => ?_)
        go_simp
        refine Shut.out hK _ _ (S2.of_ks (KS.of_below hyT)) ?_
        clear hK K
        try simp only [Act.put, List.setIfInBounds_toArray, List.set_cons_zero, List.set_cons_succ]
        refine tree_nil ?_
        have H1 := Lib.hid (setRow_heap _ _ _ (rdA T D9) _ _ hgb)
        have HRX : Hid (RDB ((yC).setRow (wA.heap.size) (rdA T D9)) T D9) := hrs.step (kr_turn (turns_setRow _ _ _) hgb (by decide) (by decide))
        have HSBX := Lib.hid (HSBQ.out.below hyT)
        have H2 := Lib.hid HSBX.out.r1
        have HSX := Lib.hid (HSXA.out.below hyT)
        have HBX := Lib.hid (HBA.out.below hyT)
        have HKX := Lib.hid (HKA.out.next hyT)
        have HN1 : Hid ((wA.heap.size) ≠ w.heap.size + 3 ∧ (wA.heap.size) ≠ w.heap.size + 4) := ⟨by have := HSZA.out; omega, by have := HSZA.out; omega⟩
        have HN2 : Hid (w.heap.size + 1 ≠ w.heap.size + 3 ∧ w.heap.size + 1 ≠ w.heap.size + 4) := ⟨by omega, by omega⟩
        clear hyT hys hrs hgb HSXA HBA HKA HCR HLD HLS HD1 HD3 HSBQ
        generalize (yC).setRow (wA.heap.size) (rdA T D9) = wX at *
        skip
        -- the results: world wX; HSBX : Hid (SB w .. wX); the disk's box wA.heap.size (row H1), the slots' box w.heap.size + 1 (row H2); HN1 HN2: they are no result boxes; HSX HRX HBX HKX what stands; region 9, its tree .take 0 (.take 1 (.take 2 (.take 3 (.take 4 (.take 5 (.one 6 (.one 7 (.one 8 (.one 9 .nil)))))))))
        have HLA : Hid (∀ w', S2 base w.heap.size wX w' → w'.rangeAt (wA.heap.size) 0 (rdA T D9).toList) := fun w' hb => row_rangeR (S2.row hb H1.out (by decide) (by decide) (by decide) HN1.out)
        have HLB : Hid (∀ w', S2 base w.heap.size wX w' → w'.rangeAt (w.heap.size + 1) 0 (rsA 1 2 s p c).toList) := fun w' hb => row_rangeR (S2.row hb H2.out (by decide) (by decide) (by decide) HN2.out)
        have HN3 := Lib.hid HRX.out.n3
        have HM3 := Lib.hid HRX.out.m3
        go_upto_region 9 with fail
        refine wp_region_tree (S2 base w.heap.size wX) (.take 0 (.take 1 (.take 2 (.take 3 (.take 4 (.take 5 (.one 6 (.one 7 (.one 8 (.one 9 .nil)))))))))) (by kernel_rfl) (by kernel_rfl) (S2.of_ks (KS.of_below (below_drew1 _ _))) ?_
        have hy0 : Below wX.heap.size wX wX.drew := below_drew1 _ _
        have hsb := HSBX.out.below hy0
        have hS0 : S2 base w.heap.size wX wX.drew := S2.of_ks (KS.of_below hy0)
        have hfin := fin21 hsb (HSX.out.below hy0) (HRX.out.below hy0) (HBX.out.below hy0) (HKX.out.next hy0)
        clear hy0 HSBX HSX HRX HBX HKX
        generalize wX.drew = wD at *
        repeat (first
          | (refine tree_load rfl (by rfl) 37 _ rfl (wA.heap.size) 0 rfl (rdA T D9) _ (fun w' hb => HLA.out w' hb) Tryz.underlying37 rfl (infoRD _ (rdA_size HN3.out HM3.out)) ?_; try simp only [Act.put, List.setIfInBounds_toArray, List.set_cons_zero, List.set_cons_succ])
          | (refine tree_load rfl (by rfl) 46 _ rfl (w.heap.size + 1) 0 rfl (rsA 1 2 s p c) _ (fun w' hb => HLB.out w' hb) Tryz.underlying46 rfl (infoRS _ rfl) ?_; try simp only [Act.put, List.setIfInBounds_toArray, List.set_cons_zero, List.set_cons_succ])
          | (apply tree_take; (· rfl); (· rfl); (· (intro w' hb'; go_simp; try with_reducible rfl)); try simp only [Act.put, List.setIfInBounds_toArray, List.set_cons_zero, List.set_cons_succ]))
        clear HLA HLB H1 H2 HN1 HN2
        skip
        -- from the result's first assign: world WD, boxes hsb : SB w .. WD, hS0 : S2 base w.heap.size wX WD, hfin: what fin21 says (disk D9, T; slots s, p, c)
        refine tree_one rfl (by rfl) (fun K hK => ?_)
        go_simp
        refine Shut.out hK _ _ hS0 ?_
        clear hK K
        try simp only [Act.put, List.setIfInBounds_toArray, List.set_cons_zero, List.set_cons_succ]
        obtain ⟨f3, f4, fs, fr, fb, fk, fz⟩ := hfin
        refine tree_one rfl (by rfl) (fun K hK => oper_of_list rfl ?_)
        refine wpList_store_row rfl 37 _ _ rfl (w.heap.size + 3) (rdA T D9) rfl rfl 37 zD hsb.r3 (infoRD _ (rdA_size HN3.out HM3.out)) (by rw [rdA_size HN3.out HM3.out]; rfl) (rdA_one HN3.out HM3.out) ?_
        have hS1 := S2.set (A := rdA T D9) hS0 (.inl rfl)
        refine only_end (Shut.out hK _ _ hS1 ?_)
        clear hK K
        try simp only [Act.put]
        refine tree_one rfl (by rfl) (fun K hK => oper_of_list rfl ?_)
        refine wpList_store_row rfl 46 _ _ rfl (w.heap.size + 4) (rsA 1 2 s p c) rfl rfl 46 zS fz (infoRS _ rfl) rfl (rsA_one _ _ _ _ _) ?_
        have hS2 := S2.set (A := rsA 1 2 s p c) hS1 (.inr rfl)
        refine only_end (Shut.out hK _ _ hS2 ?_)
        clear hK K
        try simp only [Act.put]
        refine tree_one rfl (by rfl) (fun K hK => ?_)
        go_simp
        refine Shut.out hK _ _ hS2 ?_
        clear hK K
        try simp only [Act.put, List.setIfInBounds_toArray, List.set_cons_zero, List.set_cons_succ]
        refine tree_nil ?_
        go_wp2_with fail
        refine bodyPost_ret (results_tcct rfl _ _ _ _ _ _ _ _ _ _ _ _ rfl rfl f3 f4 Tryz.underlying37 rfl (infoRD _ (rdA_size HN3.out HM3.out)) Tryz.underlying46 rfl (infoRS _ rfl)) rfl ?_
        exact ⟨D9, s, sb, T, p, c, rfl, fs, fr, fb, fk, HFD9.out, HBO9.out⟩
    · refine tree_one rfl (by rfl) (fun K hK => ?_)
      go_simp
      have hy1 := hy0.alloc hy0.size (.cells zD 37)
      have hg1 : (wA.drew.alloc (.cells zD 37)).heap[wA.heap.size]? = some (.cells zD 37 (0, 0)) := heap_alloc_last wA.drew (.cells zD 37)
      refine Shut.out hK _ _ (S2.of_ks (KS.of_below hy1)) ?_
      clear hK K
      try simp only [Act.put, List.setIfInBounds_toArray, List.set_cons_zero, List.set_cons_succ]
      skip
      -- the call of which in a tree: hS at the world
      refine tree_one rfl (by rfl) (fun K hK => ?_)
      go_simp
      refine (which_any o.n HNB.out _).mono ?_
      rintro e y ⟨rfl, rfl⟩
      refine Shut.out hK _ _ (S2.of_ks (KS.of_below hy1)) ?_
      clear hK K
      try simp only [Act.put, List.setIfInBounds_toArray, List.set_cons_zero, List.set_cons_succ]
      skip
      -- the document's call in a tree, at world (wA.drew.alloc (.cells zD 37)) with hy1 : Below wA.heap.size wA (wA.drew.alloc (.cells zD 37)): leaves T at yC, hrd, hyC
      refine tree_one rfl (by rfl) (fun K hK => ?_)
      go_simp
      refine (HCR.out (wA.drew.alloc (.cells zD 37)) hy1).mono ?_
      rintro e yC ⟨T, rfl, hrd, hb⟩
      have hyC := hy1.trans (hb.mono hy1.size)
      refine Shut.out hK _ _ (S2.of_ks (KS.of_below hyC)) ?_
      clear hK K
      try simp only [Act.put, List.setIfInBounds_toArray, List.set_cons_zero, List.set_cons_succ]
      repeat (apply tree_take; (· rfl); (· rfl); (· (intro w' hb'; go_simp; try with_reducible rfl)); try simp only [Act.put, List.setIfInBounds_toArray, List.set_cons_zero, List.set_cons_succ])
      have hgb := Below.keepOld hb hg1
      have hys := hyC
      have hgl := Nat.le_refl wA.heap.size
      have hrs := hrd
      clear hrd hb hyC hy0 hy1 hg1
      skip
      -- the new disk's box wA.heap.size (row hgb at yC, zero), hys : Below wA.heap.size wA yC, hrs : RDB yC T D9; then the error's assign; then the results
      refine tree_one rfl (by rfl) (fun K hK => oper_of_list rfl ?_)
      refine wpList_store_row rfl 37 _ _ rfl (wA.heap.size) (rdA T D9) rfl rfl 37 zD hgb (infoRD _ (rdA_size hrs.n3 hrs.m3)) (by rw [rdA_size hrs.n3 hrs.m3]; rfl) (rdA_one hrs.n3 hrs.m3) ?_
      have hyT := below_setRow hys hgl (rdA T D9)
      refine only_end (Shut.out hK _ _ (S2.of_ks (KS.of_below hyT)) ?_)
      clear hK K
      try simp only [Act.put]
      refine tree_one rfl (by rfl) (fun K hK => ?_)
      go_simp
      refine Shut.out hK _ _ (S2.of_ks (KS.of_below hyT)) ?_
      clear hK K
      try simp only [Act.put, List.setIfInBounds_toArray, List.set_cons_zero, List.set_cons_succ]
      refine tree_nil ?_
      have H1 := Lib.hid (setRow_heap _ _ _ (rdA T D9) _ _ hgb)
      have HRX : Hid (RDB ((yC).setRow (wA.heap.size) (rdA T D9)) T D9) := hrs.step (kr_turn (turns_setRow _ _ _) hgb (by decide) (by decide))
      have HSBX := Lib.hid (HSBQ.out.below hyT)
      have H2 := Lib.hid HSBX.out.r1
      have HSX := Lib.hid (HSXA.out.below hyT)
      have HBX := Lib.hid (HBA.out.below hyT)
      have HKX := Lib.hid (HKA.out.next hyT)
      have HN1 : Hid ((wA.heap.size) ≠ w.heap.size + 3 ∧ (wA.heap.size) ≠ w.heap.size + 4) := ⟨by have := HSZA.out; omega, by have := HSZA.out; omega⟩
      have HN2 : Hid (w.heap.size + 1 ≠ w.heap.size + 3 ∧ w.heap.size + 1 ≠ w.heap.size + 4) := ⟨by omega, by omega⟩
      clear hyT hys hrs hgb HSXA HBA HKA HCR HLD HLS HD1 HD3 HSBQ
      generalize (yC).setRow (wA.heap.size) (rdA T D9) = wX at *
      skip
      -- the results: world wX; HSBX : Hid (SB w .. wX); the disk's box wA.heap.size (row H1), the slots' box w.heap.size + 1 (row H2); HN1 HN2: they are no result boxes; HSX HRX HBX HKX what stands; region 9, its tree .take 0 (.take 1 (.take 2 (.take 3 (.take 4 (.take 5 (.one 6 (.one 7 (.one 8 (.one 9 .nil)))))))))
      have HLA : Hid (∀ w', S2 base w.heap.size wX w' → w'.rangeAt (wA.heap.size) 0 (rdA T D9).toList) := fun w' hb => row_rangeR (S2.row hb H1.out (by decide) (by decide) (by decide) HN1.out)
      have HLB : Hid (∀ w', S2 base w.heap.size wX w' → w'.rangeAt (w.heap.size + 1) 0 (rsA 1 2 s p c).toList) := fun w' hb => row_rangeR (S2.row hb H2.out (by decide) (by decide) (by decide) HN2.out)
      have HN3 := Lib.hid HRX.out.n3
      have HM3 := Lib.hid HRX.out.m3
      go_upto_region 9 with fail
      refine wp_region_tree (S2 base w.heap.size wX) (.take 0 (.take 1 (.take 2 (.take 3 (.take 4 (.take 5 (.one 6 (.one 7 (.one 8 (.one 9 .nil)))))))))) (by kernel_rfl) (by kernel_rfl) (S2.of_ks (KS.of_below (below_drew1 _ _))) ?_
      have hy0 : Below wX.heap.size wX wX.drew := below_drew1 _ _
      have hsb := HSBX.out.below hy0
      have hS0 : S2 base w.heap.size wX wX.drew := S2.of_ks (KS.of_below hy0)
      have hfin := fin21 hsb (HSX.out.below hy0) (HRX.out.below hy0) (HBX.out.below hy0) (HKX.out.next hy0)
      clear hy0 HSBX HSX HRX HBX HKX
      generalize wX.drew = wD at *
      repeat (first
        | (refine tree_load rfl (by rfl) 37 _ rfl (wA.heap.size) 0 rfl (rdA T D9) _ (fun w' hb => HLA.out w' hb) Tryz.underlying37 rfl (infoRD _ (rdA_size HN3.out HM3.out)) ?_; try simp only [Act.put, List.setIfInBounds_toArray, List.set_cons_zero, List.set_cons_succ])
        | (refine tree_load rfl (by rfl) 46 _ rfl (w.heap.size + 1) 0 rfl (rsA 1 2 s p c) _ (fun w' hb => HLB.out w' hb) Tryz.underlying46 rfl (infoRS _ rfl) ?_; try simp only [Act.put, List.setIfInBounds_toArray, List.set_cons_zero, List.set_cons_succ])
        | (apply tree_take; (· rfl); (· rfl); (· (intro w' hb'; go_simp; try with_reducible rfl)); try simp only [Act.put, List.setIfInBounds_toArray, List.set_cons_zero, List.set_cons_succ]))
      clear HLA HLB H1 H2 HN1 HN2
      skip
      -- from the result's first assign: world WD, boxes hsb : SB w .. WD, hS0 : S2 base w.heap.size wX WD, hfin: what fin21 says (disk D9, T; slots s, p, c)
      refine tree_one rfl (by rfl) (fun K hK => ?_)
      go_simp
      refine Shut.out hK _ _ hS0 ?_
      clear hK K
      try simp only [Act.put, List.setIfInBounds_toArray, List.set_cons_zero, List.set_cons_succ]
      obtain ⟨f3, f4, fs, fr, fb, fk, fz⟩ := hfin
      refine tree_one rfl (by rfl) (fun K hK => oper_of_list rfl ?_)
      refine wpList_store_row rfl 37 _ _ rfl (w.heap.size + 3) (rdA T D9) rfl rfl 37 zD hsb.r3 (infoRD _ (rdA_size HN3.out HM3.out)) (by rw [rdA_size HN3.out HM3.out]; rfl) (rdA_one HN3.out HM3.out) ?_
      have hS1 := S2.set (A := rdA T D9) hS0 (.inl rfl)
      refine only_end (Shut.out hK _ _ hS1 ?_)
      clear hK K
      try simp only [Act.put]
      refine tree_one rfl (by rfl) (fun K hK => oper_of_list rfl ?_)
      refine wpList_store_row rfl 46 _ _ rfl (w.heap.size + 4) (rsA 1 2 s p c) rfl rfl 46 zS fz (infoRS _ rfl) rfl (rsA_one _ _ _ _ _) ?_
      have hS2 := S2.set (A := rsA 1 2 s p c) hS1 (.inr rfl)
      refine only_end (Shut.out hK _ _ hS2 ?_)
      clear hK K
      try simp only [Act.put]
      refine tree_one rfl (by rfl) (fun K hK => ?_)
      go_simp
      refine Shut.out hK _ _ hS2 ?_
      clear hK K
      try simp only [Act.put, List.setIfInBounds_toArray, List.set_cons_zero, List.set_cons_succ]
      refine tree_nil ?_
      go_wp2_with fail
      refine bodyPost_ret (results_tcct rfl _ _ _ _ _ _ _ _ _ _ _ _ rfl rfl f3 f4 Tryz.underlying37 rfl (infoRD _ (rdA_size HN3.out HM3.out)) Tryz.underlying46 rfl (infoRS _ rfl)) rfl ?_
      exact ⟨D9, s, sb, T, p, c, rfl, fs, fr, fb, fk, HFD9.out, HBO9.out⟩
  have m1 : (o.kind == 1) = false := beq_eq_false_iff_ne.2 n1
  by_cases n2 : o.kind = 2
  · have m2 : (o.kind == 2) = true := beq_iff_eq.2 n2
    clear n0 n1 n2 hc0 hc2 hc3
    have HAR := Lib.hid (sarm w5 HSQ.out.dx o.n HNB.out.2)
    go_upto_region 11 with fail
    go_wp2_with fail
    refine HAR.out.mono ?_
    rintro e wA ⟨rfl, hdx, hkt⟩
    have hka : KS base w5 wA := KS.of_kt hkt
    have HSXA := Lib.hid (HSQ.out.kt hkt hdx)
    have hsbq := HSBQ.out.ks hka
    clear HSBQ hc1
    have HSBQ := Lib.hid hsbq
    have HBA := Lib.hid (HBB.out.step (kr_of_ks hka))
    have HKA := Lib.hid (HKQ.out.trans hka)
    have HRA := Lib.hid (HR.out.step (kr_of_ks hka))
    have HFD9 : Hid (FewD (⟨d.fs, d.room, o.n.toNat, d.down⟩ : DD) (N + 4)) := fun f hf => Nat.le_trans (HFEW.out f hf) (by omega)
    have HBO9 := HBO
    clear hsbq hka hdx hkt HSQ HKQ HBB HR HWW HLOW HSZ HAR
    skip
    -- what a tree may read, from world wA with boxes HSBQ : Hid (SB w (rdA ts d) (rsA 1 2 s p c) (sopA o pb cb) wA)
    have HLD : Hid (∀ w', S2 base w.heap.size wA w' → w'.rangeAt w.heap.size 0 (rdA ts d).toList) := fun w' hb => row_rangeR (S2.row hb HSBQ.out.r0 (by decide) (by decide) (by decide) (by omega))
    have HLS : Hid (∀ w', S2 base w.heap.size wA w' → w'.rangeAt (w.heap.size + 1) 0 (rsA 1 2 s p c).toList) := fun w' hb => row_rangeR (S2.row hb HSBQ.out.r1 (by decide) (by decide) (by decide) (by omega))
    have HD1 : Hid (∀ w', S2 base w.heap.size wA w' → w'.cell? ⟨w.heap.size + 2, 1, none⟩ = some (.int .i64 o.n)) := fun w' hb => (sopA_cell (S2.row hb HSBQ.out.r2 (by decide) (by decide) (by decide) (by omega))).2.1
    have HD3 : Hid (∀ w', S2 base w.heap.size wA w' → w'.cell? ⟨w.heap.size + 2, 3, none⟩ = some (.slice pb o.b.length cb)) := fun w' hb => (sopA_cell (S2.row hb HSBQ.out.r2 (by decide) (by decide) (by decide) (by omega))).2.2.2
    go_upto_region 12 with fail
    refine wp_region_tree (S2 base w.heap.size wA) (.take 0 (.take 1 (.take 2 (.take 3 (.take 5 (.one 4 (.one 6 (.one 7 (.one 8 (.one 9 .nil)))))))))) (by kernel_rfl) (by kernel_rfl) (S2.of_ks (KS.of_below (below_drew1 _ _))) ?_
    have hy0 : Below wA.heap.size wA wA.drew := below_drew1 _ _
    skip
    repeat (first
      | (refine tree_load rfl (by rfl) 37 _ rfl w.heap.size 0 rfl (rdA ts d) _ (fun w' hb => HLD.out w' hb) Tryz.underlying37 rfl (infoRD _ (rdA_size HN30.out HM30.out)) ?_; try simp only [Act.put, List.setIfInBounds_toArray, List.set_cons_zero, List.set_cons_succ])
      | (refine tree_load rfl (by rfl) 46 _ rfl (w.heap.size + 1) 0 rfl (rsA 1 2 s p c) _ (fun w' hb => HLS.out w' hb) Tryz.underlying46 rfl (infoRS _ rfl) ?_; try simp only [Act.put, List.setIfInBounds_toArray, List.set_cons_zero, List.set_cons_succ])
      | (apply tree_take; (· rfl); (· rfl); (· (intro w' hb'; go_simp; try with_reducible rfl)); try simp only [Act.put, List.setIfInBounds_toArray, List.set_cons_zero, List.set_cons_succ])
      | (apply tree_take; (· rfl); (· rfl); (· (intro w' hb'; have hk' := (HD1.out) w' hb'; go_simp; try with_reducible rfl)); try simp only [Act.put, List.setIfInBounds_toArray, List.set_cons_zero, List.set_cons_succ])
      | (apply tree_take; (· rfl); (· rfl); (· (intro w' hb'; have hk' := (HD3.out) w' hb'; go_simp; try with_reducible rfl)); try simp only [Act.put, List.setIfInBounds_toArray, List.set_cons_zero, List.set_cons_succ]))
    refine tree_one rfl (by rfl) (fun K hK => ?_)
    go_simp
    refine (rarm_ox ts d o.n _ (HRA.out.below hy0) HNB.out.2).mono ?_
    rintro e yC ⟨T, rfl, hrd, hb⟩
    have hyC := hy0.trans hb
    refine Shut.out hK _ _ (S2.of_ks (KS.of_below hyC)) ?_
    clear hK K
    try simp only [Act.put, List.setIfInBounds_toArray, List.set_cons_zero, List.set_cons_succ]
    have hsb := HSBQ.out.below hyC
    have hS0 : S2 base w.heap.size wA yC := S2.of_ks (KS.of_below hyC)
    have HN3 := Lib.hid hrd.n3
    have HM3 := Lib.hid hrd.m3
    have hfin := fin21 hsb (HSXA.out.below hyC) hrd (HBA.out.below hyC) (HKA.out.next hyC)
    clear hrd hb hy0 hyC HSXA HBA HKA HRA HLD HLS HD1 HD3 HSBQ
    skip
    -- from the result's first assign: world WD, boxes hsb : SB w .. WD, hS0 : S2 base w.heap.size wA WD, hfin: what fin21 says (disk (⟨d.fs, d.room, o.n.toNat, d.down⟩ : DD), T; slots s, p, c)
    refine tree_one rfl (by rfl) (fun K hK => ?_)
    go_simp
    refine Shut.out hK _ _ hS0 ?_
    clear hK K
    try simp only [Act.put, List.setIfInBounds_toArray, List.set_cons_zero, List.set_cons_succ]
    obtain ⟨f3, f4, fs, fr, fb, fk, fz⟩ := hfin
    refine tree_one rfl (by rfl) (fun K hK => oper_of_list rfl ?_)
    refine wpList_store_row rfl 37 _ _ rfl (w.heap.size + 3) (rdA T (⟨d.fs, d.room, o.n.toNat, d.down⟩ : DD)) rfl rfl 37 zD hsb.r3 (infoRD _ (rdA_size HN3.out HM3.out)) (by rw [rdA_size HN3.out HM3.out]; rfl) (rdA_one HN3.out HM3.out) ?_
    have hS1 := S2.set (A := rdA T (⟨d.fs, d.room, o.n.toNat, d.down⟩ : DD)) hS0 (.inl rfl)
    refine only_end (Shut.out hK _ _ hS1 ?_)
    clear hK K
    try simp only [Act.put]
    refine tree_one rfl (by rfl) (fun K hK => oper_of_list rfl ?_)
    refine wpList_store_row rfl 46 _ _ rfl (w.heap.size + 4) (rsA 1 2 s p c) rfl rfl 46 zS fz (infoRS _ rfl) rfl (rsA_one _ _ _ _ _) ?_
    have hS2 := S2.set (A := rsA 1 2 s p c) hS1 (.inr rfl)
    refine only_end (Shut.out hK _ _ hS2 ?_)
    clear hK K
    try simp only [Act.put]
    refine tree_one rfl (by rfl) (fun K hK => ?_)
    go_simp
    refine Shut.out hK _ _ hS2 ?_
    clear hK K
    try simp only [Act.put, List.setIfInBounds_toArray, List.set_cons_zero, List.set_cons_succ]
    refine tree_nil ?_
    go_wp2_with fail
    refine bodyPost_ret (results_tcct rfl _ _ _ _ _ _ _ _ _ _ _ _ rfl rfl f3 f4 Tryz.underlying37 rfl (infoRD _ (rdA_size HN3.out HM3.out)) Tryz.underlying46 rfl (infoRS _ rfl)) rfl ?_
    exact ⟨(⟨d.fs, d.room, o.n.toNat, d.down⟩ : DD), s, sb, T, p, c, rfl, fs, fr, fb, fk, HFD9.out, HBO9.out⟩
  have m2 : (o.kind == 2) = false := beq_eq_false_iff_ne.2 n2
  by_cases n3 : o.kind = 3
  · have m3 : (o.kind == 3) = true := beq_iff_eq.2 n3
    clear n0 n1 n2 n3 hc0 hc3
    have hal := Below.allocs w5 (.cells #[.int .i64 0, .int .i64 o.n, .int .i64 o.m] 3)
    have HC1 := Lib.hid (scrash _ (HSQ.out.dx.below hal) [0, o.n, o.m] _ 3 (ns3 w5 0 o.n o.m (by omega) HNB.out HMB.out) (own3 base w5 0 o.n o.m))
    have HSA := Lib.hid (HSQ.out.below hal)
    have HKL : Hid (KS base w5 (w5.alloc (.cells #[.int .i64 0, .int .i64 o.n, .int .i64 o.m] 3))) := KS.of_below hal
    clear hal
    go_upto_region 14 with fail
    go_wp2_with fail
    refine HC1.out.mono ?_
    rintro e wA ⟨rfl, hdx, hkt⟩
    have hka : KS base w5 wA := HKL.out.trans (KS.of_kt hkt)
    have hsxa := HSA.out.kt hkt hdx
    have hsbq := HSBQ.out.ks hka
    have hba := HBB.out.step (kr_of_ks hka)
    have hkA := HKQ.out.trans hka
    have hra := HR.out.step (kr_of_ks hka)
    have HEA := Lib.hid (KS.etype hka HEQ.out HEB.out)
    have HSZA : Hid (w.heap.size + 5 ≤ wA.heap.size) := by show _ ≤ _; have := hka.size; have := HSZ.out; omega
    clear hc1 hc2 hka hkt HSBQ HSQ HKQ HBB HR HWW HLOW HSZ HEQ HC1 HSA HKL
    obtain ⟨_, hc1, hc2, _⟩ := sopA_cell hsbq.r2
    have halA := Below.allocs wA (.cells #[.int .i64 0, .int .i64 o.n, .int .i64 o.m] 3)
    have HCR := Lib.hid (rcrash_any ts d [0, o.n, o.m] _ 3 _ (hra.below halA) (ns3 wA 0 o.n o.m (by omega) HNB.out HMB.out))
    have HAL := Lib.hid halA
    have HDX := Lib.hid hdx
    have HSXA := Lib.hid hsxa
    have HSBQ := Lib.hid hsbq
    have HBA := Lib.hid hba
    have HKA := Lib.hid hkA
    clear halA hdx hsxa hsbq hba hkA hra
    have HDN : Hid ((crashD [0, o.n, o.m] d).down = false) := rfl
    have HFC : Hid (FewD (crashD [0, o.n, o.m] d) 0) := few_crash _
    go_upto_region 15 with fail
    go_wp2_with (refine wpList_load_row rfl 37 _ rfl w.heap.size rfl 37 (rdA ts d) (0, 0) _ HSBQ.out.r0 Tryz.underlying37 rfl (infoRD _ (rdA_size HN30.out HM30.out)) ?_)
    refine HCR.out.mono ?_
    rintro e wB ⟨T, rfl, hrd, hb⟩
    have hbB := HAL.out.trans (hb.mono HAL.out.size)
    generalize crashD [0, o.n, o.m] d = DC at *
    have HN3C := Lib.hid hrd.n3
    have HM3C := Lib.hid hrd.m3
    have hsbB := HSBQ.out.below hbB
    have hsbC := hsbB.set0 (B := rdA T DC)
    have R0 := Lib.hid hsbB.r0
    have hkr := kr_turn (base := 0) (turns_setRow wB w.heap.size (rdA T DC)) hsbB.r0 (by decide) (by decide)
    have HRDC := Lib.hid (hrd.step hkr)
    have HBAC := Lib.hid ((HBA.out.below hbB).step hkr)
    have HSXC := Lib.hid ((HSXA.out.below hbB).off (turns_setRow wB w.heap.size (rdA T DC)) hsbB.r0 (by decide) (by decide) (by decide) (by decide) (by decide))
    have HKC := Lib.hid (ks_setRow (g := w.heap.size) (A := rdA T DC) (HKA.out.next hbB) (Nat.le_refl _))
    have HSBC := Lib.hid hsbC
    have HEC : Hid (Rdr.EType (wB.setRow w.heap.size (rdA T DC))) := by
      show Rdr.EType _
      have h1 := HEA.out.below hbB HEA.out.lt
      unfold Rdr.EType at h1 ⊢
      rw [World.cell?] at h1 ⊢
      rw [setRow_other _ _ _ _ (show 0 ≠ w.heap.size by have := HEB.out; have := HLB0.out; omega)]
      exact h1
    have HSZC : Hid (w.heap.size + 5 ≤ (wB.setRow w.heap.size (rdA T DC)).heap.size) := by show _ ≤ _; have := HSZA.out; have := hbB.size; simp only [World.setRow, Array.size_modify] at *; omega
    clear hrd hb hbB hsbB hsbC hkr hc1 hc2 HSBQ HSXA HBA HKA HDX HCR HAL HEA HSZA
    go_upto_region 16 with (refine wpList_store_row rfl 37 _ _ rfl w.heap.size (rdA T DC) rfl rfl 37 (rdA ts d) R0.out (infoRD _ (rdA_size HN3C.out HM3C.out)) (by rw [rdA_size HN3C.out HM3C.out, rdA_size HN30.out HM30.out]) (rdA_one HN3C.out HM3C.out) ?_)
    try simp only [Act.put]
    clear R0
    generalize wB.setRow w.heap.size (rdA T DC) = wC at *
    have HOP := Lib.hid (sopen_any wC HEC.out HSXC.out.dx 1 2 (by omega) (by omega) (by omega) HDN.out)
    have HFD9 : Hid (FewD DC (N + 4)) := HFC.out.mono (by omega)
    have HBO9 : Hid (BodyOk (opnS DC 1 2)) := BodyOk.opn DC 1 2
    go_wp2_with fail
    refine HOP.out.mono ?_
    rintro e wD ⟨sb2, rfl, hs2, hb2⟩
    have hsbD := HSBC.out.below hb2
    have HROP := Lib.hid (ropenS_any T DC 1 2 (by omega) (by omega) (by omega) HDN.out wD (HRDC.out.below hb2))
    unfold ROpP at HROP
    have HRDD := Lib.hid (HRDC.out.below hb2)
    have HSBD := Lib.hid hsbD
    have HSXD := Lib.hid hs2
    have HKD := Lib.hid (HKC.out.next hb2)
    have HSZD : Hid (w.heap.size + 5 ≤ wD.heap.size) := by show _ ≤ _; have := HSZC.out; have := hb2.size; omega
    clear hsbD hs2 hb2 HOP HSBC HRDC HBAC HSXC HKC HEC HSZC
    generalize opnS DC 1 2 = S9 at *
    go_upto_region 17 with fail
    go_wp2_with (refine wpList_load_row rfl 37 _ rfl w.heap.size rfl 37 (rdA T DC) (0, 0) _ HSBD.out.r0 Tryz.underlying37 rfl (infoRD _ (rdA_size HN3C.out HM3C.out)) ?_)
    refine HROP.out.mono ?_
    rintro e wE ⟨q, k, rfl, hrb, hbE⟩
    have hal := Below.allocs wE (.cells zS 46)
    have hnew := heap_alloc_last wE (.cells zS 46)
    have hbX := below_setRow (hbE.trans (hal.mono hbE.size)) hbE.size (rsA 1 2 S9 q k)
    have hkr := kr_turn (base := 0) (turns_setRow (wE.alloc (.cells zS 46)) wE.heap.size (rsA 1 2 S9 q k)) hnew (by decide) (by decide)
    have NEW := Lib.hid hnew
    have HSBX := Lib.hid (HSBD.out.below hbX)
    have H1 := Lib.hid HSBX.out.r0
    have H2 := Lib.hid (setRow_heap _ _ _ (rsA 1 2 S9 q k) _ _ hnew)
    have HSX := Lib.hid (HSXD.out.below hbX)
    have HRX := Lib.hid (HRDD.out.below hbX)
    have HBX := Lib.hid ((hrb.below hal).step hkr)
    have HKX := Lib.hid (HKD.out.next hbX)
    have HN1 : Hid (w.heap.size ≠ w.heap.size + 3 ∧ w.heap.size ≠ w.heap.size + 4) := ⟨by omega, by omega⟩
    have HN2 : Hid (wE.heap.size ≠ w.heap.size + 3 ∧ wE.heap.size ≠ w.heap.size + 4) := ⟨by have := HSZD.out; have := hbE.size; omega, by have := HSZD.out; have := hbE.size; omega⟩
    clear hal hnew hbX hkr hrb hbE HSBD HSXD HRDD HKD HROP
    go_upto_region 18 with (refine wpList_store_row rfl 46 _ _ rfl wE.heap.size (rsA 1 2 S9 q k) rfl rfl 46 zS NEW.out (infoRS _ rfl) rfl (rsA_one _ _ _ _ _) ?_)
    try simp only [Act.put, List.setIfInBounds_toArray, List.set_cons_zero, List.set_cons_succ]
    clear NEW
    generalize (wE.alloc (.cells zS 46)).setRow wE.heap.size (rsA 1 2 S9 q k) = wX at *
    generalize wE.heap.size = gx at *
    skip
    -- the results: world wX; HSBX : Hid (SB w .. wX); the disk's box w.heap.size (row H1), the slots' box gx (row H2); HN1 HN2: they are no result boxes; HSX HRX HBX HKX what stands; region 18, its tree .take 0 (.take 1 (.take 2 (.take 3 (.take 4 (.take 5 (.take 6 (.take 7 (.take 8 (.take 9 (.one 10 (.one 11 (.one 12 (.one 13 .nil)))))))))))))
    have HLA : Hid (∀ w', S2 base w.heap.size wX w' → w'.rangeAt (w.heap.size) 0 (rdA T DC).toList) := fun w' hb => row_rangeR (S2.row hb H1.out (by decide) (by decide) (by decide) HN1.out)
    have HLB : Hid (∀ w', S2 base w.heap.size wX w' → w'.rangeAt (gx) 0 (rsA 1 2 S9 q k).toList) := fun w' hb => row_rangeR (S2.row hb H2.out (by decide) (by decide) (by decide) HN2.out)
    have HN3 := Lib.hid HRX.out.n3
    have HM3 := Lib.hid HRX.out.m3
    go_upto_region 18 with fail
    refine wp_region_tree (S2 base w.heap.size wX) (.take 0 (.take 1 (.take 2 (.take 3 (.take 4 (.take 5 (.take 6 (.take 7 (.take 8 (.take 9 (.one 10 (.one 11 (.one 12 (.one 13 .nil)))))))))))))) (by kernel_rfl) (by kernel_rfl) (S2.of_ks (KS.of_below (below_drew1 _ _))) ?_
    have hy0 : Below wX.heap.size wX wX.drew := below_drew1 _ _
    have hsb := HSBX.out.below hy0
    have hS0 : S2 base w.heap.size wX wX.drew := S2.of_ks (KS.of_below hy0)
    have hfin := fin21 hsb (HSX.out.below hy0) (HRX.out.below hy0) (HBX.out.below hy0) (HKX.out.next hy0)
    clear hy0 HSBX HSX HRX HBX HKX
    generalize wX.drew = wD at *
    repeat (first
      | (refine tree_load rfl (by rfl) 37 _ rfl (w.heap.size) 0 rfl (rdA T DC) _ (fun w' hb => HLA.out w' hb) Tryz.underlying37 rfl (infoRD _ (rdA_size HN3.out HM3.out)) ?_; try simp only [Act.put, List.setIfInBounds_toArray, List.set_cons_zero, List.set_cons_succ])
      | (refine tree_load rfl (by rfl) 46 _ rfl (gx) 0 rfl (rsA 1 2 S9 q k) _ (fun w' hb => HLB.out w' hb) Tryz.underlying46 rfl (infoRS _ rfl) ?_; try simp only [Act.put, List.setIfInBounds_toArray, List.set_cons_zero, List.set_cons_succ])
      | (apply tree_take; (· rfl); (· rfl); (· (intro w' hb'; go_simp; try with_reducible rfl)); try simp only [Act.put, List.setIfInBounds_toArray, List.set_cons_zero, List.set_cons_succ]))
    clear HLA HLB H1 H2 HN1 HN2
    skip
    -- from the result's first assign: world WD, boxes hsb : SB w .. WD, hS0 : S2 base w.heap.size wX WD, hfin: what fin21 says (disk DC, T; slots S9, q, k)
    refine tree_one rfl (by rfl) (fun K hK => ?_)
    go_simp
    refine Shut.out hK _ _ hS0 ?_
    clear hK K
    try simp only [Act.put, List.setIfInBounds_toArray, List.set_cons_zero, List.set_cons_succ]
    obtain ⟨f3, f4, fs, fr, fb, fk, fz⟩ := hfin
    refine tree_one rfl (by rfl) (fun K hK => oper_of_list rfl ?_)
    refine wpList_store_row rfl 37 _ _ rfl (w.heap.size + 3) (rdA T DC) rfl rfl 37 zD hsb.r3 (infoRD _ (rdA_size HN3.out HM3.out)) (by rw [rdA_size HN3.out HM3.out]; rfl) (rdA_one HN3.out HM3.out) ?_
    have hS1 := S2.set (A := rdA T DC) hS0 (.inl rfl)
    refine only_end (Shut.out hK _ _ hS1 ?_)
    clear hK K
    try simp only [Act.put]
    refine tree_one rfl (by rfl) (fun K hK => oper_of_list rfl ?_)
    refine wpList_store_row rfl 46 _ _ rfl (w.heap.size + 4) (rsA 1 2 S9 q k) rfl rfl 46 zS fz (infoRS _ rfl) rfl (rsA_one _ _ _ _ _) ?_
    have hS2 := S2.set (A := rsA 1 2 S9 q k) hS1 (.inr rfl)
    refine only_end (Shut.out hK _ _ hS2 ?_)
    clear hK K
    try simp only [Act.put]
    refine tree_one rfl (by rfl) (fun K hK => ?_)
    go_simp
    refine Shut.out hK _ _ hS2 ?_
    clear hK K
    try simp only [Act.put, List.setIfInBounds_toArray, List.set_cons_zero, List.set_cons_succ]
    refine tree_nil ?_
    go_wp2_with fail
    refine bodyPost_ret (results_tcct rfl _ _ _ _ _ _ _ _ _ _ _ _ rfl rfl f3 f4 Tryz.underlying37 rfl (infoRD _ (rdA_size HN3.out HM3.out)) Tryz.underlying46 rfl (infoRS _ rfl)) rfl ?_
    exact ⟨DC, S9, sb2, T, q, k, rfl, fs, fr, fb, fk, HFD9.out, HBO9.out⟩
  have m3 : (o.kind == 3) = false := beq_eq_false_iff_ne.2 n3
  clear n0 n1 n2 n3 hc0 hc2 hc3
  have HCX := Lib.hid (xsync w5 HSQ.out.dx (wh o.n) (wh_lt _))
  go_upto_region 19 with fail
  go_wp2_with fail
  refine (which_any o.n HNB.out _).mono ?_
  rintro e y ⟨rfl, rfl⟩
  go_wp2_with fail
  refine HCX.out.mono ?_
  rintro e wA ⟨rfl, hdx, hkt⟩
  have hka : KS base w5 wA := KS.of_kt hkt
  have HSXA := Lib.hid (HSQ.out.kt hkt hdx)
  have hsbq := HSBQ.out.ks hka
  clear HSBQ hc1
  have HSBQ := Lib.hid hsbq
  have HBA := Lib.hid (HBB.out.step (kr_of_ks hka))
  have HKA := Lib.hid (HKQ.out.trans hka)
  have HRA := Lib.hid (HR.out.step (kr_of_ks hka))
  have HSZA : Hid (w.heap.size + 5 ≤ wA.heap.size) := by show _ ≤ _; have := hka.size; have := HSZ.out; omega
  have HCR : Hid (∀ y, Below wA.heap.size wA y → Calls Tryz.prog 34 #[.agg (rdA ts d), .int .i64 (wh o.n : Int)] y (ROut (syncD d (wh o.n) (fD d (wh o.n))) (syncE d) y)) :=
    fun y hy => rsync_in ts d (wh o.n) (wh_lt _) (fD d (wh o.n)) (HRA.out.fd (wh_lt _)) y (HRA.out.below hy)
  have HFD9 : Hid (FewD (syncD d (wh o.n) (fD d (wh o.n))) (N + 4)) := FewD.mono (FewD.syncD HFEW.out) (by omega)
  have HBO9 := HBO
  clear hsbq hka hdx hkt HSQ HKQ HBB HR HWW HLOW HSZ HCX
  generalize syncD d (wh o.n) (fD d (wh o.n)) = D9 at *
  generalize syncE d = E9 at *
  skip
  -- the document's disk's call in region 20 (tree .take 0 (.take 1 (.take 2 (.two 3 8 (.two 4 8 (.take 5 (.take 6 (.take 7 (.one 8 (.one 9 (.one 10 .nil)))))) (.one 4 (.take 5 (.take 6 (.take 7 (.one 9 (.one 10 .nil))))))) (.one 3 (.one 4 (.take 5 (.take 6 (.take 7 (.one 9 (.one 10 .nil))))))))))), at world wA
  skip
  -- what a tree may read, from world wA with boxes HSBQ : Hid (SB w (rdA ts d) (rsA 1 2 s p c) (sopA o pb cb) wA)
  have HLD : Hid (∀ w', S2 base w.heap.size wA w' → w'.rangeAt w.heap.size 0 (rdA ts d).toList) := fun w' hb => row_rangeR (S2.row hb HSBQ.out.r0 (by decide) (by decide) (by decide) (by omega))
  have HLS : Hid (∀ w', S2 base w.heap.size wA w' → w'.rangeAt (w.heap.size + 1) 0 (rsA 1 2 s p c).toList) := fun w' hb => row_rangeR (S2.row hb HSBQ.out.r1 (by decide) (by decide) (by decide) (by omega))
  have HD1 : Hid (∀ w', S2 base w.heap.size wA w' → w'.cell? ⟨w.heap.size + 2, 1, none⟩ = some (.int .i64 o.n)) := fun w' hb => (sopA_cell (S2.row hb HSBQ.out.r2 (by decide) (by decide) (by decide) (by omega))).2.1
  have HD3 : Hid (∀ w', S2 base w.heap.size wA w' → w'.cell? ⟨w.heap.size + 2, 3, none⟩ = some (.slice pb o.b.length cb)) := fun w' hb => (sopA_cell (S2.row hb HSBQ.out.r2 (by decide) (by decide) (by decide) (by omega))).2.2.2
  have hqe : ((E9 : Int) == E9) = true := beq_self_eq_true _
  go_upto_region 20 with fail
  refine wp_region_tree (S2 base w.heap.size wA) (.take 0 (.take 1 (.take 2 (.two 3 8 (.two 4 8 (.take 5 (.take 6 (.take 7 (.one 8 (.one 9 (.one 10 .nil)))))) (.one 4 (.take 5 (.take 6 (.take 7 (.one 9 (.one 10 .nil))))))) (.one 3 (.one 4 (.take 5 (.take 6 (.take 7 (.one 9 (.one 10 .nil))))))))))) (by kernel_rfl) (by kernel_rfl) (S2.of_ks (KS.of_below (below_drew1 _ _))) ?_
  have hy0 : Below wA.heap.size wA wA.drew := below_drew1 _ _
  skip
  repeat (first
    | (refine tree_load rfl (by rfl) 37 _ rfl w.heap.size 0 rfl (rdA ts d) _ (fun w' hb => HLD.out w' hb) Tryz.underlying37 rfl (infoRD _ (rdA_size HN30.out HM30.out)) ?_; try simp only [Act.put, List.setIfInBounds_toArray, List.set_cons_zero, List.set_cons_succ])
    | (refine tree_load rfl (by rfl) 46 _ rfl (w.heap.size + 1) 0 rfl (rsA 1 2 s p c) _ (fun w' hb => HLS.out w' hb) Tryz.underlying46 rfl (infoRS _ rfl) ?_; try simp only [Act.put, List.setIfInBounds_toArray, List.set_cons_zero, List.set_cons_succ])
    | (apply tree_take; (· rfl); (· rfl); (· (intro w' hb'; go_simp; try with_reducible rfl)); try simp only [Act.put, List.setIfInBounds_toArray, List.set_cons_zero, List.set_cons_succ])
    | (apply tree_take; (· rfl); (· rfl); (· (intro w' hb'; have hk' := (HD1.out) w' hb'; go_simp; try with_reducible rfl)); try simp only [Act.put, List.setIfInBounds_toArray, List.set_cons_zero, List.set_cons_succ])
    | (apply tree_take; (· rfl); (· rfl); (· (intro w' hb'; have hk' := (HD3.out) w' hb'; go_simp; try with_reducible rfl)); try simp only [Act.put, List.setIfInBounds_toArray, List.set_cons_zero, List.set_cons_succ]))
  refine tree_two ?_ ?_
  · skip
    -- the call of which in a tree: hS at the world
    refine tree_one rfl (by rfl) (fun K hK => ?_)
    go_simp
    refine (which_any o.n HNB.out _).mono ?_
    rintro e y ⟨rfl, rfl⟩
    refine Shut.out hK _ _ (S2.of_ks (KS.of_below hy0)) ?_
    clear hK K
    try simp only [Act.put, List.setIfInBounds_toArray, List.set_cons_zero, List.set_cons_succ]
    refine tree_two ?_ ?_
    · skip
      -- the document's call in a tree, at world wA.drew with hy0 : Below wA.heap.size wA wA.drew: leaves T at yC, hrd, hyC
      refine tree_one rfl (by rfl) (fun K hK => ?_)
      go_simp
      refine (HCR.out wA.drew hy0).mono ?_
      rintro e yC ⟨T, rfl, hrd, hb⟩
      have hyC := hy0.trans (hb.mono hy0.size)
      refine Shut.out hK _ _ (S2.of_ks (KS.of_below hyC)) ?_
      clear hK K
      try simp only [Act.put, List.setIfInBounds_toArray, List.set_cons_zero, List.set_cons_succ]
      repeat (apply tree_take; (· rfl); (· rfl); (· (intro w' hb'; go_simp; try with_reducible rfl)); try simp only [Act.put, List.setIfInBounds_toArray, List.set_cons_zero, List.set_cons_succ])
      refine tree_one rfl (by rfl) (fun K hK => ?_)
      go_simp
      have hys := hyC.alloc hyC.size (.cells zD 37)
      refine Shut.out hK _ _ (S2.of_ks (KS.of_below hys)) ?_
      clear hK K
      try simp only [Act.put, List.setIfInBounds_toArray, List.set_cons_zero, List.set_cons_succ]
      have hgb := heap_alloc_last yC (.cells zD 37)
      have hgl := hyC.size
      have hrs := hrd.below (Below.allocs yC (.cells zD 37))
      clear hrd hb hyC hy0
      skip
      -- the new disk's box yC.heap.size (row hgb at yC.alloc (.cells zD 37), zero), hys : Below wA.heap.size wA yC.alloc (.cells zD 37), hrs : RDB yC.alloc (.cells zD 37) T D9; then the error's assign; then the results
      refine tree_one rfl (by rfl) (fun K hK => oper_of_list rfl ?_)
      refine wpList_store_row rfl 37 _ _ rfl (yC.heap.size) (rdA T D9) rfl rfl 37 zD hgb (infoRD _ (rdA_size hrs.n3 hrs.m3)) (by rw [rdA_size hrs.n3 hrs.m3]; rfl) (rdA_one hrs.n3 hrs.m3) ?_
      have hyT := below_setRow hys hgl (rdA T D9)
      refine only_end (Shut.out hK _ _ (S2.of_ks (KS.of_below hyT)) ?_)
      clear hK K
      try simp only [Act.put]
      refine tree_one rfl (by rfl) (fun K hK => ?_)
      go_simp
      refine Shut.out hK _ _ (S2.of_ks (KS.of_below hyT)) ?_
      clear hK K
      try simp only [Act.put, List.setIfInBounds_toArray, List.set_cons_zero, List.set_cons_succ]
      refine tree_nil ?_
      have H1 := Lib.hid (setRow_heap _ _ _ (rdA T D9) _ _ hgb)
      have HRX : Hid (RDB ((yC.alloc (.cells zD 37)).setRow (yC.heap.size) (rdA T D9)) T D9) := hrs.step (kr_turn (turns_setRow _ _ _) hgb (by decide) (by decide))
      have HSBX := Lib.hid (HSBQ.out.below hyT)
      have H2 := Lib.hid HSBX.out.r1
      have HSX := Lib.hid (HSXA.out.below hyT)
      have HBX := Lib.hid (HBA.out.below hyT)
      have HKX := Lib.hid (HKA.out.next hyT)
      have HN1 : Hid ((yC.heap.size) ≠ w.heap.size + 3 ∧ (yC.heap.size) ≠ w.heap.size + 4) := ⟨by have := HSZA.out; omega, by have := HSZA.out; omega⟩
      have HN2 : Hid (w.heap.size + 1 ≠ w.heap.size + 3 ∧ w.heap.size + 1 ≠ w.heap.size + 4) := ⟨by omega, by omega⟩
      clear hyT hys hrs hgb HSXA HBA HKA HCR HLD HLS HD1 HD3 HSBQ
      generalize (yC.alloc (.cells zD 37)).setRow (yC.heap.size) (rdA T D9) = wX at *
      skip
      -- the results: world wX; HSBX : Hid (SB w .. wX); the disk's box yC.heap.size (row H1), the slots' box w.heap.size + 1 (row H2); HN1 HN2: they are no result boxes; HSX HRX HBX HKX what stands; region 21, its tree .take 0 (.take 1 (.take 2 (.take 3 (.take 4 (.take 5 (.one 6 (.one 7 (.one 8 (.one 9 .nil)))))))))
      have HLA : Hid (∀ w', S2 base w.heap.size wX w' → w'.rangeAt (yC.heap.size) 0 (rdA T D9).toList) := fun w' hb => row_rangeR (S2.row hb H1.out (by decide) (by decide) (by decide) HN1.out)
      have HLB : Hid (∀ w', S2 base w.heap.size wX w' → w'.rangeAt (w.heap.size + 1) 0 (rsA 1 2 s p c).toList) := fun w' hb => row_rangeR (S2.row hb H2.out (by decide) (by decide) (by decide) HN2.out)
      have HN3 := Lib.hid HRX.out.n3
      have HM3 := Lib.hid HRX.out.m3
      go_upto_region 21 with fail
      refine wp_region_tree (S2 base w.heap.size wX) (.take 0 (.take 1 (.take 2 (.take 3 (.take 4 (.take 5 (.one 6 (.one 7 (.one 8 (.one 9 .nil)))))))))) (by kernel_rfl) (by kernel_rfl) (S2.of_ks (KS.of_below (below_drew1 _ _))) ?_
      have hy0 : Below wX.heap.size wX wX.drew := below_drew1 _ _
      have hsb := HSBX.out.below hy0
      have hS0 : S2 base w.heap.size wX wX.drew := S2.of_ks (KS.of_below hy0)
      have hfin := fin21 hsb (HSX.out.below hy0) (HRX.out.below hy0) (HBX.out.below hy0) (HKX.out.next hy0)
      clear hy0 HSBX HSX HRX HBX HKX
      generalize wX.drew = wD at *
      repeat (first
        | (refine tree_load rfl (by rfl) 37 _ rfl (yC.heap.size) 0 rfl (rdA T D9) _ (fun w' hb => HLA.out w' hb) Tryz.underlying37 rfl (infoRD _ (rdA_size HN3.out HM3.out)) ?_; try simp only [Act.put, List.setIfInBounds_toArray, List.set_cons_zero, List.set_cons_succ])
        | (refine tree_load rfl (by rfl) 46 _ rfl (w.heap.size + 1) 0 rfl (rsA 1 2 s p c) _ (fun w' hb => HLB.out w' hb) Tryz.underlying46 rfl (infoRS _ rfl) ?_; try simp only [Act.put, List.setIfInBounds_toArray, List.set_cons_zero, List.set_cons_succ])
        | (apply tree_take; (· rfl); (· rfl); (· (intro w' hb'; go_simp; try with_reducible rfl)); try simp only [Act.put, List.setIfInBounds_toArray, List.set_cons_zero, List.set_cons_succ]))
      clear HLA HLB H1 H2 HN1 HN2
      skip
      -- from the result's first assign: world WD, boxes hsb : SB w .. WD, hS0 : S2 base w.heap.size wX WD, hfin: what fin21 says (disk D9, T; slots s, p, c)
      refine tree_one rfl (by rfl) (fun K hK => ?_)
      go_simp
      refine Shut.out hK _ _ hS0 ?_
      clear hK K
      try simp only [Act.put, List.setIfInBounds_toArray, List.set_cons_zero, List.set_cons_succ]
      obtain ⟨f3, f4, fs, fr, fb, fk, fz⟩ := hfin
      refine tree_one rfl (by rfl) (fun K hK => oper_of_list rfl ?_)
      refine wpList_store_row rfl 37 _ _ rfl (w.heap.size + 3) (rdA T D9) rfl rfl 37 zD hsb.r3 (infoRD _ (rdA_size HN3.out HM3.out)) (by rw [rdA_size HN3.out HM3.out]; rfl) (rdA_one HN3.out HM3.out) ?_
      have hS1 := S2.set (A := rdA T D9) hS0 (.inl rfl)
      refine only_end (Shut.out hK _ _ hS1 ?_)
      clear hK K
      try simp only [Act.put]
      refine tree_one rfl (by rfl) (fun K hK => oper_of_list rfl ?_)
      refine wpList_store_row rfl 46 _ _ rfl (w.heap.size + 4) (rsA 1 2 s p c) rfl rfl 46 zS fz (infoRS _ rfl) rfl (rsA_one _ _ _ _ _) ?_
      have hS2 := S2.set (A := rsA 1 2 s p c) hS1 (.inr rfl)
      refine only_end (Shut.out hK _ _ hS2 ?_)
      clear hK K
      try simp only [Act.put]
      refine tree_one rfl (by rfl) (fun K hK => ?_)
      go_simp
      refine Shut.out hK _ _ hS2 ?_
      clear hK K
      try simp only [Act.put, List.setIfInBounds_toArray, List.set_cons_zero, List.set_cons_succ]
      refine tree_nil ?_
      go_wp2_with fail
      refine bodyPost_ret (results_tcct rfl _ _ _ _ _ _ _ _ _ _ _ _ rfl rfl f3 f4 Tryz.underlying37 rfl (infoRD _ (rdA_size HN3.out HM3.out)) Tryz.underlying46 rfl (infoRS _ rfl)) rfl ?_
      exact ⟨D9, s, sb, T, p, c, rfl, fs, fr, fb, fk, HFD9.out, HBO9.out⟩
    · refine tree_one rfl (by rfl) (fun K hK => ?_)
      go_simp
      have hy1 := hy0.alloc hy0.size (.cells zD 37)
      have hg1 : (wA.drew.alloc (.cells zD 37)).heap[wA.heap.size]? = some (.cells zD 37 (0, 0)) := heap_alloc_last wA.drew (.cells zD 37)
      refine Shut.out hK _ _ (S2.of_ks (KS.of_below hy1)) ?_
      clear hK K
      try simp only [Act.put, List.setIfInBounds_toArray, List.set_cons_zero, List.set_cons_succ]
      skip
      -- the document's call in a tree, at world (wA.drew.alloc (.cells zD 37)) with hy1 : Below wA.heap.size wA (wA.drew.alloc (.cells zD 37)): leaves T at yC, hrd, hyC
      refine tree_one rfl (by rfl) (fun K hK => ?_)
      go_simp
      refine (HCR.out (wA.drew.alloc (.cells zD 37)) hy1).mono ?_
      rintro e yC ⟨T, rfl, hrd, hb⟩
      have hyC := hy1.trans (hb.mono hy1.size)
      refine Shut.out hK _ _ (S2.of_ks (KS.of_below hyC)) ?_
      clear hK K
      try simp only [Act.put, List.setIfInBounds_toArray, List.set_cons_zero, List.set_cons_succ]
      repeat (apply tree_take; (· rfl); (· rfl); (· (intro w' hb'; go_simp; try with_reducible rfl)); try simp only [Act.put, List.setIfInBounds_toArray, List.set_cons_zero, List.set_cons_succ])
      have hgb := Below.keepOld hb hg1
      have hys := hyC
      have hgl := Nat.le_refl wA.heap.size
      have hrs := hrd
      clear hrd hb hyC hy0 hy1 hg1
      skip
      -- the new disk's box wA.heap.size (row hgb at yC, zero), hys : Below wA.heap.size wA yC, hrs : RDB yC T D9; then the error's assign; then the results
      refine tree_one rfl (by rfl) (fun K hK => oper_of_list rfl ?_)
      refine wpList_store_row rfl 37 _ _ rfl (wA.heap.size) (rdA T D9) rfl rfl 37 zD hgb (infoRD _ (rdA_size hrs.n3 hrs.m3)) (by rw [rdA_size hrs.n3 hrs.m3]; rfl) (rdA_one hrs.n3 hrs.m3) ?_
      have hyT := below_setRow hys hgl (rdA T D9)
      refine only_end (Shut.out hK _ _ (S2.of_ks (KS.of_below hyT)) ?_)
      clear hK K
      try simp only [Act.put]
      refine tree_one rfl (by rfl) (fun K hK => ?_)
      go_simp
      refine Shut.out hK _ _ (S2.of_ks (KS.of_below hyT)) ?_
      clear hK K
      try simp only [Act.put, List.setIfInBounds_toArray, List.set_cons_zero, List.set_cons_succ]
      refine tree_nil ?_
      have H1 := Lib.hid (setRow_heap _ _ _ (rdA T D9) _ _ hgb)
      have HRX : Hid (RDB ((yC).setRow (wA.heap.size) (rdA T D9)) T D9) := hrs.step (kr_turn (turns_setRow _ _ _) hgb (by decide) (by decide))
      have HSBX := Lib.hid (HSBQ.out.below hyT)
      have H2 := Lib.hid HSBX.out.r1
      have HSX := Lib.hid (HSXA.out.below hyT)
      have HBX := Lib.hid (HBA.out.below hyT)
      have HKX := Lib.hid (HKA.out.next hyT)
      have HN1 : Hid ((wA.heap.size) ≠ w.heap.size + 3 ∧ (wA.heap.size) ≠ w.heap.size + 4) := ⟨by have := HSZA.out; omega, by have := HSZA.out; omega⟩
      have HN2 : Hid (w.heap.size + 1 ≠ w.heap.size + 3 ∧ w.heap.size + 1 ≠ w.heap.size + 4) := ⟨by omega, by omega⟩
      clear hyT hys hrs hgb HSXA HBA HKA HCR HLD HLS HD1 HD3 HSBQ
      generalize (yC).setRow (wA.heap.size) (rdA T D9) = wX at *
      skip
      -- the results: world wX; HSBX : Hid (SB w .. wX); the disk's box wA.heap.size (row H1), the slots' box w.heap.size + 1 (row H2); HN1 HN2: they are no result boxes; HSX HRX HBX HKX what stands; region 21, its tree .take 0 (.take 1 (.take 2 (.take 3 (.take 4 (.take 5 (.one 6 (.one 7 (.one 8 (.one 9 .nil)))))))))
      have HLA : Hid (∀ w', S2 base w.heap.size wX w' → w'.rangeAt (wA.heap.size) 0 (rdA T D9).toList) := fun w' hb => row_rangeR (S2.row hb H1.out (by decide) (by decide) (by decide) HN1.out)
      have HLB : Hid (∀ w', S2 base w.heap.size wX w' → w'.rangeAt (w.heap.size + 1) 0 (rsA 1 2 s p c).toList) := fun w' hb => row_rangeR (S2.row hb H2.out (by decide) (by decide) (by decide) HN2.out)
      have HN3 := Lib.hid HRX.out.n3
      have HM3 := Lib.hid HRX.out.m3
      go_upto_region 21 with fail
      refine wp_region_tree (S2 base w.heap.size wX) (.take 0 (.take 1 (.take 2 (.take 3 (.take 4 (.take 5 (.one 6 (.one 7 (.one 8 (.one 9 .nil)))))))))) (by kernel_rfl) (by kernel_rfl) (S2.of_ks (KS.of_below (below_drew1 _ _))) ?_
      have hy0 : Below wX.heap.size wX wX.drew := below_drew1 _ _
      have hsb := HSBX.out.below hy0
      have hS0 : S2 base w.heap.size wX wX.drew := S2.of_ks (KS.of_below hy0)
      have hfin := fin21 hsb (HSX.out.below hy0) (HRX.out.below hy0) (HBX.out.below hy0) (HKX.out.next hy0)
      clear hy0 HSBX HSX HRX HBX HKX
      generalize wX.drew = wD at *
      repeat (first
        | (refine tree_load rfl (by rfl) 37 _ rfl (wA.heap.size) 0 rfl (rdA T D9) _ (fun w' hb => HLA.out w' hb) Tryz.underlying37 rfl (infoRD _ (rdA_size HN3.out HM3.out)) ?_; try simp only [Act.put, List.setIfInBounds_toArray, List.set_cons_zero, List.set_cons_succ])
        | (refine tree_load rfl (by rfl) 46 _ rfl (w.heap.size + 1) 0 rfl (rsA 1 2 s p c) _ (fun w' hb => HLB.out w' hb) Tryz.underlying46 rfl (infoRS _ rfl) ?_; try simp only [Act.put, List.setIfInBounds_toArray, List.set_cons_zero, List.set_cons_succ])
        | (apply tree_take; (· rfl); (· rfl); (· (intro w' hb'; go_simp; try with_reducible rfl)); try simp only [Act.put, List.setIfInBounds_toArray, List.set_cons_zero, List.set_cons_succ]))
      clear HLA HLB H1 H2 HN1 HN2
      skip
      -- from the result's first assign: world WD, boxes hsb : SB w .. WD, hS0 : S2 base w.heap.size wX WD, hfin: what fin21 says (disk D9, T; slots s, p, c)
      refine tree_one rfl (by rfl) (fun K hK => ?_)
      go_simp
      refine Shut.out hK _ _ hS0 ?_
      clear hK K
      try simp only [Act.put, List.setIfInBounds_toArray, List.set_cons_zero, List.set_cons_succ]
      obtain ⟨f3, f4, fs, fr, fb, fk, fz⟩ := hfin
      refine tree_one rfl (by rfl) (fun K hK => oper_of_list rfl ?_)
      refine wpList_store_row rfl 37 _ _ rfl (w.heap.size + 3) (rdA T D9) rfl rfl 37 zD hsb.r3 (infoRD _ (rdA_size HN3.out HM3.out)) (by rw [rdA_size HN3.out HM3.out]; rfl) (rdA_one HN3.out HM3.out) ?_
      have hS1 := S2.set (A := rdA T D9) hS0 (.inl rfl)
      refine only_end (Shut.out hK _ _ hS1 ?_)
      clear hK K
      try simp only [Act.put]
      refine tree_one rfl (by rfl) (fun K hK => oper_of_list rfl ?_)
      refine wpList_store_row rfl 46 _ _ rfl (w.heap.size + 4) (rsA 1 2 s p c) rfl rfl 46 zS fz (infoRS _ rfl) rfl (rsA_one _ _ _ _ _) ?_
      have hS2 := S2.set (A := rsA 1 2 s p c) hS1 (.inr rfl)
      refine only_end (Shut.out hK _ _ hS2 ?_)
      clear hK K
      try simp only [Act.put]
      refine tree_one rfl (by rfl) (fun K hK => ?_)
      go_simp
      refine Shut.out hK _ _ hS2 ?_
      clear hK K
      try simp only [Act.put, List.setIfInBounds_toArray, List.set_cons_zero, List.set_cons_succ]
      refine tree_nil ?_
      go_wp2_with fail
      refine bodyPost_ret (results_tcct rfl _ _ _ _ _ _ _ _ _ _ _ _ rfl rfl f3 f4 Tryz.underlying37 rfl (infoRD _ (rdA_size HN3.out HM3.out)) Tryz.underlying46 rfl (infoRS _ rfl)) rfl ?_
      exact ⟨D9, s, sb, T, p, c, rfl, fs, fr, fb, fk, HFD9.out, HBO9.out⟩
  · refine tree_one rfl (by rfl) (fun K hK => ?_)
    go_simp
    have hy1 := hy0.alloc hy0.size (.cells zD 37)
    have hg1 : (wA.drew.alloc (.cells zD 37)).heap[wA.heap.size]? = some (.cells zD 37 (0, 0)) := heap_alloc_last wA.drew (.cells zD 37)
    refine Shut.out hK _ _ (S2.of_ks (KS.of_below hy1)) ?_
    clear hK K
    try simp only [Act.put, List.setIfInBounds_toArray, List.set_cons_zero, List.set_cons_succ]
    skip
    -- the call of which in a tree: hS at the world
    refine tree_one rfl (by rfl) (fun K hK => ?_)
    go_simp
    refine (which_any o.n HNB.out _).mono ?_
    rintro e y ⟨rfl, rfl⟩
    refine Shut.out hK _ _ (S2.of_ks (KS.of_below hy1)) ?_
    clear hK K
    try simp only [Act.put, List.setIfInBounds_toArray, List.set_cons_zero, List.set_cons_succ]
    skip
    -- the document's call in a tree, at world (wA.drew.alloc (.cells zD 37)) with hy1 : Below wA.heap.size wA (wA.drew.alloc (.cells zD 37)): leaves T at yC, hrd, hyC
    refine tree_one rfl (by rfl) (fun K hK => ?_)
    go_simp
    refine (HCR.out (wA.drew.alloc (.cells zD 37)) hy1).mono ?_
    rintro e yC ⟨T, rfl, hrd, hb⟩
    have hyC := hy1.trans (hb.mono hy1.size)
    refine Shut.out hK _ _ (S2.of_ks (KS.of_below hyC)) ?_
    clear hK K
    try simp only [Act.put, List.setIfInBounds_toArray, List.set_cons_zero, List.set_cons_succ]
    repeat (apply tree_take; (· rfl); (· rfl); (· (intro w' hb'; go_simp; try with_reducible rfl)); try simp only [Act.put, List.setIfInBounds_toArray, List.set_cons_zero, List.set_cons_succ])
    have hgb := Below.keepOld hb hg1
    have hys := hyC
    have hgl := Nat.le_refl wA.heap.size
    have hrs := hrd
    clear hrd hb hyC hy0 hy1 hg1
    skip
    -- the new disk's box wA.heap.size (row hgb at yC, zero), hys : Below wA.heap.size wA yC, hrs : RDB yC T D9; then the error's assign; then the results
    refine tree_one rfl (by rfl) (fun K hK => oper_of_list rfl ?_)
    refine wpList_store_row rfl 37 _ _ rfl (wA.heap.size) (rdA T D9) rfl rfl 37 zD hgb (infoRD _ (rdA_size hrs.n3 hrs.m3)) (by rw [rdA_size hrs.n3 hrs.m3]; rfl) (rdA_one hrs.n3 hrs.m3) ?_
    have hyT := below_setRow hys hgl (rdA T D9)
    refine only_end (Shut.out hK _ _ (S2.of_ks (KS.of_below hyT)) ?_)
    clear hK K
    try simp only [Act.put]
    refine tree_one rfl (by rfl) (fun K hK => ?_)
    go_simp
    refine Shut.out hK _ _ (S2.of_ks (KS.of_below hyT)) ?_
    clear hK K
    try simp only [Act.put, List.setIfInBounds_toArray, List.set_cons_zero, List.set_cons_succ]
    refine tree_nil ?_
    have H1 := Lib.hid (setRow_heap _ _ _ (rdA T D9) _ _ hgb)
    have HRX : Hid (RDB ((yC).setRow (wA.heap.size) (rdA T D9)) T D9) := hrs.step (kr_turn (turns_setRow _ _ _) hgb (by decide) (by decide))
    have HSBX := Lib.hid (HSBQ.out.below hyT)
    have H2 := Lib.hid HSBX.out.r1
    have HSX := Lib.hid (HSXA.out.below hyT)
    have HBX := Lib.hid (HBA.out.below hyT)
    have HKX := Lib.hid (HKA.out.next hyT)
    have HN1 : Hid ((wA.heap.size) ≠ w.heap.size + 3 ∧ (wA.heap.size) ≠ w.heap.size + 4) := ⟨by have := HSZA.out; omega, by have := HSZA.out; omega⟩
    have HN2 : Hid (w.heap.size + 1 ≠ w.heap.size + 3 ∧ w.heap.size + 1 ≠ w.heap.size + 4) := ⟨by omega, by omega⟩
    clear hyT hys hrs hgb HSXA HBA HKA HCR HLD HLS HD1 HD3 HSBQ
    generalize (yC).setRow (wA.heap.size) (rdA T D9) = wX at *
    skip
    -- the results: world wX; HSBX : Hid (SB w .. wX); the disk's box wA.heap.size (row H1), the slots' box w.heap.size + 1 (row H2); HN1 HN2: they are no result boxes; HSX HRX HBX HKX what stands; region 21, its tree .take 0 (.take 1 (.take 2 (.take 3 (.take 4 (.take 5 (.one 6 (.one 7 (.one 8 (.one 9 .nil)))))))))
    have HLA : Hid (∀ w', S2 base w.heap.size wX w' → w'.rangeAt (wA.heap.size) 0 (rdA T D9).toList) := fun w' hb => row_rangeR (S2.row hb H1.out (by decide) (by decide) (by decide) HN1.out)
    have HLB : Hid (∀ w', S2 base w.heap.size wX w' → w'.rangeAt (w.heap.size + 1) 0 (rsA 1 2 s p c).toList) := fun w' hb => row_rangeR (S2.row hb H2.out (by decide) (by decide) (by decide) HN2.out)
    have HN3 := Lib.hid HRX.out.n3
    have HM3 := Lib.hid HRX.out.m3
    go_upto_region 21 with fail
    refine wp_region_tree (S2 base w.heap.size wX) (.take 0 (.take 1 (.take 2 (.take 3 (.take 4 (.take 5 (.one 6 (.one 7 (.one 8 (.one 9 .nil)))))))))) (by kernel_rfl) (by kernel_rfl) (S2.of_ks (KS.of_below (below_drew1 _ _))) ?_
    have hy0 : Below wX.heap.size wX wX.drew := below_drew1 _ _
    have hsb := HSBX.out.below hy0
    have hS0 : S2 base w.heap.size wX wX.drew := S2.of_ks (KS.of_below hy0)
    have hfin := fin21 hsb (HSX.out.below hy0) (HRX.out.below hy0) (HBX.out.below hy0) (HKX.out.next hy0)
    clear hy0 HSBX HSX HRX HBX HKX
    generalize wX.drew = wD at *
    repeat (first
      | (refine tree_load rfl (by rfl) 37 _ rfl (wA.heap.size) 0 rfl (rdA T D9) _ (fun w' hb => HLA.out w' hb) Tryz.underlying37 rfl (infoRD _ (rdA_size HN3.out HM3.out)) ?_; try simp only [Act.put, List.setIfInBounds_toArray, List.set_cons_zero, List.set_cons_succ])
      | (refine tree_load rfl (by rfl) 46 _ rfl (w.heap.size + 1) 0 rfl (rsA 1 2 s p c) _ (fun w' hb => HLB.out w' hb) Tryz.underlying46 rfl (infoRS _ rfl) ?_; try simp only [Act.put, List.setIfInBounds_toArray, List.set_cons_zero, List.set_cons_succ])
      | (apply tree_take; (· rfl); (· rfl); (· (intro w' hb'; go_simp; try with_reducible rfl)); try simp only [Act.put, List.setIfInBounds_toArray, List.set_cons_zero, List.set_cons_succ]))
    clear HLA HLB H1 H2 HN1 HN2
    skip
    -- from the result's first assign: world WD, boxes hsb : SB w .. WD, hS0 : S2 base w.heap.size wX WD, hfin: what fin21 says (disk D9, T; slots s, p, c)
    refine tree_one rfl (by rfl) (fun K hK => ?_)
    go_simp
    refine Shut.out hK _ _ hS0 ?_
    clear hK K
    try simp only [Act.put, List.setIfInBounds_toArray, List.set_cons_zero, List.set_cons_succ]
    obtain ⟨f3, f4, fs, fr, fb, fk, fz⟩ := hfin
    refine tree_one rfl (by rfl) (fun K hK => oper_of_list rfl ?_)
    refine wpList_store_row rfl 37 _ _ rfl (w.heap.size + 3) (rdA T D9) rfl rfl 37 zD hsb.r3 (infoRD _ (rdA_size HN3.out HM3.out)) (by rw [rdA_size HN3.out HM3.out]; rfl) (rdA_one HN3.out HM3.out) ?_
    have hS1 := S2.set (A := rdA T D9) hS0 (.inl rfl)
    refine only_end (Shut.out hK _ _ hS1 ?_)
    clear hK K
    try simp only [Act.put]
    refine tree_one rfl (by rfl) (fun K hK => oper_of_list rfl ?_)
    refine wpList_store_row rfl 46 _ _ rfl (w.heap.size + 4) (rsA 1 2 s p c) rfl rfl 46 zS fz (infoRS _ rfl) rfl (rsA_one _ _ _ _ _) ?_
    have hS2 := S2.set (A := rsA 1 2 s p c) hS1 (.inr rfl)
    refine only_end (Shut.out hK _ _ hS2 ?_)
    clear hK K
    try simp only [Act.put]
    refine tree_one rfl (by rfl) (fun K hK => ?_)
    go_simp
    refine Shut.out hK _ _ hS2 ?_
    clear hK K
    try simp only [Act.put, List.setIfInBounds_toArray, List.set_cons_zero, List.set_cons_succ]
    refine tree_nil ?_
    go_wp2_with fail
    refine bodyPost_ret (results_tcct rfl _ _ _ _ _ _ _ _ _ _ _ _ rfl rfl f3 f4 Tryz.underlying37 rfl (infoRD _ (rdA_size HN3.out HM3.out)) Tryz.underlying46 rfl (infoRS _ rfl)) rfl ?_
    exact ⟨D9, s, sb, T, p, c, rfl, fs, fr, fb, fk, HFD9.out, HBO9.out⟩
end Go.Proofs.YtgmahahhkaofbaaGreatDoor.Slt

namespace Go.Proofs.YtgmahahhkaofbaaGreatDoor.Slt
open Go.RowKit Go.Mir Go.Mir.Parts Dk Rol Rk Wr
open Cut

theorem xkeptS {base db : Nat} {d : DD} (w : World) (h : DX base db d w) (i : Nat) (hi : i < 3) :
    Calls Tryz.prog 26 #[.pointer (some ⟨db, 0, none⟩), .int .i64 (i : Int)] w fun e w' => ∃ p c, e = .returned (.slice p (fD d i).kept.length c) ∧ Bs w' p (fD d i).kept.length c (fD d i).kept ∧ Below w.heap.size w w' := by
  obtain ⟨h0, vs, h1⟩ := h
  have := kept_in w h1 i (fD_lt h1 hi)
  rw [fD_eq (fD_lt h1 hi)] at this
  refine this.mono ?_
  rintro e w' ⟨p, c, he, hr, hb⟩
  obtain ⟨p', c', e1, hs⟩ := hr.bs
  cases e1
  exact ⟨p, c, he, hs, hb⟩
set_option maxRecDepth 100000 in
set_option maxHeartbeats 6400000 in
theorem like21_any {base sb db : Nat} {d : DD} {s : SS} {ts : List RF} {p : Option Addr} {c : Nat} (w : World) (h : SX base sb db 1 2 d s w) (hr : RDB w ts d) (hb : RBs w p s.body.length c s.body) (ho : BodyOk s) :
    Calls Tryz.prog 11 #[.pointer (some ⟨db, 0, none⟩), .pointer (some ⟨sb, 0, none⟩), .agg (rdA ts d), .agg (rsA 1 2 s p c)] w fun e w' => e = .returned (.bool true) ∧ Below w.heap.size w w' := by
  obtain ⟨q1, q2, q3, q4⟩ := two_allocs w (.cells (rdA ts d) 37) (.cells (rsA 1 2 s p c) 46)
  have HB1 := Lib.hid q4
  have HROW := Lib.hid q1
  have HRS := Lib.hid q2
  have HSX := Lib.hid (h.below q4)
  have HX := Lib.hid (h.below q4).dx
  have HR := Lib.hid (hr.below q4)
  have HBB := Lib.hid (hb.below q4)
  have HBO := Lib.hid ho
  clear h hr hb ho q1 q2 q3 q4
  go_enter Tryz.func11, Tryz.ntmps11
  go_upto_region 1 with fail
  generalize (w.alloc (.cells (rdA ts d) 37)).alloc (.cells (rsA 1 2 s p c) 46) = w1 at *
  go_wp2_with fail
  go_loopw [9] (fun j wr => ∃ k : Nat, k ≤ 3 ∧ j = .int .i64 k ∧ Below w1.heap.size w1 wr) (fun j _ => 3 - (intOf j).toNat)
  case atStart => exact ⟨0, by omega, rfl, Below.refl _ _⟩
  case round =>
    obtain ⟨k, hk, rfl, hbw⟩ := hrel
    have HBW := Lib.hid hbw
    clear hbw
    by_cases hlt : k < 3
    · have hd : decide ((k : Int) < (3 : Int)) = true := decide_eq_true (by omega)
      have hd2 : decide (k < 3) = true := decide_eq_true hlt
      have hk1 : (k : Int) < 3 := by omega
      have HXR := Lib.hid (HX.out.below HBW.out)
      have HRR := Lib.hid (HR.out.below HBW.out)
      have HRW := Lib.hid (Below.keepOld HBW.out HROW.out)
      have hti : k < ts.length := by rw [HRR.out.n3]; exact hlt
      have ht : ts[k]? = some (ts[k]'hti) := List.getElem?_eq_getElem hti
      generalize ts[k]'hti = t at *
      have HT := Lib.hid ht
      have HF := Lib.hid (HRR.out.fd hlt)
      have HFA := Lib.hid (HRR.out.each k t _ HT.out HF.out).1.now
      have HNB : Hid ((fD d k).need ≤ 1000000) := by
        obtain ⟨t', f', _, a, _, _, b⟩ := HRR.out.at.file k hlt
        rw [HF.out] at a
        cases a; exact b
      have HLF : Hid (∀ w', Below wr.heap.size wr w' → w'.rangeAt w.heap.size (k * 2) (fA t (fD d k)).toList) := fun w' hb => rd_range HRR.out.n3 HRR.out.m3 (Below.keepOld hb HRW.out) k HT.out HF.out
      have HKP : Hid (∀ w', Below wr.heap.size wr w' → w'.cell? ⟨w.heap.size, k * 2, none⟩ = some (.slice t.kp (fD d k).kept.length t.kc)) := fun w' hb => by
        rw [cell_of_row _ _ _ _ _ _ (Below.keepOld hb HRW.out)]; exact (rdA_file HRR.out.n3 HRR.out.m3 k HT.out HF.out).1
      have HC4 : Hid (∀ w', Below wr.heap.size wr w' → (convert 22 9 (.slice t.kp (fD d k).kept.length t.kc)).run Tryz.prog w' = .ok (.string (S (fD d k).kept)) w') := fun w' hb => bconv (HFA.out.kept.below hb)
      clear ht hti HRW
      go_upto_region 4 with fail
      refine wp_region_eager_x (Below wr.heap.size wr) [(0, true), (1, true), (4, true), (5, true), (6, true), (7, true), (2, false), (3, true), (8, false), (9, true), (10, true), (11, true), (12, true), (13, true), (16, true), (17, true), (18, true), (19, true), (20, true), (21, true), (14, false), (15, true), (22, true), (23, true)] (by kernel_rfl) (by kernel_rfl) ?_ (eagerXOpen rfl ?_)
      · exact below_drew1 _ _
      have hy0 : Below wr.heap.size wr wr.drew := below_drew1 _ _
      repeat (first
        | ((with_reducible refine eagerXLoadAt 22 ?_); refine wpEagerX_load (by rfl) 34 _ rfl w.heap.size (k * 2) rfl (fA t (fD d k)) _ (fun w' hb => HLF.out w' hb) Tryz.underlying34 rfl (infoFi _ rfl) ?_; (try simp only [Act.put, List.setIfInBounds_toArray, List.set_cons_zero, List.set_cons_succ]); (try refine eagerXOpen rfl ?_))
        | (first | (apply wpEagerX_take; (· rfl); (· (intro w' hb'; go_simp; try with_reducible rfl)); (try simp only [Act.put, List.setIfInBounds_toArray, List.set_cons_zero, List.set_cons_succ]); (try refine eagerXOpen rfl ?_)) | (refine wpEagerX_skip (by rfl) ?_; (try simp only [Act.put, List.setIfInBounds_toArray, List.set_cons_zero, List.set_cons_succ]); (try refine eagerXOpen rfl ?_)) | (refine wpEager_off (by rfl) ?_; (try simp only [Act.put, List.setIfInBounds_toArray, List.set_cons_zero, List.set_cons_succ]); (try refine eagerXOpen rfl ?_))))
      (refine wpEagerX_op (by rfl) (fun K hK => ?_); go_simp; (refine (xread wr.drew (HXR.out.below hy0) k hlt).mono ?_; rintro e y ⟨p1, c1, rfl, ho, hb⟩; have HO1 := Lib.hid ho; have HY1 := Lib.hid (hy0.trans hb); have hsub : ∀ x, Below y.heap.size y x → Below wr.heap.size wr x := fun x hx => HY1.out.trans (hx.mono HY1.out.size); have hy1 : Below y.heap.size y y := Below.refl _ _; clear hb ho); refine Shut.out hK _ _ _ hsub (by assumption) ?_; clear hK K hsub; (try simp only [Act.put, List.setIfInBounds_toArray, List.set_cons_zero, List.set_cons_succ]); (try refine eagerXOpen rfl ?_))
      have HC1 : Hid (∀ w', Below y.heap.size y w' → (convert 22 9 (.slice p1 (fD d k).now.length c1)).run Tryz.prog w' = .ok (.string (S (fD d k).now)) w') := fun w' hb => bconv (HO1.out.below hb)
      repeat (first
        | (apply wpEagerX_take; (· rfl); (· (intro w' hb'; have hk' := (fun w' hb => HC1.out w' hb) w' hb'; go_split_ands; go_simp; try with_reducible rfl)); (try simp only [Act.put, List.setIfInBounds_toArray, List.set_cons_zero, List.set_cons_succ]); (try refine eagerXOpen rfl ?_))
        | (first | (apply wpEagerX_take; (· rfl); (· (intro w' hb'; go_simp; try with_reducible rfl)); (try simp only [Act.put, List.setIfInBounds_toArray, List.set_cons_zero, List.set_cons_succ]); (try refine eagerXOpen rfl ?_)) | (refine wpEagerX_skip (by rfl) ?_; (try simp only [Act.put, List.setIfInBounds_toArray, List.set_cons_zero, List.set_cons_succ]); (try refine eagerXOpen rfl ?_)) | (refine wpEager_off (by rfl) ?_; (try simp only [Act.put, List.setIfInBounds_toArray, List.set_cons_zero, List.set_cons_succ]); (try refine eagerXOpen rfl ?_))))
      (refine wpEagerX_op (by rfl) (fun K hK => ?_); go_simp; (refine (rholds_any t (fD d k) y (HFA.out.below HY1.out) HNB.out).mono ?_; rintro e y2 ⟨p2, c2, rfl, ho, hb⟩; have HO2 := Lib.hid (own_bs ho); have HY2 := Lib.hid (HY1.out.trans (hb.mono HY1.out.size)); have hsub : ∀ x, Below y2.heap.size y2 x → Below y.heap.size y x := fun x hx => hb.trans (hx.mono hb.size); have hy2 : Below y2.heap.size y2 y2 := Below.refl _ _; clear ho); refine Shut.out hK _ _ _ hsub (by assumption) ?_; clear hK K hsub; (try simp only [Act.put, List.setIfInBounds_toArray, List.set_cons_zero, List.set_cons_succ]); (try refine eagerXOpen rfl ?_))
      have HC2 : Hid (∀ w', Below y2.heap.size y2 w' → (convert 22 9 (.slice p2 (fD d k).now.length c2)).run Tryz.prog w' = .ok (.string (S (fD d k).now)) w') := fun w' hb => bconv (HO2.out.below hb)
      have HKP2 : Hid (∀ w', Below y2.heap.size y2 w' → w'.cell? ⟨w.heap.size, k * 2, none⟩ = some (.slice t.kp (fD d k).kept.length t.kc)) := fun w' hb => HKP.out w' (HY2.out.trans (hb.mono HY2.out.size))
      have HC42 : Hid (∀ w', Below y2.heap.size y2 w' → (convert 22 9 (.slice t.kp (fD d k).kept.length t.kc)).run Tryz.prog w' = .ok (.string (S (fD d k).kept)) w') := fun w' hb => HC4.out w' (HY2.out.trans (hb.mono HY2.out.size))
      repeat (first
        | (apply wpEagerX_take; (· rfl); (· (intro w' hb'; have hk' := (fun w' hb => HC2.out w' hb) w' hb'; go_split_ands; go_simp; try with_reducible rfl)); (try simp only [Act.put, List.setIfInBounds_toArray, List.set_cons_zero, List.set_cons_succ]); (try refine eagerXOpen rfl ?_))
        | (apply wpEagerX_take; (· rfl); (· (intro w' hb'; have hk' := (fun w' hb => HKP2.out w' hb) w' hb'; go_split_ands; go_simp; try with_reducible rfl)); (try simp only [Act.put, List.setIfInBounds_toArray, List.set_cons_zero, List.set_cons_succ]); (try refine eagerXOpen rfl ?_))
        | (apply wpEagerX_take; (· rfl); (· (intro w' hb'; have hk' := (fun w' hb => HC42.out w' hb) w' hb'; go_split_ands; go_simp; try with_reducible rfl)); (try simp only [Act.put, List.setIfInBounds_toArray, List.set_cons_zero, List.set_cons_succ]); (try refine eagerXOpen rfl ?_))
        | (first | (apply wpEagerX_take; (· rfl); (· (intro w' hb'; go_simp; try with_reducible rfl)); (try simp only [Act.put, List.setIfInBounds_toArray, List.set_cons_zero, List.set_cons_succ]); (try refine eagerXOpen rfl ?_)) | (refine wpEagerX_skip (by rfl) ?_; (try simp only [Act.put, List.setIfInBounds_toArray, List.set_cons_zero, List.set_cons_succ]); (try refine eagerXOpen rfl ?_)) | (refine wpEager_off (by rfl) ?_; (try simp only [Act.put, List.setIfInBounds_toArray, List.set_cons_zero, List.set_cons_succ]); (try refine eagerXOpen rfl ?_))))
      (refine wpEagerX_op (by rfl) (fun K hK => ?_); go_simp; (refine (xkeptS y2 (HXR.out.below HY2.out) k hlt).mono ?_; rintro e y3 ⟨p3, c3, rfl, ho, hb3⟩; have HO3 := Lib.hid ho; have HY3 := Lib.hid (HY2.out.trans (hb3.mono HY2.out.size)); have hsub : ∀ x, Below y3.heap.size y3 x → Below y2.heap.size y2 x := fun x hx => hb3.trans (hx.mono hb3.size); have hy3 : Below y3.heap.size y3 y3 := Below.refl _ _; clear ho); refine Shut.out hK _ _ _ hsub (by assumption) ?_; clear hK K hsub; (try simp only [Act.put, List.setIfInBounds_toArray, List.set_cons_zero, List.set_cons_succ]); (try refine eagerXOpen rfl ?_))
      have HC3 : Hid (∀ w', Below y3.heap.size y3 w' → (convert 22 9 (.slice p3 (fD d k).kept.length c3)).run Tryz.prog w' = .ok (.string (S (fD d k).kept)) w') := fun w' hb => bconv (HO3.out.below hb)
      repeat (first
        | (apply wpEagerX_take; (· rfl); (· (intro w' hb'; have hk' := (fun w' hb => HC3.out w' hb) w' hb'; go_split_ands; go_simp; try with_reducible rfl)); (try simp only [Act.put, List.setIfInBounds_toArray, List.set_cons_zero, List.set_cons_succ]); (try refine eagerXOpen rfl ?_))
        | (first | (apply wpEagerX_take; (· rfl); (· (intro w' hb'; go_simp; try with_reducible rfl)); (try simp only [Act.put, List.setIfInBounds_toArray, List.set_cons_zero, List.set_cons_succ]); (try refine eagerXOpen rfl ?_)) | (refine wpEagerX_skip (by rfl) ?_; (try simp only [Act.put, List.setIfInBounds_toArray, List.set_cons_zero, List.set_cons_succ]); (try refine eagerXOpen rfl ?_)) | (refine wpEager_off (by rfl) ?_; (try simp only [Act.put, List.setIfInBounds_toArray, List.set_cons_zero, List.set_cons_succ]); (try refine eagerXOpen rfl ?_))))
      refine eagerXEnd ?_
      clear HC1 HC2 HC3 HC4 HC42 HKP HKP2 hy0 hy1 hy2 hy3 HO1 HO2 HO3 HLF HFA HNB HT HF HXR HRR
      have HBW2 := Lib.hid (HBW.out.trans (HY3.out.mono HBW.out.size))
      clear HY1 HY2 HY3 HBW
      go_wp2_with fail
      go_roundw
      case rel => exact ⟨k + 1, by omega, by go_num, HBW2.out⟩
      case measure => simp [intOf]; omega
    · obtain rfl : k = 3 := by omega
      have hd : decide ((3 : Int) < (3 : Int)) = false := by decide
      have HB2 := Lib.hid (HB1.out.trans (HBW.out.mono HB1.out.size))
      have HGT := Lib.hid (get_any wr (HSX.out.below HBW.out) HBO.out.no (by have := HBO.out.len; omega))
      go_upto_region 6 with fail
      go_wp2_with fail
      refine HGT.out.mono ?_
      rintro e wG ⟨p6, c6, rfl, ho6, hb6⟩
      have HBG := Lib.hid (HBW.out.trans (hb6.mono HBW.out.size))
      have HB3 := Lib.hid (HB2.out.trans (hb6.mono HB2.out.size))
      have HO6 := Lib.hid (own_bs ho6)
      have HSG := Lib.hid (HSX.out.below HBG.out)
      have HRG := Lib.hid (HR.out.below HBG.out)
      have HBR := Lib.hid (HBB.out.below HBG.out)
      have HRW := Lib.hid (Below.keepOld HBG.out HROW.out)
      have HRT := Lib.hid (Below.keepOld HBG.out HRS.out)
      clear ho6 hb6 HGT HBW HB2 HSX HX HR HBB HROW HRS HB1 HBG
      have HC1 : Hid (∀ w', Below wG.heap.size wG w' → (convert 22 9 (.slice p6 s.body.length c6)).run Tryz.prog w' = .ok (.string (S s.body)) w') := fun w' hb => bconv (HO6.out.below hb)
      have HC2 : Hid (∀ w', Below wG.heap.size wG w' → (convert 22 9 (.slice p s.body.length c)).run Tryz.prog w' = .ok (.string (S s.body)) w') := fun w' hb => bconv (HBR.out.below hb).bs
      have HK2 : Hid (∀ w', Below wG.heap.size wG w' → w'.cell? ⟨w.heap.size + 1, 2, none⟩ = some (.int .i64 s.now)) := fun w' hb => (rs_cells (Below.keepOld hb HRT.out)).2.2.1
      have HK3 : Hid (∀ w', Below wG.heap.size wG w' → w'.cell? ⟨w.heap.size + 1, 3, none⟩ = some (.int .u64 (s.turn : Int))) := fun w' hb => (rs_cells (Below.keepOld hb HRT.out)).2.2.2.1
      have HK4 : Hid (∀ w', Below wG.heap.size wG w' → w'.cell? ⟨w.heap.size + 1, 4, none⟩ = some (.slice p s.body.length c)) := fun w' hb => (rs_cells (Below.keepOld hb HRT.out)).2.2.2.2.1
      have HC8 : Hid (∀ w', Below wG.heap.size wG w' → w'.cell? ⟨w.heap.size, 8, none⟩ = some (.bool d.down)) := fun w' hb => (rd_cells HRG.out.n3 HRG.out.m3 (Below.keepOld hb HRW.out)).2.2.1
      have hqg : decide ((0 : Int) < (s.turn : Int)) = decide (0 < s.turn) := by rw [decide_eq_decide]; omega
      have hqh : (decide (0 < s.turn) == decide (0 < s.turn)) = true := beq_self_eq_true _
      have hqt : ((s.turn : Int) == (s.turn : Int)) = true := beq_self_eq_true _
      have hqn : (s.now == s.now) = true := beq_self_eq_true _
      have hq3 : (d.down == d.down) = true := beq_self_eq_true _
      go_upto_region 7 with fail
      refine wp_region_eager [(0, true), (1, true), (2, true), (3, true), (4, true), (5, true), (6, true), (7, true), (8, true), (9, true), (10, true), (11, true), (12, true), (13, true), (14, true), (16, true), (17, true), (15, false), (18, true), (19, true), (20, true), (21, true), (23, true), (24, true), (22, false), (25, true), (26, true), (27, true), (28, true), (30, true), (31, true), (29, false), (32, true), (33, true), (34, true)] (by kernel_rfl) (by kernel_rfl) (eagerOpen rfl ?_)
      have hy0 : Below wG.heap.size wG wG.drew := below_drew1 _ _
      repeat (first
        | (apply wpEager_take; (· rfl); (· (intro w' hb'; have hk' := (fun w' hb => HC1.out w' hb) w' hb'; go_split_ands; go_simp; try with_reducible rfl)); (try simp only [Act.put, List.setIfInBounds_toArray, List.set_cons_zero, List.set_cons_succ]); (try refine eagerOpen rfl ?_))
        | (apply wpEager_take; (· rfl); (· (intro w' hb'; have hk' := (fun w' hb => HC2.out w' hb) w' hb'; go_split_ands; go_simp; try with_reducible rfl)); (try simp only [Act.put, List.setIfInBounds_toArray, List.set_cons_zero, List.set_cons_succ]); (try refine eagerOpen rfl ?_))
        | (apply wpEager_take; (· rfl); (· (intro w' hb'; have hk' := (fun w' hb => HK4.out w' hb) w' hb'; go_split_ands; go_simp; try with_reducible rfl)); (try simp only [Act.put, List.setIfInBounds_toArray, List.set_cons_zero, List.set_cons_succ]); (try refine eagerOpen rfl ?_))
        | (apply wpEager_take; (· rfl); (· (intro w' hb'; have hk' := (fun w' hb => HK3.out w' hb) w' hb'; go_split_ands; go_simp; try with_reducible rfl)); (try simp only [Act.put, List.setIfInBounds_toArray, List.set_cons_zero, List.set_cons_succ]); (try refine eagerOpen rfl ?_))
        | (first | (apply wpEager_take; (· rfl); (· (intro w' hb'; go_simp; try with_reducible rfl)); (try simp only [Act.put, List.setIfInBounds_toArray, List.set_cons_zero, List.set_cons_succ]); (try refine eagerOpen rfl ?_)) | (refine wpEager_skip (by rfl) ?_; (try simp only [Act.put, List.setIfInBounds_toArray, List.set_cons_zero, List.set_cons_succ]); (try refine eagerOpen rfl ?_)) | (refine wpEager_off (by rfl) ?_; (try simp only [Act.put, List.setIfInBounds_toArray, List.set_cons_zero, List.set_cons_succ]); (try refine eagerOpen rfl ?_))))
      (refine wpEager_op (by rfl) (fun K hK => ?_); go_simp; (refine (turn_any _ (HSG.out.below hy0)).mono ?_; rintro e y ⟨rfl, rfl⟩); refine Shut.out hK _ _ (by assumption) ?_; clear hK K; (try simp only [Act.put, List.setIfInBounds_toArray, List.set_cons_zero, List.set_cons_succ]); (try refine eagerOpen rfl ?_))
      repeat (first
        | (apply wpEager_take; (· rfl); (· (intro w' hb'; have hk' := (fun w' hb => HK2.out w' hb) w' hb'; go_split_ands; go_simp; try with_reducible rfl)); (try simp only [Act.put, List.setIfInBounds_toArray, List.set_cons_zero, List.set_cons_succ]); (try refine eagerOpen rfl ?_))
        | (first | (apply wpEager_take; (· rfl); (· (intro w' hb'; go_simp; try with_reducible rfl)); (try simp only [Act.put, List.setIfInBounds_toArray, List.set_cons_zero, List.set_cons_succ]); (try refine eagerOpen rfl ?_)) | (refine wpEager_skip (by rfl) ?_; (try simp only [Act.put, List.setIfInBounds_toArray, List.set_cons_zero, List.set_cons_succ]); (try refine eagerOpen rfl ?_)) | (refine wpEager_off (by rfl) ?_; (try simp only [Act.put, List.setIfInBounds_toArray, List.set_cons_zero, List.set_cons_succ]); (try refine eagerOpen rfl ?_))))
      (refine wpEager_op (by rfl) (fun K hK => ?_); go_simp; (refine (file_any _ (HSG.out.below hy0)).mono ?_; rintro e y ⟨rfl, rfl⟩); refine Shut.out hK _ _ (by assumption) ?_; clear hK K; (try simp only [Act.put, List.setIfInBounds_toArray, List.set_cons_zero, List.set_cons_succ]); (try refine eagerOpen rfl ?_))
      repeat (first
        | (apply wpEager_take; (· rfl); (· (intro w' hb'; have hk' := (fun w' hb => HC8.out w' hb) w' hb'; go_split_ands; go_simp; try with_reducible rfl)); (try simp only [Act.put, List.setIfInBounds_toArray, List.set_cons_zero, List.set_cons_succ]); (try refine eagerOpen rfl ?_))
        | (first | (apply wpEager_take; (· rfl); (· (intro w' hb'; go_simp; try with_reducible rfl)); (try simp only [Act.put, List.setIfInBounds_toArray, List.set_cons_zero, List.set_cons_succ]); (try refine eagerOpen rfl ?_)) | (refine wpEager_skip (by rfl) ?_; (try simp only [Act.put, List.setIfInBounds_toArray, List.set_cons_zero, List.set_cons_succ]); (try refine eagerOpen rfl ?_)) | (refine wpEager_off (by rfl) ?_; (try simp only [Act.put, List.setIfInBounds_toArray, List.set_cons_zero, List.set_cons_succ]); (try refine eagerOpen rfl ?_))))
      (refine wpEager_op (by rfl) (fun K hK => ?_); go_simp; (refine (xdownS _ (HSG.out.below hy0).dx).mono ?_; rintro e y ⟨rfl, rfl⟩); refine Shut.out hK _ _ (by assumption) ?_; clear hK K; (try simp only [Act.put, List.setIfInBounds_toArray, List.set_cons_zero, List.set_cons_succ]); (try refine eagerOpen rfl ?_))
      repeat (first
        | (first | (apply wpEager_take; (· rfl); (· (intro w' hb'; go_simp; try with_reducible rfl)); (try simp only [Act.put, List.setIfInBounds_toArray, List.set_cons_zero, List.set_cons_succ]); (try refine eagerOpen rfl ?_)) | (refine wpEager_skip (by rfl) ?_; (try simp only [Act.put, List.setIfInBounds_toArray, List.set_cons_zero, List.set_cons_succ]); (try refine eagerOpen rfl ?_)) | (refine wpEager_off (by rfl) ?_; (try simp only [Act.put, List.setIfInBounds_toArray, List.set_cons_zero, List.set_cons_succ]); (try refine eagerOpen rfl ?_))))
      refine eagerEnd ?_
      have HB4 := Lib.hid (HB3.out.trans (hy0.mono HB3.out.size))
      clear hy0
      go_wp2_with fail
      go_ret
      exact ⟨rfl, HB4.out⟩
end Go.Proofs.YtgmahahhkaofbaaGreatDoor.Slt
