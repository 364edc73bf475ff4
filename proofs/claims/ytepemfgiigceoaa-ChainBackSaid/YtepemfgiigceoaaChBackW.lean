/- THE WALK OF ChainBack. Conditions: none. -/
import Derived.Test.YtepemfgiigceoaaChRel
namespace Go.Proofs.Ytepemfgiigceoaa.Chn
open Go.RowKit Go.Mir Go.Mir.Parts Go.Proofs.Ytepemfgiigceoaa.Blk

theorem build_rc (p : Option Addr) (n c : Nat) : Try.prog.built 41 [(2, .slice p n c)] = some (rcA 0 0 p n c) := by kernel_rfl
theorem build_rc3 (dep : Int) (h : Int) (p : Option Addr) (n c : Nat) : Try.prog.built 41 [(0, .int .i64 dep), (1, .int .u32 h), (2, .slice p n c)] = some #[.int .i64 dep, .int .u32 h, .slice p n c] := by kernel_rfl

/-- where the second loop stands -/
def Up (W : World) (B cb d : Nat) (po : Option Addr) (co Bo : Nat) (ds : List BlkD) (rowso : List (List Value)) (h j : Nat) (wr : World) : Prop :=
  (ds = [] ∧ Rel W B cb d po co Bo ds rowso wr h []) ∨ (ds ≠ [] ∧ ∃ bs : List BlkD, bs.length = j ∧ Rel W B cb d po co Bo ds rowso wr (h + j) (win d (ds ++ bs)))
theorem Up.step {W : World} {B cb d : Nat} {po : Option Addr} {co Bo : Nat} {ds : List BlkD} {rowso : List (List Value)} {h j : Nat} {wr : World} {bs : List BlkD} {b : BlkD} (hn : ds ≠ []) (hl : bs.length = j) (hR : Rel W B cb d po co Bo ds rowso wr (h + j + 1) (cutD d (win d (ds ++ bs) ++ [b]))) : Up W B cb d po co Bo ds rowso h (j + 1) wr :=
  .inr ⟨hn, bs ++ [b], by simp [hl], by rw [win_snoc, List.append_assoc] at hR; exact hR⟩

/-- where the third loop stands -/
def Down (W : World) (B cb d : Nat) (po : Option Addr) (co Bo : Nat) (ds : List BlkD) (rowso : List (List Value)) (h n jj : Nat) (wr : World) : Prop :=
  (ds = [] ∧ jj = 0 ∧ Rel W B cb d po co Bo ds rowso wr h []) ∨
  (ds ≠ [] ∧ ∃ bs : List BlkD, bs.length = n ∧ jj < (win d (ds ++ bs)).length ∧ Rel W B cb d po co Bo ds rowso wr (h + n - jj) ((win d (ds ++ bs)).take ((win d (ds ++ bs)).length - jj)))
theorem Down.start {W : World} {B cb d : Nat} {po : Option Addr} {co Bo : Nat} {ds : List BlkD} {rowso : List (List Value)} {h n : Nat} {wr : World} (hu : Up W B cb d po co Bo ds rowso h n wr) : Down W B cb d po co Bo ds rowso h n 0 wr := by
  rcases hu with ⟨he, hu⟩ | ⟨hne, bs, hbl, hu⟩
  · exact .inl ⟨he, rfl, hu⟩
  · refine .inr ⟨hne, bs, hbl, List.length_pos_iff.2 (win_ne (by simp [hne])), ?_⟩
    rw [Nat.sub_zero, Nat.sub_zero, List.take_of_length_le (Nat.le_refl _)]
    exact hu
theorem Down.le {W : World} {B cb d : Nat} {po : Option Addr} {co Bo : Nat} {ds : List BlkD} {rowso : List (List Value)} {h n jj : Nat} {wr : World} (hu : Down W B cb d po co Bo ds rowso h n jj wr) : jj ≤ d ∧ d ≤ 16 := by
  rcases hu with ⟨he, hj, hu⟩ | ⟨hne, bs, hbl, hj, hu⟩
  · have := hu.len; omega
  · have := hu.len
    have := win_len d (ds ++ bs)
    omega

theorem disc_tip {ds : List BlkD} {t : BlkD} (h : ds.getLast? = some t) : discE ds t.hash = if ds.length < 2 then 20 else 0 := by
  unfold discE
  rw [h]
  simp
theorem Down.next {W : World} {B cb d : Nat} {po : Option Addr} {co Bo : Nat} {ds bs : List BlkD} {rowso : List (List Value)} {h n jj : Nat} {wr : World} (hne : ds ≠ []) (hb : bs.length = n) (hj : jj + 1 < (win d (ds ++ bs)).length)
    (hR : Rel W B cb d po co Bo ds rowso wr (h + n - jj - 1) ((win d (ds ++ bs)).take ((win d (ds ++ bs)).length - jj)).dropLast) : Down W B cb d po co Bo ds rowso h n (jj + 1) wr := by
  refine .inr ⟨hne, bs, hb, hj, ?_⟩
  rw [take_dropLast (by omega)] at hR
  exact hR
set_option maxRecDepth 100000 in
set_option maxHeartbeats 1600000 in
theorem law_back (k m : Nat) (hk : k < 256) (hm : m < 256) (os : List COp) (p0 : Option Addr) (c0 : Nat) (rows0 : List (List Value)) (w : World) (hO : COps w p0 os.length c0 os rows0) :
    Calls Try.prog 3 #[.int .u8 (k : Int), .slice p0 os.length c0, .int .u8 (m : Int)] w fun e w' => e = .returned (.bool true) ∧ Below w.heap.size w w' := by
  obtain ⟨Z, hz, hZ⟩ := zOp
  have HZZ := Lib.hid hZ
  obtain ⟨ZB, hzb, hZB⟩ := zBlk
  have HZB := Lib.hid hZB
  have HO := Lib.hid hO
  have hle := hO.rs.sl.le
  have hmax := hO.rs.sl.max
  have HK := Lib.hid hk
  have HMM := Lib.hid hm
  clear hZ hZB hO
  go_enter Try.func3, Try.ntmps3
  go_wp2_with fail
  refine (fewOps_any os p0 c0 rows0 _ HO.out).mono ?_
  rintro e w1 ⟨bb, rfl, hfew, hb1⟩
  have HB1 := Lib.hid hb1
  have HFEW := Lib.hid hfew
  clear hb1 hfew
  cases bb with
  | false =>
    go_wp2_with fail
    refine (alive_any _).mono ?_
    rintro e w2 ⟨rfl, hb2⟩
    have HB2 := Lib.hid (HB1.out.trans (hb2.mono HB1.out.size))
    clear hb2
    go_wp2_with fail
    go_ret
    exact ⟨rfl, HB2.out⟩
  | true =>
    obtain ⟨hfl, hfe⟩ := HFEW.out rfl
    have HFE := Lib.hid hfe
    clear HFEW hfe
    obtain ⟨d, hd, hd1, hd2⟩ : ∃ d : Nat, (1 : Int) + (k : Int) % 16 = (d : Int) ∧ 1 ≤ d ∧ d ≤ 16 := ⟨1 + k % 16, by omega, by omega, by omega⟩
    have HD := Lib.hid hd
    clear hd
    go_wp2_with fail
    rw [HD.out]
    clear HD
    refine (new_any d _ ⟨hd1, hd2⟩).mono ?_
    rintro e w2 ⟨cb, rows, rfl, hcb, hch, hb2⟩
    have HR : Hid (Rel w w1.heap.size cb d none 0 w1.heap.size [] [] w2 0 []) :=
      ⟨none, 0, rows, hch, Nat.le_refl _, ⟨World.ownsRow_nil _ _ _ _, rfl, fun i r d h => by simp at h⟩, fun k hk => by simp [Value.ownBlock] at hk, hb2.size, HB1.out.size, HB1.out.trans (hb2.mono HB1.out.size)⟩
    clear hcb hch hb2
    go_wp2_with fail
    go_loopw [39] (fun j wr => ∃ i : Nat, i ≤ os.length ∧ j = .int .i64 i ∧ ∃ h ds, Rel w w1.heap.size cb d none 0 w1.heap.size [] [] wr h ds) (fun j _ => os.length - (intOf j).toNat)
    case atStart => exact ⟨0, by omega, rfl, 0, [], HR.out⟩
    case round =>
      obtain ⟨i, hi, rfl, h, ds, hrel⟩ := hrel
      have HR := Lib.hid hrel
      clear hrel
      by_cases hlt : i < os.length
      · have hdl : decide ((i : Int) < (os.length : Int)) = true := decide_eq_true (by omega)
        obtain ⟨b, o, rfl⟩ := HO.out.rs.sl.addr (by omega) (by omega)
        obtain ⟨q, cq, hbq, hrg⟩ := HO.out.at i hlt
        have HFI := Lib.hid (HFE.out _ (List.getElem_mem hlt))
        have HBQ := Lib.hid (hbq.below HR.out.belowW)
        have HRG0 := Lib.hid (range_below hrg HR.out.belowW)
        clear hbq hrg
        generalize os[i] = oo at *
        obtain ⟨A, hA⟩ : ∃ A, A = opA oo.kind oo.nr (blkA oo.blk.hash oo.blk.par q oo.blk.txs.length cq) := ⟨_, rfl⟩
        have HAE := Lib.hid hA
        have HAS : Hid (A.size = 67) := by show _ = _; rw [hA]; exact opA_size HBQ.out.size
        have HAO : Hid (A.all (·.oneCell') = true) := by show _ = _; rw [hA]; exact opA_one HBQ.out.one
        rw [← hA] at HRG0
        have HAL : Hid (A.toList.length = 67) := by show _ = _; rw [Array.length_toList]; exact HAS.out
        clear hA
        have HNW := Lib.hid (box_new wr Z 35)
        have HBR := Lib.hid (box_row wr Z A 35)
        have HBB := Lib.hid (box_below wr Z A 35)
        have HR3 := Lib.hid (HR.out.below HBB.out)
        have HBQ3 := Lib.hid (HBQ.out.below HBB.out)
        have HSW : Hid (wr.heap.size < ((wr.alloc (.cells Z 35)).setRow wr.heap.size A).heap.size) := (Array.getElem?_eq_some_iff.1 HBR.out).1
        go_wp2_with (first
          | ((with_reducible refine wpAt 42 ?_); refine wpList_load_mid rfl 35 _ rfl b (o + i * 67) rfl A.toList _ HRG0.out Try.underlying35 rfl (infoOp _ HAL.out) ?_)
          | ((with_reducible refine wpStoreAt 11 ?_); refine wpList_store_row rfl 35 _ _ rfl wr.heap.size A rfl rfl 35 Z HNW.out (infoOp _ HAS.out) (HZZ.out.trans HAS.out.symm) HAO.out ?_))
        generalize (wr.alloc (.cells Z 35)).setRow wr.heap.size A = w3 at *
        have HMA : Hid (∀ w', Below w3.heap.size w3 w' → w'.rangeAt wr.heap.size 0 A.toList) := fun w' hb => row_rangeC (Below.keepOld hb HBR.out)
        have bld := fun w0 p n c => run_build (P := Try.prog) w0 41 #[(2, .slice p n c)] _ (build_rc p n c)
        refine wp_region_eager_t (Below w3.heap.size w3) [0, 3, 2] [(0, true), (3, true), (1, false), (2, true), (4, false)] [5] (by kernel_rfl) (by kernel_rfl) ?_ (eagerTOpen rfl ?_)
        · exact below_drew1 _ _
        have hy0 : Below w3.heap.size w3 w3.drew := below_drew1 _ _
        repeat (first
          | ((with_reducible refine eagerTLoadAt 11 ?_); refine wpEagerT_load (by rfl) 35 _ rfl wr.heap.size 0 rfl A _ (fun w' hb => HMA.out w' hb) Try.underlying35 rfl (infoOp _ HAS.out) ?_; (try simp only [Act.put, List.setIfInBounds_toArray, List.set_cons_zero, List.set_cons_succ]); (try refine eagerTOpen rfl ?_))
          | (first | (apply wpEagerT_take; (· rfl); (· (intro w' hb'; go_simp; try with_reducible rfl)); (try simp only [Act.put, List.setIfInBounds_toArray, List.set_cons_zero, List.set_cons_succ]); (try refine eagerTOpen rfl ?_)) | (refine wpEagerT_skip (by rfl) ?_; (try simp only [Act.put, List.setIfInBounds_toArray, List.set_cons_zero, List.set_cons_succ]); (try refine eagerTOpen rfl ?_))))
        (refine wpEagerT_op (by rfl) (fun K hK => ?_); go_simp; (refine (win_rel (HR3.out.below (below_drew1 _ _))).mono ?_; rintro e y ⟨p2, c2, rows2, rfl, hown, hb⟩; have HOW := Lib.hid hown; have hy1 : Below w3.heap.size w3 y := hy0.trans hb; clear hown hb); refine Shut.out hK _ _ (by assumption) ?_; clear hK K; (try simp only [Act.put, List.setIfInBounds_toArray, List.set_cons_zero, List.set_cons_succ]); (try refine eagerTOpen rfl ?_))
        repeat (first | (apply wpEagerT_take; (· rfl); (· (intro w' hb'; go_simp; try with_reducible rfl)); (try simp only [Act.put, List.setIfInBounds_toArray, List.set_cons_zero, List.set_cons_succ]); (try refine eagerTOpen rfl ?_)) | (refine wpEagerT_skip (by rfl) ?_; (try simp only [Act.put, List.setIfInBounds_toArray, List.set_cons_zero, List.set_cons_succ]); (try refine eagerTOpen rfl ?_)))
        (refine wpEagerT_op (by rfl) (fun K hK => ?_); go_simp; (have hnear := near_any 0 0 ds p2 c2 rows2 oo q cq y HOW.out.bks (HBQ3.out.below hy1); rw [← HAE.out] at hnear; refine hnear.mono ?_; rintro e y2 ⟨rfl, hl1, hl2, hb4⟩; have hy2 : Below w3.heap.size w3 y2 := hy1.trans (hb4.mono hy1.size); clear hb4); refine Shut.out hK _ _ (by assumption) ?_; clear hK K; (try simp only [Act.put, List.setIfInBounds_toArray, List.set_cons_zero, List.set_cons_succ]); (try refine eagerTOpen rfl ?_))
        refine eagerTEnd (tail1 rfl ?_)
        have HND := Lib.hid (And.intro (nearD_txs ds oo) (nearD_kind ds oo))
        generalize nearD ds oo = nd at *
        have HBN : Hid (BlkAt y2 (blkA nd.blk.hash nd.blk.par q nd.blk.txs.length cq) nd.blk q nd.blk.txs.length cq) := ⟨rfl, hl1, hl2, by rw [HND.out.1]; exact (HBQ3.out.below hy2).ids⟩
        obtain ⟨NB, hNB⟩ : ∃ NB, NB = blkA nd.blk.hash nd.blk.par q nd.blk.txs.length cq := ⟨_, rfl⟩
        rw [← hNB] at HBN ⊢
        have HNB := Lib.hid hNB
        clear hNB
        have HNS := Lib.hid HBN.out.size
        have HNO : Hid ((opA nd.kind nd.nr NB).size = 67) := opA_size HBN.out.size
        have HN1 : Hid ((opA nd.kind nd.nr NB).all (·.oneCell') = true) := opA_one HBN.out.one
        have HRY := Lib.hid (Below.keepOld hy2 HBR.out)
        have HSF := Lib.hid (setRow_heap _ _ _ (opA nd.kind nd.nr NB) _ _ HRY.out)
        have HB5 : Hid (Below wr.heap.size wr (y2.setRow wr.heap.size (opA nd.kind nd.nr NB))) := below_setRow (HBB.out.trans (hy2.mono (Nat.le_of_lt HSW.out))) (Nat.le_refl _) _
        have HR5 := Lib.hid (HR.out.below HB5.out)
        have HBN5 : Hid (BlkAt (y2.setRow wr.heap.size (opA nd.kind nd.nr NB)) NB nd.blk q nd.blk.txs.length cq) := ⟨HBN.out.arr, HBN.out.hlen, HBN.out.plen, by rw [HND.out.1]; exact (HBQ.out.below HB5.out).ids⟩
        have HTX : Hid (nd.blk.txs.length ≤ 1099511627776) := by show _ ≤ _; rw [HND.out.1]; have := HFI.out; omega
        clear hy0 hy1 hy2 hl1 hl2
        go_wp2_with ((with_reducible refine wpStoreAt 11 ?_); refine wpList_store_row rfl 35 _ _ rfl wr.heap.size (opA nd.kind nd.nr NB) rfl rfl 35 A HRY.out (infoOp _ HNO.out) (by rw [HAS.out, HNO.out]) HN1.out ?_)
        refine noPanic_end ?_
        generalize y2.setRow wr.heap.size (opA nd.kind nd.nr NB) = w5 at *
        have hkc := (opA_cell HSF.out).1
        have HMID := Lib.hid (opA_blk HSF.out)
        have HNL : Hid (NB.toList.length = 65) := by show _ = _; rw [Array.length_toList]; exact HNS.out
        clear bld
        by_cases hk0 : nd.kind = 0
        · have hkb : (nd.kind == 0) = true := by rw [beq_iff_eq]; exact hk0
          clear hk0
          go_wp2_with ((with_reducible refine wpAt 53 ?_); refine wpList_load_mid rfl 33 _ rfl wr.heap.size 2 rfl NB.toList _ HMID.out Try.underlying33 rfl (infoBlk _ HNL.out) ?_)
          refine (conn_rel HR5.out NB nd.blk q _ cq HBN5.out HTX.out).mono ?_
          rintro e w6 ⟨rfl, hy, hn⟩
          have HEX : Hid (∃ h' ds', Rel w w1.heap.size cb d none 0 w1.heap.size [] [] w6 h' ds') := by
            by_cases hm : mayE ds h nd.blk = 0
            · exact ⟨_, _, hy hm⟩
            · exact ⟨_, _, (hn hm).1⟩
          clear hy hn
          generalize mayE ds h nd.blk = E at *
          go_wp2_with fail
          go_roundw
          case rel => exact ⟨i + 1, by omega, by go_num, HEX.out⟩
          case measure => simp [intOf]; omega
        · have hkb : (nd.kind == 0) = false := by rw [beq_eq_false_iff_ne]; exact hk0
          have HHR : Hid (w5.rangeAt wr.heap.size 2 (idA nd.blk.hash).toList) := by
            intro j v hv
            refine HMID.out j v ?_
            rw [HNB.out, blkA_toList, List.append_assoc, List.getElem?_append_left (by have := (List.getElem?_eq_some_iff.1 hv).1; rwa [idA_toList] at this)]
            rwa [idA_toList] at hv
          have HHL : Hid ((idA nd.blk.hash).toList.length = 32) := by show _ = _; rw [Array.length_toList, idA_size]; exact HBN5.out.hlen
          clear hk0
          go_wp2_with ((with_reducible refine wpAt 58 ?_); refine wpList_load_mid rfl 30 _ rfl wr.heap.size 2 rfl (idA nd.blk.hash).toList _ HHR.out Try.underlying30 rfl (infoI _ HHL.out) ?_)
          refine (disc_rel HR5.out nd.blk.hash HBN5.out.hlen).mono ?_
          rintro e w6 ⟨rfl, hy, hn⟩
          have HEX : Hid (∃ h' ds', Rel w w1.heap.size cb d none 0 w1.heap.size [] [] w6 h' ds') := by
            by_cases hm : discE ds nd.blk.hash = 0
            · exact ⟨_, _, hy hm⟩
            · exact ⟨_, _, (hn hm).1⟩
          clear hy hn
          generalize discE ds nd.blk.hash = E at *
          go_wp2_with fail
          go_roundw
          case rel => exact ⟨i + 1, by omega, by go_num, HEX.out⟩
          case measure => simp [intOf]; omega
      · have hdl : decide ((i : Int) < (os.length : Int)) = false := decide_eq_false (by omega)
        go_wp2_with fail
        refine (win_rel HR.out).mono ?_
        rintro e w3 ⟨po, co, rowso, rfl, hown, hb3⟩
        have HR3 := Lib.hid (HR.out.keep hown hb3)
        clear hown hb3
        generalize hBo : wr.heap.size = Bo at *
        clear hBo
        go_wp2_with fail
        refine (height_rel HR3.out).mono ?_
        rintro e w' ⟨rfl, hw⟩
        subst hw
        have hle0 := HR3.out.len
        have hd0 : ((d : Int) == 0) = false := by rw [beq_eq_false_iff_ne]; omega
        obtain ⟨n, hn, hnd⟩ : ∃ n : Nat, (m : Int) % (d : Int) = (n : Int) ∧ n < d := ⟨m % d, by omega, Nat.mod_lt _ (by omega)⟩
        have HN := Lib.hid hn
        clear hn
        go_wp2_with fail
        rw [HN.out]
        clear HN
        have HUP : Hid (Up w w1.heap.size cb d po co Bo ds rowso h 0 w3) := by
          by_cases he : ds = []
          · refine .inl ⟨he, ?_⟩
            have := HR3.out
            subst he
            exact this
          · refine .inr ⟨he, [], rfl, ?_⟩
            rw [List.append_nil, win_small hle0.1]
            exact HR3.out
        have hnn : n < 16 := by omega
        go_loopw [15] (fun v wr => ∃ j : Nat, j ≤ n ∧ v = .int .i64 j ∧ Up w w1.heap.size cb d po co Bo ds rowso h j wr) (fun v _ => n - (intOf v).toNat)
        case atStart => exact ⟨0, by omega, rfl, HUP.out⟩
        case round =>
          obtain ⟨j, hj, rfl, hup⟩ := hrel
          by_cases hjn : j < n
          · have hdj : decide ((j : Int) < (n : Int)) = true := decide_eq_true (by omega)
            rcases hup with ⟨he, hup⟩ | ⟨hne, bs, hbl, hup⟩
            · have HU := Lib.hid hup
              have HE0 := Lib.hid he
              clear hup he
              go_wp2_with fail
              refine (tip_rel HU.out).mono ?_
              rintro e w4 ⟨A, t, qt, nt, ct, rfl, ht, _, hb4⟩
              rw [show ([] : List BlkD).getLast?.isSome = false from rfl]
              have HT := Lib.hid ht
              have HAS := Lib.hid ht.size
              have HAO := Lib.hid ht.one
              have HTL := Lib.hid ht.hlen
              have HHS : Hid ((idA t.hash).toList.length = 32) := by show _ = _; rw [Array.length_toList, idA_size, ht.hlen]
              have HNW := Lib.hid (box_new w4 ZB 33)
              have HBR := Lib.hid (box_row w4 ZB A 33)
              have HB5 := Lib.hid (hb4.trans ((box_below w4 ZB A 33).mono hb4.size))
              have HPA := Lib.hid (ht.parts HBR.out).1
              have HBI := Lib.hid (build_hid j (by omega))
              have hbB := Lib.hid (build_blk (hid j) t.hash (hid_len j) HTL.out)
              have HNB : Hid (∀ w', BlkAt w' (blkA (hid j) t.hash none 0 0) ⟨hid j, t.hash, []⟩ none 0 0) := fun w' => ⟨rfl, hid_len j, HTL.out, Is.nil _ _⟩
              obtain ⟨NB, hNB⟩ : ∃ NB, NB = blkA (hid j) t.hash none 0 0 := ⟨_, rfl⟩
              rw [← hNB] at HNB hbB
              clear hNB ht hb4
              have HNS := Lib.hid (HNB.out wr).size
              have HNO := Lib.hid (HNB.out wr).one
              go_upto_region 22 with ((with_reducible refine wpStoreAt 16 ?_); refine wpList_store_row rfl 33 _ _ rfl w4.heap.size A rfl rfl 33 ZB HNW.out (infoBlk _ HAS.out) (HZB.out.trans HAS.out.symm) HAO.out ?_)
              generalize (w4.alloc (.cells ZB 33)).setRow w4.heap.size A = w5 at *
              have HNW2 := Lib.hid (box_new w5 ZB 33)
              have HBR2 := Lib.hid (box_row w5 ZB NB 33)
              have HB6 := Lib.hid (HB5.out.trans ((box_below w5 ZB NB 33).mono HB5.out.size))
              have HU6 := Lib.hid (HU.out.below HB6.out)
              go_wp2_with (first
                | ((with_reducible refine wpAt 81 ?_); refine wpList_build rfl 30 _ rfl [(0, .int .u8 200), (1, .int .u8 (j : Int))] rfl _ HBI.out ?_)
                | ((with_reducible refine wpAt 84 ?_); refine wpList_build rfl 33 _ rfl [(0, .agg (idA (hid j))), (1, .agg (idA t.hash))] rfl NB hbB.out ?_)
                | ((with_reducible refine wpAt 83 ?_); refine wpList_load_mid rfl 30 _ rfl w4.heap.size 0 rfl (idA t.hash).toList _ HPA.out Try.underlying30 rfl (infoI _ HHS.out) ?_)
                | ((with_reducible refine wpStoreAt 18 ?_); refine wpList_store_row rfl 33 _ _ rfl w5.heap.size NB rfl rfl 33 ZB HNW2.out (infoBlk _ HNS.out) (HZB.out.trans HNS.out.symm) HNO.out ?_)
                | ((with_reducible refine wpAt 88 ?_); refine wpList_load_row_g (by rfl) 33 _ rfl w5.heap.size rfl 33 NB (0, 0) _ HBR2.out Try.underlying33 rfl (infoBlk _ HNS.out) ?_))
              have HEND : Hid (Up w w1.heap.size cb d po co Bo ds rowso h (j + 1) ((w5.alloc (.cells ZB 33)).setRow w5.heap.size NB)) := .inl ⟨HE0.out, HU6.out⟩
              go_roundw
              case rel => exact ⟨j + 1, by omega, by go_num, HEND.out⟩
              case measure => simp [intOf]; omega
            · have HU := Lib.hid hup
              have HNE := Lib.hid (win_ne (d := d) (l := ds ++ bs) (by simp [hne]))
              have HBL := Lib.hid hbl
              have HNN := Lib.hid hne
              clear hup hbl hne
              go_wp2_with fail
              refine (tip_rel HU.out).mono ?_
              rintro e w4 ⟨A, t, qt, nt, ct, rfl, ht, _, hb4⟩
              rw [show (win d (ds ++ bs)).getLast?.isSome = true by
                cases hgl : (win d (ds ++ bs)).getLast? with
                | none => exact absurd (List.getLast?_eq_none_iff.1 hgl) HNE.out
                | some _ => rfl]
              have HT := Lib.hid ht
              have HAS := Lib.hid ht.size
              have HAO := Lib.hid ht.one
              have HTL := Lib.hid ht.hlen
              have HHS : Hid ((idA t.hash).toList.length = 32) := by show _ = _; rw [Array.length_toList, idA_size, ht.hlen]
              have HNW := Lib.hid (box_new w4 ZB 33)
              have HBR := Lib.hid (box_row w4 ZB A 33)
              have HB5 := Lib.hid (hb4.trans ((box_below w4 ZB A 33).mono hb4.size))
              have HPA := Lib.hid (ht.parts HBR.out).1
              have HBI := Lib.hid (build_hid j (by omega))
              have hbB := Lib.hid (build_blk (hid j) t.hash (hid_len j) HTL.out)
              have HNB : Hid (∀ w', BlkAt w' (blkA (hid j) t.hash none 0 0) ⟨hid j, t.hash, []⟩ none 0 0) := fun w' => ⟨rfl, hid_len j, HTL.out, Is.nil _ _⟩
              obtain ⟨NB, hNB⟩ : ∃ NB, NB = blkA (hid j) t.hash none 0 0 := ⟨_, rfl⟩
              rw [← hNB] at HNB hbB
              clear hNB ht hb4
              have HNS := Lib.hid (HNB.out wr).size
              have HNO := Lib.hid (HNB.out wr).one
              go_upto_region 22 with ((with_reducible refine wpStoreAt 16 ?_); refine wpList_store_row rfl 33 _ _ rfl w4.heap.size A rfl rfl 33 ZB HNW.out (infoBlk _ HAS.out) (HZB.out.trans HAS.out.symm) HAO.out ?_)
              generalize (w4.alloc (.cells ZB 33)).setRow w4.heap.size A = w5 at *
              have HNW2 := Lib.hid (box_new w5 ZB 33)
              have HBR2 := Lib.hid (box_row w5 ZB NB 33)
              have HB6 := Lib.hid (HB5.out.trans ((box_below w5 ZB NB 33).mono HB5.out.size))
              have HU6 := Lib.hid (HU.out.below HB6.out)
              go_wp2_with (first
                | ((with_reducible refine wpAt 81 ?_); refine wpList_build rfl 30 _ rfl [(0, .int .u8 200), (1, .int .u8 (j : Int))] rfl _ HBI.out ?_)
                | ((with_reducible refine wpAt 84 ?_); refine wpList_build rfl 33 _ rfl [(0, .agg (idA (hid j))), (1, .agg (idA t.hash))] rfl NB hbB.out ?_)
                | ((with_reducible refine wpAt 83 ?_); refine wpList_load_mid rfl 30 _ rfl w4.heap.size 0 rfl (idA t.hash).toList _ HPA.out Try.underlying30 rfl (infoI _ HHS.out) ?_)
                | ((with_reducible refine wpStoreAt 18 ?_); refine wpList_store_row rfl 33 _ _ rfl w5.heap.size NB rfl rfl 33 ZB HNW2.out (infoBlk _ HNS.out) (HZB.out.trans HNS.out.symm) HNO.out ?_)
                | ((with_reducible refine wpAt 88 ?_); refine wpList_load_row_g (by rfl) 33 _ rfl w5.heap.size rfl 33 NB (0, 0) _ HBR2.out Try.underlying33 rfl (infoBlk _ HNS.out) ?_))
              generalize (w5.alloc (.cells ZB 33)).setRow w5.heap.size NB = w6 at *
              have HLE6 := HU6.out.len
              refine (conn_rel HU6.out NB ⟨hid j, t.hash, []⟩ none 0 0 (HNB.out _) (by omega)).mono ?_
              rintro e w7 ⟨rfl, hy, hn⟩
              by_cases hm : mayE (win d (ds ++ bs)) (h + j) ⟨hid j, t.hash, []⟩ = 0
              · have HEND := Lib.hid (Up.step HNN.out HBL.out (hy hm))
                rw [hm]
                clear hy hn hm
                go_wp2_with fail
                go_roundw
                case rel => exact ⟨j + 1, by omega, by go_num, HEND.out⟩
                case measure => simp [intOf]; omega
              · have HU7 := Lib.hid (hn hm).1
                have HB27 : Hid (w7.heap[w5.heap.size]? = some (.cells NB 33 (0, 0))) := Below.keepOld (hn hm).2 HBR2.out
                have hmb : (mayE (win d (ds ++ bs)) (h + j) ⟨hid j, t.hash, []⟩ != 0) = true := by rw [bne_iff_ne]; exact hm
                clear hy hn hm
                go_wp2_with fail
                have HRW7 : Hid (∀ w', Below w7.heap.size w7 w' → w'.rangeAt w5.heap.size 0 NB.toList) := fun w' hb => row_rangeC (Below.keepOld hb HB27.out)
                have hlp : decide ((0 : Int) < (ds.length : Int)) = true := decide_eq_true (by have := List.length_pos_iff.2 HNN.out; omega)
                have hlp2 : decide (0 < ds.length) = true := decide_eq_true (List.length_pos_iff.2 HNN.out)
                have hwj : IntKind.u32.wrap (j : Int) = (j : Int) := IntWalk.u32_in _ (by omega)
                have hwh : IntKind.u32.wrap ((h : Int) + (j : Int)) = (h : Int) + (j : Int) := IntWalk.u32_in _ (by omega)
                refine wp_region_eager [(0, true), (1, true), (2, true), (3, true), (4, true), (5, true), (6, true), (7, true), (8, true), (9, true), (12, true), (10, false), (11, true), (13, false), (14, true), (15, true), (16, true), (17, false), (18, true), (19, true)] (by kernel_rfl) (by kernel_rfl) (eagerOpen rfl ?_)
                have hy0 : Below w7.heap.size w7 w7.drew := below_drew1 _ _
                repeat (first
                  | ((with_reducible refine eagerLoadAt 18 ?_); refine wpEager_load (by rfl) 33 _ rfl w5.heap.size 0 rfl NB _ (fun w' hb => HRW7.out w' hb) Try.underlying33 rfl (infoBlk _ HNS.out) ?_; (try simp only [Act.put, List.setIfInBounds_toArray, List.set_cons_zero, List.set_cons_succ]); (try refine eagerOpen rfl ?_))
                  | (first | (apply wpEager_take; (· rfl); (· (intro w' hb'; go_simp; try with_reducible rfl)); (try simp only [Act.put, List.setIfInBounds_toArray, List.set_cons_zero, List.set_cons_succ]); (try refine eagerOpen rfl ?_)) | (refine wpEager_skip (by rfl) ?_; (try simp only [Act.put, List.setIfInBounds_toArray, List.set_cons_zero, List.set_cons_succ]); (try refine eagerOpen rfl ?_)) | (refine wpEager_off (by rfl) ?_; (try simp only [Act.put, List.setIfInBounds_toArray, List.set_cons_zero, List.set_cons_succ]); (try refine eagerOpen rfl ?_))))
                (refine wpEager_op (by rfl) (fun K hK => ?_); go_simp; (refine (win_rel (HU7.out.below (below_drew1 _ _))).mono ?_; rintro e y ⟨p2, c2, rows2, rfl, hown, hb⟩; have HOW := Lib.hid hown; have hy1 := hy0.trans hb; clear hown hb); refine Shut.out hK _ _ (by assumption) ?_; clear hK K; (try simp only [Act.put, List.setIfInBounds_toArray, List.set_cons_zero, List.set_cons_succ]); (try refine eagerOpen rfl ?_))
                repeat (first
                  | ((with_reducible refine eagerAt 103 ?_); refine wpEager_build (by rfl) 41 _ rfl [(0, .int .i64 (d : Int)), (1, .int .u32 ((h : Int) + (j : Int))), (2, .slice p2 (win d (ds ++ bs)).length c2)] rfl _ (build_rc3 _ _ _ _ _) ?_; (try simp only [Act.put, List.setIfInBounds_toArray, List.set_cons_zero, List.set_cons_succ]); (try refine eagerOpen rfl ?_))
                  | ((with_reducible refine eagerLoadAt 18 ?_); refine wpEager_load (by rfl) 33 _ rfl w5.heap.size 0 rfl NB _ (fun w' hb => HRW7.out w' hb) Try.underlying33 rfl (infoBlk _ HNS.out) ?_; (try simp only [Act.put, List.setIfInBounds_toArray, List.set_cons_zero, List.set_cons_succ]); (try refine eagerOpen rfl ?_))
                  | (first | (apply wpEager_take; (· rfl); (· (intro w' hb'; go_simp; try with_reducible rfl)); (try simp only [Act.put, List.setIfInBounds_toArray, List.set_cons_zero, List.set_cons_succ]); (try refine eagerOpen rfl ?_)) | (refine wpEager_skip (by rfl) ?_; (try simp only [Act.put, List.setIfInBounds_toArray, List.set_cons_zero, List.set_cons_succ]); (try refine eagerOpen rfl ?_)) | (refine wpEager_off (by rfl) ?_; (try simp only [Act.put, List.setIfInBounds_toArray, List.set_cons_zero, List.set_cons_succ]); (try refine eagerOpen rfl ?_))))
                (refine wpEager_op (by rfl) (fun K hK => ?_); go_simp; (have hmay := rMay_any (d : Int) (h + j) (win d (ds ++ bs)) p2 c2 rows2 ⟨hid j, t.hash, []⟩ NB none 0 0 y HOW.out.bks (HNB.out y); simp only [rcA, Int.natCast_add] at hmay; refine hmay.mono ?_; rintro e y2 ⟨rfl, hb4⟩; have hy2 := hy1.trans (hb4.mono hy1.size); clear hb4); refine Shut.out hK _ _ (by assumption) ?_; clear hK K; (try simp only [Act.put, List.setIfInBounds_toArray, List.set_cons_zero, List.set_cons_succ]); (try refine eagerOpen rfl ?_))
                repeat (first | (apply wpEager_take; (· rfl); (· (intro w' hb'; go_simp; try with_reducible rfl)); (try simp only [Act.put, List.setIfInBounds_toArray, List.set_cons_zero, List.set_cons_succ]); (try refine eagerOpen rfl ?_)) | (refine wpEager_skip (by rfl) ?_; (try simp only [Act.put, List.setIfInBounds_toArray, List.set_cons_zero, List.set_cons_succ]); (try refine eagerOpen rfl ?_)) | (refine wpEager_off (by rfl) ?_; (try simp only [Act.put, List.setIfInBounds_toArray, List.set_cons_zero, List.set_cons_succ]); (try refine eagerOpen rfl ?_)))
                (refine wpEager_op (by rfl) (fun K hK => ?_); go_simp; (refine (alive_any _).mono ?_; rintro e y3 ⟨rfl, hb5⟩; have hy3 := hy2.trans (hb5.mono hy2.size); clear hb5); refine Shut.out hK _ _ (by assumption) ?_; clear hK K; (try simp only [Act.put, List.setIfInBounds_toArray, List.set_cons_zero, List.set_cons_succ]); (try refine eagerOpen rfl ?_))
                repeat (first | (apply wpEager_take; (· rfl); (· (intro w' hb'; go_simp; try with_reducible rfl)); (try simp only [Act.put, List.setIfInBounds_toArray, List.set_cons_zero, List.set_cons_succ]); (try refine eagerOpen rfl ?_)) | (refine wpEager_skip (by rfl) ?_; (try simp only [Act.put, List.setIfInBounds_toArray, List.set_cons_zero, List.set_cons_succ]); (try refine eagerOpen rfl ?_)) | (refine wpEager_off (by rfl) ?_; (try simp only [Act.put, List.setIfInBounds_toArray, List.set_cons_zero, List.set_cons_succ]); (try refine eagerOpen rfl ?_)))
                refine eagerEnd ?_
                have HBF := Lib.hid (HU7.out.belowW.trans (hy3.mono HU7.out.belowW.size))
                clear hy0 hy1 hy2 hy3
                go_wp2_with fail
                go_ret
                exact ⟨rfl, HBF.out⟩
          · have hdj : decide ((j : Int) < (n : Int)) = false := decide_eq_false (by omega)
            obtain rfl : j = n := by omega
            have HUP2 := Lib.hid hup
            clear hup hdj hj
            have hL := (win_len d ds)
            go_wp2_with fail
            go_loopw [19] (fun v wr => ∃ jj : Nat, v = .int .i64 jj ∧ Down w w1.heap.size cb d po co Bo ds rowso h j jj wr) (fun v _ => 17 - (intOf v).toNat)
            case atStart => exact ⟨0, rfl, Down.start HUP2.out⟩
            case round =>
              obtain ⟨jj, rfl, hdn⟩ := hrel
              have h50 := hdn.le
              rcases hdn with ⟨he, rfl, hdn⟩ | ⟨hne, bs, hbl, hjl, hdn⟩
              · have HU := Lib.hid hdn
                have HE0 := Lib.hid he
                clear hdn he
                go_wp2_with fail
                refine (tip_rel HU.out).mono ?_
                rintro e w4 ⟨A, t, qt, nt, ct, rfl, ht, _, hb4⟩
                rw [show ([] : List BlkD).getLast?.isSome = false from rfl]
                have HT := Lib.hid ht
                have HAS := Lib.hid ht.size
                have HAO := Lib.hid ht.one
                have HTL := Lib.hid ht.hlen
                have HHS : Hid ((idA t.hash).toList.length = 32) := by show _ = _; rw [Array.length_toList, idA_size, ht.hlen]
                have HNW := Lib.hid (box_new w4 ZB 33)
                have HBR := Lib.hid (box_row w4 ZB A 33)
                have HB5 := Lib.hid (hb4.trans ((box_below w4 ZB A 33).mono hb4.size))
                have HPA := Lib.hid (ht.parts HBR.out).1
                have HU5 := Lib.hid (HU.out.below HB5.out)
                clear ht hb4
                go_upto_region 28 with ((with_reducible refine wpStoreAt 20 ?_); refine wpList_store_row rfl 33 _ _ rfl w4.heap.size A rfl rfl 33 ZB HNW.out (infoBlk _ HAS.out) (HZB.out.trans HAS.out.symm) HAO.out ?_)
                generalize (w4.alloc (.cells ZB 33)).setRow w4.heap.size A = w5 at *
                have h0d : decide ((0 : Int) ≤ (d : Int)) = true := decide_eq_true (by omega)
                by_cases hn0 : j = 0
                · have hnb : ((0 : Int) == (j : Int)) = true := by rw [beq_iff_eq]; omega
                  clear hn0
                  refine wp_region_grow (by kernel_rfl) (by kernel_rfl) ?_
                  repeat (first
                    | ((with_reducible refine wpQuietGd ?_); (with_reducible refine wpQuiet_skip ?_ ?_); (· rfl); simp only [Act.put, List.setIfInBounds_toArray, List.set_cons_zero, List.set_cons_succ])
                    | quiet_step (fail))
                  refine wpQuiet_nil ?_
                  intro w6 hb6
                  have HBW := Lib.hid (HU5.out.belowW.trans (hb6.mono HU5.out.belowW.size))
                  clear hb6
                  go_wp2_with fail
                  refine (alive_any _).mono ?_
                  rintro e w7 ⟨rfl, hb7⟩
                  have HBF := Lib.hid (HBW.out.trans (hb7.mono HBW.out.size))
                  clear hb7
                  go_wp2_with fail
                  go_ret
                  exact ⟨rfl, HBF.out⟩
                · have hnb : ((0 : Int) == (j : Int)) = false := by rw [beq_eq_false_iff_ne]; omega
                  clear hn0
                  refine wp_region_grow (by kernel_rfl) (by kernel_rfl) ?_
                  repeat (first
                    | ((with_reducible refine wpQuietGd ?_); (with_reducible refine wpQuiet_skip ?_ ?_); (· rfl); simp only [Act.put, List.setIfInBounds_toArray, List.set_cons_zero, List.set_cons_succ])
                    | quiet_step (fail))
                  refine wpQuiet_nil ?_
                  intro w6 hb6
                  have HBW := Lib.hid (HU5.out.belowW.trans (hb6.mono HU5.out.belowW.size))
                  clear hb6
                  go_wp2_with fail
                  refine (alive_any _).mono ?_
                  rintro e w7 ⟨rfl, hb7⟩
                  have HBF := Lib.hid (HBW.out.trans (hb7.mono HBW.out.size))
                  clear hb7
                  go_wp2_with fail
                  go_ret
                  exact ⟨rfl, HBF.out⟩
              · have HNN := Lib.hid hne
                have HBL := Lib.hid hbl
                have hwl := Lib.hid (win_len d (ds ++ bs))
                have hdsp : 0 < ds.length := List.length_pos_iff.2 hne
                obtain ⟨bo, o2, rfl⟩ := hdn.blks.rs.sl.addr hdsp (by omega)
                have hco := hdn.blks.rs.sl.le
                have hcm := hdn.blks.rs.sl.max
                have HWB : Hid (jj = j → (win d (ds ++ bs)).take ((win d (ds ++ bs)).length - jj) = ds.drop (ds.length + j - (d + 1))) := fun e => by
                  have := win_back d ds bs (by omega) hne
                  rw [hbl] at this
                  rw [e]; exact this
                obtain ⟨dj, hdj⟩ : ∃ dj, (win d (ds ++ bs)).take ((win d (ds ++ bs)).length - jj) = dj := ⟨_, rfl⟩
                rw [hdj] at hdn HWB
                have HDL : Hid (dj.length = (win d (ds ++ bs)).length - jj) := by show _ = _; rw [← hdj, List.length_take]; omega
                have HDJ := Lib.hid hdj
                have hdp : 0 < dj.length := by have := HDL.out; omega
                obtain ⟨dd, hgl⟩ : ∃ dd, dj.getLast? = some dd := by
                  cases hx : dj.getLast? with
                  | none => rw [List.getLast?_eq_none_iff.1 hx] at hdp; simp at hdp
                  | some dd => exact ⟨dd, rfl⟩
                have HGL := Lib.hid hgl
                have HU := Lib.hid hdn
                have HJL := Lib.hid hjl
                clear hdn hne hbl hdj hgl hjl
                go_wp2_with fail
                refine (tip_rel HU.out).mono ?_
                rintro e w4 ⟨A, t, qt, nt, ct, rfl, ht, hts, hb4⟩
                obtain rfl := hts dd HGL.out
                clear hts
                rw [HGL.out]
                dsimp only [Option.isSome]
                have HT := Lib.hid ht
                have HAS := Lib.hid ht.size
                have HAO := Lib.hid ht.one
                have HTL := Lib.hid ht.hlen
                have HHS : Hid ((idA t.hash).toList.length = 32) := by show _ = _; rw [Array.length_toList, idA_size, ht.hlen]
                have HNW := Lib.hid (box_new w4 ZB 33)
                have HBR := Lib.hid (box_row w4 ZB A 33)
                have HB5 := Lib.hid (hb4.trans ((box_below w4 ZB A 33).mono hb4.size))
                have HPA := Lib.hid (ht.parts HBR.out).1
                have HU5 := Lib.hid (HU.out.below HB5.out)
                clear ht hb4
                go_upto_region 28 with ((with_reducible refine wpStoreAt 20 ?_); refine wpList_store_row rfl 33 _ _ rfl w4.heap.size A rfl rfl 33 ZB HNW.out (infoBlk _ HAS.out) (HZB.out.trans HAS.out.symm) HAO.out ?_)
                generalize (w4.alloc (.cells ZB 33)).setRow w4.heap.size A = w5 at *
                by_cases hjn : jj = j
                · have hnb : ((jj : Int) == (j : Int)) = true := by rw [beq_iff_eq]; omega
                  have HDD := Lib.hid (HWB.out hjn)
                  have HJN := Lib.hid hjn
                  clear hjn
                  obtain ⟨KK, hK⟩ : ∃ KK, KK = ds.length + j - (d + 1) := ⟨_, rfl⟩
                  have hwA : IntKind.i64.wrap ((ds.length : Int) + (j : Int)) = (ds.length : Int) + (j : Int) := IntWalk.i64_in _ (by omega)
                  have hwB : IntKind.i64.wrap ((ds.length : Int) + (j : Int) - (d : Int)) = (ds.length : Int) + (j : Int) - (d : Int) := IntWalk.i64_in _ (by omega)
                  have hwC : IntKind.i64.wrap ((ds.length : Int) + (j : Int) - (d : Int) - 1) = (ds.length : Int) + (j : Int) - (d : Int) - 1 := IntWalk.i64_in _ (by omega)
                  have hmx : (if (1 : Int) < (ds.length : Int) + (j : Int) - (d : Int) then (ds.length : Int) + (j : Int) - (d : Int) - 1 else 0) = (KK : Int) := by split <;> omega
                  have hkc : KK ≤ co := by omega
                  have hKl2 : KK ≤ ds.length := by omega
                  have hKl3 : ¬ ds.length < KK := by omega
                  have hkc2 : ¬ co = KK := by omega
                  have HK := Lib.hid hK
                  have hKl : KK < ds.length := by omega
                  clear hK
                  have hhb : ((h : Int) != (h : Int)) = false := by simp
                  refine wp_region_eager [(0, true), (1, true), (2, true), (3, true), (4, true), (5, true), (6, true), (7, true), (9, true), (8, false), (10, true), (11, true), (12, true), (14, true), (15, true), (16, true), (17, true), (18, true), (19, true), (20, true), (21, true), (22, true), (23, true), (13, false), (24, false), (25, true), (26, true), (27, true)] (by kernel_rfl) (by kernel_rfl) (eagerOpen rfl ?_)
                  have hy0 : Below w5.heap.size w5 w5.drew := below_drew1 _ _
                  repeat (first | (apply wpEager_take; (· rfl); (· (intro w' hb'; go_simp; try with_reducible rfl)); (try simp only [Act.put, List.setIfInBounds_toArray, List.set_cons_zero, List.set_cons_succ]); (try refine eagerOpen rfl ?_)) | (refine wpEager_skip (by rfl) ?_; (try simp only [Act.put, List.setIfInBounds_toArray, List.set_cons_zero, List.set_cons_succ]); (try refine eagerOpen rfl ?_)) | (refine wpEager_off (by rfl) ?_; (try simp only [Act.put, List.setIfInBounds_toArray, List.set_cons_zero, List.set_cons_succ]); (try refine eagerOpen rfl ?_)))
                  have HU5H : Hid (Rel w w1.heap.size cb d (some ⟨bo, o2, none⟩) co Bo ds rowso w5 h dj) := by
                    have := HU5.out
                    rw [HJN.out, Nat.add_sub_cancel] at this
                    exact this
                  (refine wpEager_op (by rfl) (fun K hK => ?_); go_simp; (refine (height_rel (HU5H.out.below (below_drew1 _ _))).mono ?_; rintro e y ⟨rfl, hw⟩; subst hw); refine Shut.out hK _ _ (by assumption) ?_; clear hK K; (try simp only [Act.put, List.setIfInBounds_toArray, List.set_cons_zero, List.set_cons_succ]); (try refine eagerOpen rfl ?_))
                  repeat (first | (apply wpEager_take; (· rfl); (· (intro w' hb'; go_simp; try with_reducible rfl)); (try simp only [Act.put, List.setIfInBounds_toArray, List.set_cons_zero, List.set_cons_succ]); (try refine eagerOpen rfl ?_)) | (refine wpEager_skip (by rfl) ?_; (try simp only [Act.put, List.setIfInBounds_toArray, List.set_cons_zero, List.set_cons_succ]); (try refine eagerOpen rfl ?_)) | (refine wpEager_off (by rfl) ?_; (try simp only [Act.put, List.setIfInBounds_toArray, List.set_cons_zero, List.set_cons_succ]); (try refine eagerOpen rfl ?_)))
                  (refine wpEager_op (by rfl) (fun K hK => ?_); go_simp; (refine (win_rel (HU5H.out.below (below_drew1 _ _))).mono ?_; rintro e y ⟨p2, c2, rows2, rfl, hown, hb⟩; have HOW := Lib.hid hown; have hy1 := hy0.trans hb; clear hown hb); refine Shut.out hK _ _ (by assumption) ?_; clear hK K; (try simp only [Act.put, List.setIfInBounds_toArray, List.set_cons_zero, List.set_cons_succ]); (try refine eagerOpen rfl ?_))
                  have HOLD : Hid (Bks y (some ⟨bo, o2 + KK * 65, none⟩) (ds.length - KK) (co - KK) dj (rowso.drop KK)) := by
                    have := ((HU5H.out.below hy1).blks).dropped KK (by omega)
                    rw [← HK.out] at HDD
                    rw [HDD.out]
                    exact this
                  (refine wpEager_op (by rfl) (fun K hK => ?_); go_simp; (refine (rWin_same dj p2 (some ⟨bo, o2 + KK * 65, none⟩) _ _ _ _ rows2 (rowso.drop KK) _ HOW.out.bks HOLD.out).mono ?_; rintro e y2 ⟨rfl, hb4⟩; have hy2 := hy1.trans (hb4.mono hy1.size); clear hb4); refine Shut.out hK _ _ (by assumption) ?_; clear hK K; (try simp only [Act.put, List.setIfInBounds_toArray, List.set_cons_zero, List.set_cons_succ]); (try refine eagerOpen rfl ?_))
                  repeat (first | (apply wpEager_take; (· rfl); (· (intro w' hb'; go_simp; try with_reducible rfl)); (try simp only [Act.put, List.setIfInBounds_toArray, List.set_cons_zero, List.set_cons_succ]); (try refine eagerOpen rfl ?_)) | (refine wpEager_skip (by rfl) ?_; (try simp only [Act.put, List.setIfInBounds_toArray, List.set_cons_zero, List.set_cons_succ]); (try refine eagerOpen rfl ?_)) | (refine wpEager_off (by rfl) ?_; (try simp only [Act.put, List.setIfInBounds_toArray, List.set_cons_zero, List.set_cons_succ]); (try refine eagerOpen rfl ?_)))
                  refine eagerEnd ?_
                  have hb6 := hy2
                  clear hy0 hy1 hy2 hmx hwA hwB hwC hkc hkc2 hhb hKl hKl2 hKl3
                  have HU6 := Lib.hid (HU5.out.below hb6)
                  have HP6 := Lib.hid (range_below HPA.out hb6)
                  clear hb6
                  go_wp2_with ((with_reducible refine wpAt 151 ?_); refine wpList_unguard (by rfl) ?_; refine wpList_load_mid rfl 30 _ rfl w4.heap.size 0 rfl (idA t.hash).toList _ HP6.out Try.underlying30 rfl (infoI _ HHS.out) ?_)
                  refine (disc_rel HU6.out t.hash HTL.out).mono ?_
                  rintro e w7 ⟨rfl, hy, hn⟩
                  by_cases hlt2 : dj.length < 2
                  · have hE : discE dj t.hash = 20 := by rw [disc_tip HGL.out, if_pos hlt2]
                    have HU7 := Lib.hid (hn (by rw [hE]; omega)).1
                    rw [hE]
                    have hjd : decide ((jj : Int) ≤ (d : Int)) = true := decide_eq_true (by omega)
                    clear hy hn hE hlt2
                    go_wp2_with fail
                    refine (alive_any _).mono ?_
                    rintro e w8 ⟨rfl, hb8⟩
                    have HBF := Lib.hid (HU7.out.belowW.trans (hb8.mono HU7.out.belowW.size))
                    clear hb8
                    go_wp2_with fail
                    go_ret
                    exact ⟨rfl, HBF.out⟩
                  · have hE : discE dj t.hash = 0 := by rw [disc_tip HGL.out, if_neg hlt2]
                    have HEND : Hid (Down w w1.heap.size cb d (some ⟨bo, o2, none⟩) co Bo ds rowso h j (jj + 1) w7) := Down.next HNN.out HBL.out (by have := HDL.out; omega) (by rw [HDJ.out]; exact hy hE)
                    rw [hE]
                    have hj15 : jj + 1 ≤ 16 := by have := HDL.out; have := hwl.out; omega
                    clear hy hn hE hlt2
                    go_wp2_with fail
                    go_roundw
                    case rel => exact ⟨jj + 1, by go_num, HEND.out⟩
                    case measure => simp [intOf]; omega
                · have hnb : ((jj : Int) == (j : Int)) = false := by rw [beq_eq_false_iff_ne]; omega
                  clear hjn
                  refine wp_region_grow (by kernel_rfl) (by kernel_rfl) ?_
                  repeat (first
                    | ((with_reducible refine wpQuietGd ?_); (with_reducible refine wpQuiet_skip ?_ ?_); (· rfl); simp only [Act.put, List.setIfInBounds_toArray, List.set_cons_zero, List.set_cons_succ])
                    | quiet_step (fail))
                  refine wpQuiet_nil ?_
                  intro w6 hb6
                  have HU6 := Lib.hid (HU5.out.below hb6)
                  have HP6 := Lib.hid (range_below HPA.out hb6)
                  clear hb6
                  go_wp2_with ((with_reducible refine wpAt 151 ?_); refine wpList_unguard (by rfl) ?_; refine wpList_load_mid rfl 30 _ rfl w4.heap.size 0 rfl (idA t.hash).toList _ HP6.out Try.underlying30 rfl (infoI _ HHS.out) ?_)
                  refine (disc_rel HU6.out t.hash HTL.out).mono ?_
                  rintro e w7 ⟨rfl, hy, hn⟩
                  by_cases hlt2 : dj.length < 2
                  · have hE : discE dj t.hash = 20 := by rw [disc_tip HGL.out, if_pos hlt2]
                    have HU7 := Lib.hid (hn (by rw [hE]; omega)).1
                    rw [hE]
                    have hjd : decide ((jj : Int) ≤ (d : Int)) = true := decide_eq_true (by omega)
                    clear hy hn hE hlt2
                    go_wp2_with fail
                    refine (alive_any _).mono ?_
                    rintro e w8 ⟨rfl, hb8⟩
                    have HBF := Lib.hid (HU7.out.belowW.trans (hb8.mono HU7.out.belowW.size))
                    clear hb8
                    go_wp2_with fail
                    go_ret
                    exact ⟨rfl, HBF.out⟩
                  · have hE : discE dj t.hash = 0 := by rw [disc_tip HGL.out, if_neg hlt2]
                    have HEND : Hid (Down w w1.heap.size cb d (some ⟨bo, o2, none⟩) co Bo ds rowso h j (jj + 1) w7) := Down.next HNN.out HBL.out (by have := HDL.out; omega) (by rw [HDJ.out]; exact hy hE)
                    rw [hE]
                    have hj15 : jj + 1 ≤ 16 := by have := HDL.out; have := hwl.out; omega
                    clear hy hn hE hlt2
                    go_wp2_with fail
                    go_roundw
                    case rel => exact ⟨jj + 1, by go_num, HEND.out⟩
                    case measure => simp [intOf]; omega
end Go.Proofs.Ytepemfgiigceoaa.Chn
