/- PARTS, JOINED: LAYER 26: the walk of ChainDoes. Conditions: none. -/
import Derived.Test.YtepemfgiigceoaaChP1
import Derived.Test.YtepemfgiigceoaaChP2
import Derived.Test.YtepemfgiigceoaaChP3
import Derived.Test.YtepemfgiigceoaaChP4
import Derived.Test.YtepemfgiigceoaaChP5
import Derived.Test.YtepemfgiigceoaaChP6
import Derived.Test.YtepemfgiigceoaaChP7
import Derived.Test.YtepemfgiigceoaaChP8
namespace Go.Proofs.Ytepemfgiigceoaa.Chn
open Go.RowKit Go.Mir Go.Mir.Parts Go.Proofs.Ytepemfgiigceoaa.Blk

theorem rDisc_any (dep : Int) (height : Nat) (hh : height ≤ 4294967295) (ds : List BlkD) (hlh : ds.length ≤ height) (p : Option Addr) (c : Nat) (rows : List (List Value)) (x : List UInt8) (hx : x.length = 32) (w : World) (hW : Bks w p ds.length c ds rows) :
    Calls Try.prog 34 #[.agg (rcA dep height p ds.length c), .agg (idA x)] w (RDiscP dep height ds p c x w) := by
  cases hl : ds.getLast? with
  | none =>
    have : ds = [] := List.getLast?_eq_none_iff.1 hl
    subst this
    refine (rDisc_none dep height p c x hx w).mono ?_
    rintro e w' ⟨rfl, hb⟩
    exact ⟨rfl, hb⟩
  | some t => exact rDisc_some dep height hh ds hlh p c rows t hl x hx w hW
theorem new_bad (dep : Int) (w : World) (h : dep < 1 ∨ 16 < dep) : Calls Try.prog 10 #[.int .i64 dep] w fun e w' => e = .returned (.tuple #[.pointer none, .int .i64 1]) ∧ w = w' := by
  have HL := Lib.hid (load_bad dep 0 none 0 0 w (.inl h))
  clear h
  go_enter Try.func10, Try.ntmps10
  go_wp2_with fail
  refine (HL.out).mono ?_
  rintro e w' ⟨rfl, rfl⟩
  go_wp2_with fail
  go_ret2
  exact ⟨rfl, rfl⟩
theorem wpList_load_mid_g {P : Program} {ops : Array Oper} {rest : List Oper} {op : Oper} {a : Act} {w : World} {Q : Exit → Act → World → Prop} (hw : Region.wanted op (yielded ops a.tmps) = true) (ty : TypeId) (x : Operand) (ho : op.op = .load ty x)
    (b o : Nat) (hx : a.eval x = .pointer (some ⟨b, o, none⟩)) (M : Array Value) (d : TypeDesc) (hc : w.rangeAt b o M.toList)
    (hu : P.underlying ty = some d) (hd : d.isRow = true) (hi : (P.info? ty).map (·.size) = some M.size)
    (h : wpList P ops Q rest (a.put op.dst (.agg M)) w) : wpList P ops Q (op :: rest) a w :=
  wpList_unguard hw (wpList_load_mid rfl ty x ho b o hx M.toList d hc hu hd (by rw [Array.length_toList]; exact hi) (by rw [Array.toArray_toList]; exact h))
theorem build_rc0 (dep : Int) : Try.prog.built 41 [(0, .int .i64 dep)] = some (rcA dep 0 none 0 0) := by kernel_rfl
theorem KT.trans {a b c : World} (h : KT a b) (k : KT b c) : KT a c := fun i M t fr hi n1 n2 => k i M t fr (h i M t fr hi n1 n2) n1 n2
theorem KT.setRow {w : World} {b : Nat} {A : Array Value} {k : Nat} {M : Array Value} {t : TypeId} {fr : Nat × Nat} (h : w.heap[k]? = some (.cells M t fr)) (hne : ¬ k = b) : (w.setRow b A).heap[k]? = some (.cells M t fr) := by
  rw [setRow_other _ _ _ _ hne]; exact h
/-- another box has turned -/
theorem Md.other {W wr : World} {cb d hc : Nat} {dc : List BlkD} {b7 hr : Nat} {dr : List BlkD} {p2 : Option Addr} {c2 : Nat} {rows2 : List (List Value)} (h : Md W wr cb d hc dc b7 hr dr p2 c2 rows2) {b9 : Nat} {M : Array Value} {t : TypeId} {fr : Nat × Nat} (hk : wr.heap[b9]? = some (.cells M t fr)) (n1 : t ≠ 70) (n2 : t ≠ 33) (n3 : t ≠ 30) (h7 : ¬ b7 = b9) (hp : ∀ a, p2 = some a → ¬ a.block = b9) (hW : W.heap.size ≤ b9) (N : Array Value) :
    Md W (wr.setRow b9 N) cb d hc dc b7 hr dr p2 c2 rows2 := by
  obtain ⟨base, p, c, rows, g1, g2, g3, g4, g5, g6, g7, g8⟩ := h
  have ht := turns_setRow wr b9 N
  have hsz : (wr.setRow b9 N).heap.size = wr.heap.size := by simp [World.setRow]
  have hown : ∀ k, ChOwn cb p dc.length c k → ¬ k = b9 := fun k hs e => by
    subst e
    rcases hs with hs | hs
    · subst hs
      rw [g1.row] at hk
      injection hk with e1
      injection e1 with _ e2
      exact n1 e2.symm
    · exact keeps_ne_cells g1.keeps hk n2 _ hs rfl
  have hid : ∀ k M fr, wr.heap[k]? = some (.cells M 30 fr) → ¬ k = b9 := fun k M fr hk2 e => by
    subst e
    rw [hk] at hk2
    injection hk2 with e1
    injection e1 with _ e2
    exact n3 e2
  exact ⟨base, p, c, rows, g1.touch ht hown hid, g2, g3, by rw [hsz]; exact g4, g5.touch ht h7 hp, g6, g7, g8.trans (ht.below g8.size (fun i hi => by rw [hi]; exact hW))⟩
/-- where the loop stands -/
def DoL (w : World) (d b7 : Nat) (v : Value) (wr : World) : Prop :=
  ∃ cb h ds p2 c2 rows2, v = .pointer (some ⟨cb, 0, none⟩) ∧ Md w wr cb d h ds b7 h ds p2 c2 rows2 ∧ GoodL ds

set_option maxRecDepth 100000 in
set_option maxHeartbeats 3200000 in
theorem law_does (dep : Int) (hdw : -9223372036854775808 ≤ dep ∧ dep ≤ 9223372036854775807) (os : List COp) (p0 : Option Addr) (c0 : Nat) (rows0 : List (List Value)) (w : World) (hO : COps w p0 os.length c0 os rows0) :
    Calls Try.prog 6 #[.int .i64 dep, .slice p0 os.length c0] w (Post w) := by
  obtain ⟨Z, hz, hZ⟩ := zOp
  have HZZ := Lib.hid hZ
  obtain ⟨ZC, hzc, hZC⟩ := zRC
  have HO := Lib.hid hO
  have hle := hO.rs.sl.le
  have hmax := hO.rs.sl.max
  clear hZ hO
  go_enter Try.func6, Try.ntmps6
  go_wp2_with fail
  refine (fewOps_any os p0 c0 rows0 _ HO.out).mono ?_
  rintro e w1 ⟨bb, rfl, hfew, hb1⟩
  have HB1 := Lib.hid hb1
  have HFEW := Lib.hid hfew
  clear hb1 hfew
  cases bb with
  | false =>
    go_wp2_with fail
    refine (alive_any _).mono ?_
    rintro e w2 ⟨rfl, hb2⟩
    have HB2 := Lib.hid (HB1.out.trans (hb2.mono HB1.out.size))
    clear hb2
    go_wp2_with fail
    go_ret
    exact ⟨rfl, HB2.out⟩
  | true =>
    obtain ⟨hfl, hfe⟩ := HFEW.out rfl
    have HFE := Lib.hid hfe
    clear HFEW hfe
    by_cases hbad : dep < 1 ∨ 16 < dep
    · have HNB := Lib.hid (new_bad dep w1 hbad)
      have HTB : Hid (decide (dep < 1) = true ∨ (decide (dep < 1) = false ∧ decide (16 < dep) = true)) := by
        show _ ∨ _
        by_cases h1 : dep < 1
        · exact .inl (decide_eq_true h1)
        · exact .inr ⟨decide_eq_false h1, decide_eq_true (by omega)⟩
      clear hbad
      rcases HTB.out with e1 | ⟨e1, e2⟩
      · clear HTB
        go_wp2_with fail
        refine (HNB.out).mono ?_
        rintro e w' ⟨rfl, rfl⟩
        go_wp2_with fail
        refine (alive_any _).mono ?_
        rintro e w2 ⟨rfl, hb2⟩
        have HB2 := Lib.hid (HB1.out.trans (hb2.mono HB1.out.size))
        clear hb2
        go_wp2_with fail
        go_ret
        exact ⟨rfl, HB2.out⟩
      · clear HTB
        go_wp2_with fail
        refine (HNB.out).mono ?_
        rintro e w' ⟨rfl, rfl⟩
        go_wp2_with fail
        refine (alive_any _).mono ?_
        rintro e w2 ⟨rfl, hb2⟩
        have HB2 := Lib.hid (HB1.out.trans (hb2.mono HB1.out.size))
        clear hb2
        go_wp2_with fail
        go_ret
        exact ⟨rfl, HB2.out⟩
    · obtain ⟨d, rfl⟩ : ∃ d : Nat, dep = (d : Int) := ⟨dep.toNat, by omega⟩
      have hdd : 1 ≤ d ∧ d ≤ 16 := by omega
      have e1 : decide ((d : Int) < 1) = false := decide_eq_false (by omega)
      have e2 : decide (16 < (d : Int)) = false := decide_eq_false (by omega)
      have HDD := Lib.hid hdd
      clear hbad hdw
      go_wp2_with fail
      refine (new_any d _ HDD.out).mono ?_
      rintro e w2 ⟨cb, rows, rfl, hcb, hch, hb2⟩
      have HCH := Lib.hid hch
      have HB2 := Lib.hid (HB1.out.trans (hb2.mono HB1.out.size))
      have HB12 := Lib.hid hb2
      clear hcb hch hb2
      obtain ⟨RC, hRC⟩ : ∃ RC, RC = rcA (d : Int) 0 none 0 0 := ⟨_, rfl⟩
      have HRC := Lib.hid hRC
      have HRS : Hid (RC.size = 3) := by show _ = _; rw [hRC]; rfl
      have HRO : Hid (RC.all (·.oneCell') = true) := by show _ = _; rw [hRC]; exact rcA_one _ _ _ _ _
      have HBC : Hid (Try.prog.built 41 [(0, .int .i64 (d : Int))] = some RC) := by show _ = _; rw [hRC]; exact build_rc0 _
      have HNW := Lib.hid (box_new w2 ZC 41)
      have HRR := Lib.hid (box_row w2 ZC RC 41)
      have HBB := Lib.hid (box_below w2 ZC RC 41)
      have HDO : Hid (DoL w d w2.heap.size (.pointer (some ⟨cb, 0, none⟩)) ((w2.alloc (.cells ZC 41)).setRow w2.heap.size RC)) := by
        refine ⟨cb, 0, [], none, 0, [], rfl, ⟨w1.heap.size, none, 0, rows, HCH.out.below HBB.out, Nat.le_refl _, HB1.out.size, Nat.le_trans HB12.out.size HBB.out.size, ?_, ?_, fun a ha => (by cases ha), HB2.out.trans (HBB.out.mono HB2.out.size)⟩, fun x hx => by simp at hx⟩
        · refine ⟨?_, ⟨Sl.nil _ _, fun _ h => by simp at h, rfl⟩, fun i r dd h => by simp at h, HB2.out.size, fun a ha => (by cases ha), fun a ha => (by cases ha)⟩
          have := HRR.out
          rw [HRC.out] at this
          rw [HRC.out]
          exact this
        · intro hk
          have := (HCH.out.ownLt _ hk).2
          omega
      clear hRC
      go_wp2_with (first
        | ((with_reducible refine wpAt 44 ?_); refine wpList_build rfl 41 _ rfl [(0, .int .i64 (d : Int))] rfl RC HBC.out ?_)
        | ((with_reducible refine wpStoreAt 7 ?_); refine wpList_store_row rfl 41 _ _ rfl w2.heap.size RC rfl rfl 41 ZC HNW.out (infoRC _ HRS.out) (by rw [hZC.out, HRS.out]) HRO.out ?_))
      generalize hb7 : w2.heap.size = b7 at *
      generalize (w2.alloc (.cells ZC 41)).setRow b7 RC = w3 at *
      clear HNW HRR HBB HCH HB12 HRC HRS HRO HBC hb7
      go_loopw [5, 47] (fun v j wr => ∃ i : Nat, i ≤ os.length ∧ j = .int .i64 i ∧ DoL w d b7 v wr) (fun _ j _ => os.length - (intOf j).toNat)
      case atStart => exact ⟨0, by omega, rfl, HDO.out⟩
      case round =>
        obtain ⟨i, hi, rfl, cb, h, ds, p2, c2, rows2, rfl, hmd, hgd⟩ := hrel
        have HMD := Lib.hid hmd
        have HGD := Lib.hid hgd
        clear hmd hgd
        by_cases hlt : i < os.length
        · have hdl : decide ((i : Int) < (os.length : Int)) = true := decide_eq_true (by omega)
          obtain ⟨ob, oo, rfl⟩ := HO.out.rs.sl.addr (by omega) (by omega)
          obtain ⟨q, cq, hbq, hrg⟩ := HO.out.at i hlt
          have HFI := Lib.hid (HFE.out _ (List.getElem_mem hlt))
          have HBQ := Lib.hid hbq
          have HRG0 := Lib.hid (range_below hrg HMD.out.belowW)
          clear hbq hrg
          generalize os[i] = op at *
          obtain ⟨A, hA⟩ : ∃ A, A = opA op.kind op.nr (blkA op.blk.hash op.blk.par q op.blk.txs.length cq) := ⟨_, rfl⟩
          have HAE := Lib.hid hA
          have HAS : Hid (A.size = 67) := by show _ = _; rw [hA]; exact opA_size HBQ.out.size
          have HAO : Hid (A.all (·.oneCell') = true) := by show _ = _; rw [hA]; exact opA_one HBQ.out.one
          rw [← hA] at HRG0
          have HAL : Hid (A.toList.length = 67) := by show _ = _; rw [Array.length_toList]; exact HAS.out
          clear hA
          have HNW := Lib.hid (box_new wr Z 35)
          have HBR := Lib.hid (box_row wr Z A 35)
          have hbb := box_below wr Z A 35
          have HMD3 := Lib.hid (HMD.out.below hbb)
          have HSW : Hid (b7 < wr.heap.size) := by
            obtain ⟨_, _, _, _, _, _, _, _, h5, _⟩ := HMD.out
            exact (Array.getElem?_eq_some_iff.1 h5.box).1
          clear hbb
          go_upto_region 12 with (first
            | ((with_reducible refine wpAt 50 ?_); refine wpList_load_mid rfl 35 _ rfl ob (oo + i * 67) rfl A.toList _ HRG0.out Try.underlying35 rfl (infoOp _ HAL.out) ?_)
            | ((with_reducible refine wpStoreAt 9 ?_); refine wpList_store_row rfl 35 _ _ rfl wr.heap.size A rfl rfl 35 Z HNW.out (infoOp _ HAS.out) (HZZ.out.trans HAS.out.symm) HAO.out ?_))
          generalize (wr.alloc (.cells Z 35)).setRow wr.heap.size A = w4 at *
          have HP9 : Hid (∀ a, p2 = some a → ¬ a.block = wr.heap.size) := fun a ha e => by
            obtain ⟨_, _, _, _, _, _, _, _, h5, _⟩ := HMD.out
            have := h5.lt a ha
            omega
          have HW9 : Hid (w.heap.size ≤ wr.heap.size) := HMD.out.belowW.size
          generalize hb9 : wr.heap.size = b9 at *
          have h79 : ¬ b7 = b9 := by have := HSW.out; omega
          have h97 : ¬ b9 = b7 := fun e => h79 e.symm
          have H79 := Lib.hid h79
          clear h79 h97 hb9 HSW HNW HRG0
          try simp only [Act.put, List.setIfInBounds_toArray, List.set_cons_zero, List.set_cons_succ]
          obtain ⟨RX, hRX⟩ : ∃ RX, RX = rcA (d : Int) h p2 ds.length c2 := ⟨_, rfl⟩
          have HRX := Lib.hid hRX
          have HXS : Hid (RX.size = 3) := by show _ = _; rw [hRX]; rfl
          have HXO : Hid (RX.all (·.oneCell') = true) := by show _ = _; rw [hRX]; exact rcA_one _ _ _ _ _
          have HXB : Hid (w4.heap[b7]? = some (.cells RX 41 (0, 0))) := by
            obtain ⟨_, _, _, _, _, _, _, _, h5, _⟩ := HMD3.out
            have := h5.box
            rwa [← hRX] at this
          have HWK : Hid (Bks w4 p2 ds.length c2 ds rows2) := by
            have hBW := HMD3.out.belowW
            obtain ⟨_, _, _, _, _, _, _, _, h5, _⟩ := HMD3.out
            exact h5.bks hBW
          clear hRX
          go_wp2_with (first
            | ((with_reducible refine wpAt 51 ?_); refine wpList_load_row rfl 41 _ rfl b7 rfl 41 RX (0, 0) _ HXB.out Try.underlying41 rfl (infoRC _ HXS.out) ?_)
            | ((with_reducible refine wpAt 52 ?_); refine wpList_load_row rfl 35 _ rfl b9 rfl 35 A (0, 0) _ HBR.out Try.underlying35 rfl (infoOp _ HAS.out) ?_))
          have hnear := near_any (d : Int) h ds p2 c2 rows2 op q cq w4 HWK.out (HBQ.out.below HMD3.out.belowW)
          rw [← HAE.out, ← HRX.out] at hnear
          refine hnear.mono ?_
          rintro e w5 ⟨rfl, hl1, hl2, hb5⟩
          clear hnear
          have HND := Lib.hid (And.intro (nearD_txs ds op) (nearD_kind ds op))
          generalize nearD ds op = nd at *
          obtain ⟨NB, hNB⟩ : ∃ NB, NB = blkA nd.blk.hash nd.blk.par q nd.blk.txs.length cq := ⟨_, rfl⟩
          have HBN : Hid (∀ w', Below w.heap.size w w' → BlkAt w' NB nd.blk q nd.blk.txs.length cq) := fun w' hb => ⟨hNB, hl1, hl2, by rw [HND.out.1]; exact (HBQ.out.below hb).ids⟩
          rw [← hNB]
          have HNB := Lib.hid hNB
          have HTX : Hid (nd.blk.txs.length ≤ 100) := by show _ ≤ _; rw [HND.out.1]; exact HFI.out
          clear hNB hl1 hl2 HFI HND
          have HNS : Hid (NB.size = 65) := (HBN.out w (Below.refl _ _)).size
          have HNO : Hid ((opA nd.kind nd.nr NB).size = 67) := opA_size HNS.out
          have HN1 : Hid ((opA nd.kind nd.nr NB).all (·.oneCell') = true) := opA_one (HBN.out w (Below.refl _ _)).one
          have HRY := Lib.hid (Below.keepOld hb5 HBR.out)
          have HMD5 := Lib.hid (HMD3.out.below hb5)
          have HXB5 := Lib.hid (Below.keepOld hb5 HXB.out)
          clear hb5
          have HSF := Lib.hid (setRow_heap _ _ _ (opA nd.kind nd.nr NB) _ _ HRY.out)
          have HMD6 : Hid (Md w (w5.setRow b9 (opA nd.kind nd.nr NB)) cb d h ds b7 h ds p2 c2 rows2) := by
            exact Md.other HMD5.out HRY.out (by decide) (by decide) (by decide) H79.out HP9.out HW9.out _
          have HXB6 : Hid ((w5.setRow b9 (opA nd.kind nd.nr NB)).heap[b7]? = some (.cells RX 41 (0, 0))) := KT.setRow HXB5.out H79.out
          go_upto_region 13 with ((with_reducible refine wpStoreAt 9 ?_); refine wpList_store_row rfl 35 _ _ rfl b9 (opA nd.kind nd.nr NB) rfl rfl 35 A HRY.out (infoOp _ HNO.out) (by rw [HAS.out, HNO.out]) HN1.out ?_)
          generalize w5.setRow b9 (opA nd.kind nd.nr NB) = w6 at *
          try simp only [Act.put, List.setIfInBounds_toArray, List.set_cons_zero, List.set_cons_succ]
          clear HMD HMD3 HMD5 HRY HXB HXB5 HBR HWK
          have hkc := (opA_cell HSF.out).1
          have HMID := Lib.hid (opA_blk HSF.out)
          have HNL : Hid (NB.toList.length = 65) := by show _ = _; rw [Array.length_toList]; exact HNS.out
          have HHR : Hid (∀ w' : World, w'.heap[b9]? = some (.cells (opA nd.kind nd.nr NB) 35 (0, 0)) → w'.rangeAt b9 2 (idA nd.blk.hash).toList) := fun w' hw => by
            intro j v hv
            refine (opA_blk hw) j v ?_
            rw [HNB.out, blkA_toList, List.append_assoc, List.getElem?_append_left (by have := (List.getElem?_eq_some_iff.1 hv).1; rwa [idA_toList] at this)]
            rwa [idA_toList] at hv
          have HHN : Hid (nd.blk.hash.length = 32) := (HBN.out w (Below.refl _ _)).hlen
          have HHL : Hid ((idA nd.blk.hash).toList.length = 32) := by show _ = _; rw [Array.length_toList, idA_size]; exact HHN.out
          by_cases hk0 : nd.kind = 0
          · have hkb : (nd.kind == 0) = true := by rw [beq_iff_eq]; exact hk0
            clear hk0
            go_wp2_with ((with_reducible refine wpAt 60 ?_); refine wpList_load_mid rfl 33 _ rfl b9 2 rfl NB.toList _ HMID.out Try.underlying33 rfl (infoBlk _ HNL.out) ?_)
            have hcm := conn_md HMD6.out NB nd.blk q _ cq (HBN.out w6 HMD6.out.belowW) (by have := HTX.out; omega)
            try rw [Array.toArray_toList]
            refine hcm.mono ?_
            rintro e w7 ⟨rfl, hm7, hk7⟩
            clear hcm
            have HM7 := Lib.hid hm7
            have HS7 := Lib.hid (hk7 _ _ _ _ HSF.out (by decide) (by decide))
            have HX7 := Lib.hid (hk7 _ _ _ _ HXB6.out (by decide) (by decide))
            have HMID7 := Lib.hid (opA_blk HS7.out)
            have HFA := Lib.hid HMD6.out.facts
            clear hm7 hk7
            go_wp2_with (first
              | ((with_reducible refine wpAt 63 ?_); refine wpList_load_row rfl 41 _ rfl b7 rfl 41 RX (0, 0) _ HX7.out Try.underlying41 rfl (infoRC _ HXS.out) ?_)
              | ((with_reducible refine wpAt 65 ?_); refine wpList_load_mid_g rfl 33 _ rfl b9 2 rfl NB _ HMID7.out Try.underlying33 rfl (infoBlk _ HNS.out) ?_))
            have hrc := rConn_any d h HFA.out.1 HFA.out.2.2.2 ds HFA.out.2.1 p2 c2 rows2 nd.blk NB q _ cq w7 (by
              have hBW := HM7.out.belowW
              obtain ⟨_, _, _, _, _, _, _, _, h5, _⟩ := HM7.out
              exact h5.bks hBW) (HBN.out w7 HM7.out.belowW)
            rw [← HRX.out] at hrc
            refine hrc.mono ?_
            rintro e w8 ⟨hb8, hpost⟩
            clear hrc
            by_cases hme : mayE ds h nd.blk = 0
            · rw [if_pos hme] at hpost
              obtain ⟨p2x, c2x, rfl, hbk, hnew⟩ := hpost
              have HGX : Hid (GoodL (cutD d (ds ++ [nd.blk]))) := by
                have := HGD.out.conn (d := d) (h := h) HTX.out
                unfold connD at this
                rwa [if_pos hme] at this
              have HBOX : Hid (Md w (w8.setRow b7 (rcA (d : Int) (h + 1) p2x (cutD d (ds ++ [nd.blk])).length c2x)) cb d (h + 1) (cutD d (ds ++ [nd.blk])) b7 (h + 1) (cutD d (ds ++ [nd.blk])) p2x c2x (cutR d (rows2 ++ [NB.toList]))) := by
                have h7 := HM7.out
                unfold connH connD at h7
                rw [if_pos hme, if_pos hme] at h7
                refine Md.box h7 hb8 hbk.rs ?_ (fun a ha => .inr (hnew a ha))
                obtain ⟨_, _, _, _, _, _, _, _, h5, _⟩ := HMD6.out
                have hW0 : ∀ (i : Nat) r dd, (rows2 ++ [NB.toList])[i]? = some r → (ds ++ [nd.blk])[i]? = some dd → ∃ q cc, r = (blkA dd.hash dd.par q dd.txs.length cc).toList ∧ BlkAt w (blkA dd.hash dd.par q dd.txs.length cc) dd q dd.txs.length cc := by
                  intro i r dd h1 h2
                  have hlen : rows2.length = ds.length := h5.rs.count
                  rcases get_snoc h1 with h1' | ⟨hi1, rfl⟩
                  · rcases get_snoc h2 with h2' | ⟨hi2, rfl⟩
                    · exact h5.each i r dd h1' h2'
                    · have := (List.getElem?_eq_some_iff.1 h1').1; omega
                  · rcases get_snoc h2 with h2' | ⟨hi2, rfl⟩
                    · have := (List.getElem?_eq_some_iff.1 h2').1; omega
                    · refine ⟨q, cq, by rw [HNB.out], ?_⟩
                      have := HBN.out w (Below.refl _ _)
                      rwa [HNB.out] at this
                intro i r dd h1 h2
                have hlen : (rows2 ++ [NB.toList]).length = (ds ++ [nd.blk]).length := by rw [List.length_append, List.length_append, h5.rs.count]; rfl
                unfold cutR at h1
                unfold cutD at h2
                rw [hlen] at h1
                by_cases hc : d + 1 < (ds ++ [nd.blk]).length
                · rw [if_pos hc] at h1 h2
                  rw [List.getElem?_drop] at h1 h2
                  exact hW0 _ r dd h1 h2
                · rw [if_neg hc] at h1 h2
                  exact hW0 _ r dd h1 h2
              have HB8b := Lib.hid (Below.keepOld hb8 HX7.out)
              have HS8 := Lib.hid (KT.setRow (A := rcA (d : Int) (h + 1) p2x (cutD d (ds ++ [nd.blk])).length c2x) (Below.keepOld hb8 HS7.out) (fun e => H79.out e.symm))
              rw [hme]
              clear hb8 hbk hnew hme
              generalize hdx : cutD d (ds ++ [nd.blk]) = dx at *
              clear hdx
              have HBX := HBOX.out
              obtain ⟨NR, hNR⟩ : ∃ NR, NR = rcA (d : Int) (h + 1) p2x dx.length c2x := ⟨_, rfl⟩
              rw [← hNR] at HS8 HBX ⊢
              have HMX := Lib.hid HBX
              have HNRS : Hid (NR.size = 3) := by show _ = _; rw [hNR]; rfl
              have HNRO : Hid (NR.all (·.oneCell') = true) := by show _ = _; rw [hNR]; exact rcA_one _ _ _ _ _
              clear HBX hNR HBOX
              go_upto_region 25 with ((with_reducible refine wpStoreAt 7 ?_); refine wpList_store_row rfl 41 _ _ rfl b7 NR rfl rfl 41 RX HB8b.out (infoRC _ HNRS.out) (by rw [HXS.out, HNRS.out]) HNRO.out ?_)
              have HR9 := HS8
              generalize w8.setRow b7 NR = wx at *
              generalize rows2x0 : cutR d (rows2 ++ [NB.toList]) = rows2x at *
              generalize hhx : h + 1 = hx at *
              clear rows2x0 hhx
              obtain ⟨cbx, hcbx⟩ : ∃ cbx, cbx = cb := ⟨_, rfl⟩
              rw [← hcbx] at HMX ⊢
              clear hcbx
              obtain ⟨RY, hRY⟩ : ∃ RY, RY = rcA (d : Int) hx p2x dx.length c2x := ⟨_, rfl⟩
              have HYS : Hid (RY.size = 3) := by show _ = _; rw [hRY]; rfl
              have HYB : Hid (wx.heap[b7]? = some (.cells RY 41 (0, 0))) := by
                obtain ⟨_, _, _, _, _, _, _, _, h5, _⟩ := HMX.out
                have := h5.box
                rwa [← hRY] at this
              have HYMID := Lib.hid (opA_blk HR9.out)
              have HBNX := Lib.hid (HBN.out wx HMX.out.belowW)
              have hlk := like_md HMX.out (fun x hx => ⟨by have := (HGX.out x hx).1; omega, (HGX.out x hx).2⟩) NB nd.blk q _ cq HBNX.out HTX.out
              rw [← hRY] at hlk
              have HLK := Lib.hid hlk
              clear hlk hRY
              go_wp2_with (first
                | ((with_reducible refine wpAt 102 ?_); refine wpList_load_row_g rfl 41 _ rfl b7 rfl 41 RY (0, 0) _ HYB.out Try.underlying41 rfl (infoRC _ HYS.out) ?_)
                | ((with_reducible refine wpAt 104 ?_); refine wpList_load_mid_g rfl 33 _ rfl b9 2 rfl NB _ HYMID.out Try.underlying33 rfl (infoBlk _ HNS.out) ?_))
              refine (HLK.out).mono ?_
              rintro e wz ⟨rfl, hbz⟩
              have HDZ : Hid (DoL w d b7 (.pointer (some ⟨cbx, 0, none⟩)) wz) := ⟨cbx, hx, dx, p2x, c2x, rows2x, rfl, HMX.out.below hbz, HGX.out⟩
              clear hbz HLK
              go_wp2_with fail
              go_roundw
              case rel => exact ⟨i + 1, by omega, by go_num, HDZ.out⟩
              case measure => simp [intOf]; omega
            · rw [if_neg hme] at hpost
              rw [← HRX.out] at hpost
              subst hpost
              have HBOX : Hid (Md w (w8.setRow b7 RX) cb d h ds b7 h ds p2 c2 rows2) := by
                have h7 := HM7.out
                unfold connH connD at h7
                rw [if_neg hme, if_neg hme] at h7
                have h70 := h7
                obtain ⟨_, _, _, _, _, _, _, _, h5, _⟩ := h70
                rw [HRX.out]
                exact Md.box h7 hb8 ((h5.below hb8).rs) h5.each (fun a ha => .inl ha)
              have HB8b := Lib.hid (Below.keepOld hb8 HX7.out)
              have HR9 := Lib.hid (KT.setRow (A := RX) (Below.keepOld hb8 HS7.out) (fun e => H79.out e.symm))
              clear hb8 hme
              generalize mayE ds h nd.blk = me at *
              go_upto_region 25 with ((with_reducible refine wpStoreAt 7 ?_); refine wpList_store_row rfl 41 _ _ rfl b7 RX rfl rfl 41 RX HB8b.out (infoRC _ HXS.out) rfl HXO.out ?_)
              have HMX := HBOX
              have HGX := HGD
              clear HBOX
              generalize w8.setRow b7 RX = wx at *
              clear HRX
              generalize hhx : h = hx at *
              generalize hdx : ds = dx at *
              generalize hpx : p2 = p2x at *
              generalize hcx : c2 = c2x at *
              generalize hrx : rows2 = rows2x at *
              generalize hbx : cb = cbx at *
              clear hhx hdx hpx hcx hrx hbx
              obtain ⟨RY, hRY⟩ : ∃ RY, RY = rcA (d : Int) hx p2x dx.length c2x := ⟨_, rfl⟩
              have HYS : Hid (RY.size = 3) := by show _ = _; rw [hRY]; rfl
              have HYB : Hid (wx.heap[b7]? = some (.cells RY 41 (0, 0))) := by
                obtain ⟨_, _, _, _, _, _, _, _, h5, _⟩ := HMX.out
                have := h5.box
                rwa [← hRY] at this
              have HYMID := Lib.hid (opA_blk HR9.out)
              have HBNX := Lib.hid (HBN.out wx HMX.out.belowW)
              have hlk := like_md HMX.out (fun x hx => ⟨by have := (HGX.out x hx).1; omega, (HGX.out x hx).2⟩) NB nd.blk q _ cq HBNX.out HTX.out
              rw [← hRY] at hlk
              have HLK := Lib.hid hlk
              clear hlk hRY
              go_wp2_with (first
                | ((with_reducible refine wpAt 102 ?_); refine wpList_load_row_g rfl 41 _ rfl b7 rfl 41 RY (0, 0) _ HYB.out Try.underlying41 rfl (infoRC _ HYS.out) ?_)
                | ((with_reducible refine wpAt 104 ?_); refine wpList_load_mid_g rfl 33 _ rfl b9 2 rfl NB _ HYMID.out Try.underlying33 rfl (infoBlk _ HNS.out) ?_))
              refine (HLK.out).mono ?_
              rintro e wz ⟨rfl, hbz⟩
              have HDZ : Hid (DoL w d b7 (.pointer (some ⟨cbx, 0, none⟩)) wz) := ⟨cbx, hx, dx, p2x, c2x, rows2x, rfl, HMX.out.below hbz, HGX.out⟩
              clear hbz HLK
              go_wp2_with fail
              go_roundw
              case rel => exact ⟨i + 1, by omega, by go_num, HDZ.out⟩
              case measure => simp [intOf]; omega
          · have hkb : (nd.kind == 0) = false := by rw [beq_eq_false_iff_ne]; exact hk0
            clear hk0
            by_cases hk1 : nd.kind = 1
            · have hkb1 : (nd.kind == 1) = true := by rw [beq_iff_eq]; exact hk1
              clear hk1
              have HH6 := Lib.hid (HHR.out _ HSF.out)
              go_wp2_with ((with_reducible refine wpAt 74 ?_); refine wpList_load_mid rfl 30 _ rfl b9 2 rfl (idA nd.blk.hash).toList _ HH6.out Try.underlying30 rfl (infoI _ HHL.out) ?_)
              have hcm := disc_md HMD6.out nd.blk.hash HHN.out
              refine hcm.mono ?_
              rintro e w7 ⟨rfl, hm7, hk7⟩
              clear hcm
              have HM7 := Lib.hid hm7
              have HS7 := Lib.hid (hk7 _ _ _ _ HSF.out (by decide) (by decide))
              have HX7 := Lib.hid (hk7 _ _ _ _ HXB6.out (by decide) (by decide))
              have HH7 := Lib.hid (HHR.out _ HS7.out)
              have HFA := Lib.hid HMD6.out.facts
              clear hm7 hk7
              go_wp2_with (first
                | ((with_reducible refine wpAt 77 ?_); refine wpList_load_row rfl 41 _ rfl b7 rfl 41 RX (0, 0) _ HX7.out Try.underlying41 rfl (infoRC _ HXS.out) ?_)
                | ((with_reducible refine wpAt 80 ?_); refine wpList_load_mid rfl 30 _ rfl b9 2 rfl (idA nd.blk.hash).toList _ HH7.out Try.underlying30 rfl (infoI _ HHL.out) ?_))
              have hrc := rDisc_any (d : Int) h HFA.out.2.2.2 ds HFA.out.2.2.1 p2 c2 rows2 nd.blk.hash HHN.out w7 (by
                have hBW := HM7.out.belowW
                obtain ⟨_, _, _, _, _, _, _, _, h5, _⟩ := HM7.out
                exact h5.bks hBW)
              rw [← HRX.out] at hrc
              refine hrc.mono ?_
              rintro e w8 ⟨rfl, hb8⟩
              clear hrc
              by_cases hme : discE ds nd.blk.hash = 0
              · rw [if_pos hme]
                have HGX : Hid (GoodL ds.dropLast) := by
                  have := HGD.out.disc (x := nd.blk.hash)
                  unfold discD at this
                  rwa [if_pos hme] at this
                have HBOX : Hid (Md w (w8.setRow b7 (rcA (d : Int) (h - 1) p2 ds.dropLast.length c2)) cb d (h - 1) ds.dropLast b7 (h - 1) ds.dropLast p2 c2 (rows2.take (ds.length - 1))) := by
                  have h7 := HM7.out
                  unfold discH discD at h7
                  rw [if_pos hme, if_pos hme] at h7
                  have h70 := h7
                  have hBW := h70.belowW.trans (hb8.mono h70.belowW.size)
                  obtain ⟨_, _, _, _, _, _, _, _, h5, _⟩ := h70
                  have hbk := ((h5.below hb8).bks hBW).taken (ds.length - 1) (by omega)
                  rw [← List.dropLast_eq_take] at hbk
                  have hll : ds.dropLast.length = ds.length - 1 := List.length_dropLast
                  refine Md.box h7 hb8 (by rw [hll]; exact hbk.rs) ?_ (fun a ha => .inl ha)
                  intro i r dd h1 h2
                  rw [List.getElem?_take] at h1
                  rw [List.dropLast_eq_take, List.getElem?_take] at h2
                  split at h1
                  · rename_i hi
                    rw [if_pos hi] at h2
                    exact h5.each i r dd h1 h2
                  · cases h1
                have HB8b := Lib.hid (Below.keepOld hb8 HX7.out)
                have HLL : Hid (ds.length - 1 = ds.dropLast.length) := List.length_dropLast.symm
                rw [HLL.out, hme]
                have HB8 := Lib.hid hb8
                clear hb8 hme
                obtain ⟨NR, hNR⟩ : ∃ NR, NR = rcA (d : Int) (h - 1) p2 ds.dropLast.length c2 := ⟨_, rfl⟩
                have HBX := HBOX.out
                rw [← hNR] at HBX ⊢
                have HMX := Lib.hid HBX
                have HR9 : Hid ((w8.setRow b7 NR).heap[b9]? = some (.cells (opA nd.kind nd.nr NB) 35 (0, 0))) := KT.setRow (Below.keepOld HB8.out HS7.out) (fun e => H79.out e.symm)
                have HNRS : Hid (NR.size = 3) := by show _ = _; rw [hNR]; rfl
                have HNRO : Hid (NR.all (·.oneCell') = true) := by show _ = _; rw [hNR]; exact rcA_one _ _ _ _ _
                clear HBX hNR HBOX HB8 HLL
                go_upto_region 25 with ((with_reducible refine wpStoreAt 7 ?_); refine wpList_store_row rfl 41 _ _ rfl b7 NR rfl rfl 41 RX HB8b.out (infoRC _ HNRS.out) (by rw [HXS.out, HNRS.out]) HNRO.out ?_)
                generalize w8.setRow b7 NR = wx at *
                generalize rows2x0 : rows2.take (ds.length - 1) = rows2x at *
                generalize hdx : ds.dropLast = dx at *
                generalize hhx : h - 1 = hx at *
                generalize hpx : p2 = p2x at *
                generalize hcx : c2 = c2x at *
                generalize hbx : cb = cbx at *
                clear rows2x0 hdx hhx hpx hcx hbx
                obtain ⟨RY, hRY⟩ : ∃ RY, RY = rcA (d : Int) hx p2x dx.length c2x := ⟨_, rfl⟩
                have HYS : Hid (RY.size = 3) := by show _ = _; rw [hRY]; rfl
                have HYB : Hid (wx.heap[b7]? = some (.cells RY 41 (0, 0))) := by
                  obtain ⟨_, _, _, _, _, _, _, _, h5, _⟩ := HMX.out
                  have := h5.box
                  rwa [← hRY] at this
                have HYMID := Lib.hid (opA_blk HR9.out)
                have HBNX := Lib.hid (HBN.out wx HMX.out.belowW)
                have hlk := like_md HMX.out (fun x hx => ⟨by have := (HGX.out x hx).1; omega, (HGX.out x hx).2⟩) NB nd.blk q _ cq HBNX.out HTX.out
                rw [← hRY] at hlk
                have HLK := Lib.hid hlk
                clear hlk hRY
                go_wp2_with (first
                  | ((with_reducible refine wpAt 102 ?_); refine wpList_load_row_g rfl 41 _ rfl b7 rfl 41 RY (0, 0) _ HYB.out Try.underlying41 rfl (infoRC _ HYS.out) ?_)
                  | ((with_reducible refine wpAt 104 ?_); refine wpList_load_mid_g rfl 33 _ rfl b9 2 rfl NB _ HYMID.out Try.underlying33 rfl (infoBlk _ HNS.out) ?_))
                refine (HLK.out).mono ?_
                rintro e wz ⟨rfl, hbz⟩
                have HDZ : Hid (DoL w d b7 (.pointer (some ⟨cbx, 0, none⟩)) wz) := ⟨cbx, hx, dx, p2x, c2x, rows2x, rfl, HMX.out.below hbz, HGX.out⟩
                clear hbz HLK
                go_wp2_with fail
                go_roundw
                case rel => exact ⟨i + 1, by omega, by go_num, HDZ.out⟩
                case measure => simp [intOf]; omega
              · rw [if_neg hme]
                have HBOX : Hid (Md w (w8.setRow b7 RX) cb d h ds b7 h ds p2 c2 rows2) := by
                  have h7 := HM7.out
                  unfold discH discD at h7
                  rw [if_neg hme, if_neg hme] at h7
                  have h70 := h7
                  obtain ⟨_, _, _, _, _, _, _, _, h5, _⟩ := h70
                  rw [HRX.out]
                  exact Md.box h7 hb8 ((h5.below hb8).rs) h5.each (fun a ha => .inl ha)
                have HB8b := Lib.hid (Below.keepOld hb8 HX7.out)
                have HR9 := Lib.hid (KT.setRow (A := RX) (Below.keepOld hb8 HS7.out) (fun e => H79.out e.symm))
                rw [← HRX.out]
                clear hb8 hme
                generalize discE ds nd.blk.hash = me at *
                go_upto_region 25 with ((with_reducible refine wpStoreAt 7 ?_); refine wpList_store_row rfl 41 _ _ rfl b7 RX rfl rfl 41 RX HB8b.out (infoRC _ HXS.out) rfl HXO.out ?_)
                have HMX := HBOX
                have HGX := HGD
                clear HBOX
                generalize w8.setRow b7 RX = wx at *
                clear HRX
                generalize hhx : h = hx at *
                generalize hdx : ds = dx at *
                generalize hpx : p2 = p2x at *
                generalize hcx : c2 = c2x at *
                generalize hrx : rows2 = rows2x at *
                generalize hbx : cb = cbx at *
                clear hhx hdx hpx hcx hrx hbx
                obtain ⟨RY, hRY⟩ : ∃ RY, RY = rcA (d : Int) hx p2x dx.length c2x := ⟨_, rfl⟩
                have HYS : Hid (RY.size = 3) := by show _ = _; rw [hRY]; rfl
                have HYB : Hid (wx.heap[b7]? = some (.cells RY 41 (0, 0))) := by
                  obtain ⟨_, _, _, _, _, _, _, _, h5, _⟩ := HMX.out
                  have := h5.box
                  rwa [← hRY] at this
                have HYMID := Lib.hid (opA_blk HR9.out)
                have HBNX := Lib.hid (HBN.out wx HMX.out.belowW)
                have hlk := like_md HMX.out (fun x hx => ⟨by have := (HGX.out x hx).1; omega, (HGX.out x hx).2⟩) NB nd.blk q _ cq HBNX.out HTX.out
                rw [← hRY] at hlk
                have HLK := Lib.hid hlk
                clear hlk hRY
                go_wp2_with (first
                  | ((with_reducible refine wpAt 102 ?_); refine wpList_load_row_g rfl 41 _ rfl b7 rfl 41 RY (0, 0) _ HYB.out Try.underlying41 rfl (infoRC _ HYS.out) ?_)
                  | ((with_reducible refine wpAt 104 ?_); refine wpList_load_mid_g rfl 33 _ rfl b9 2 rfl NB _ HYMID.out Try.underlying33 rfl (infoBlk _ HNS.out) ?_))
                refine (HLK.out).mono ?_
                rintro e wz ⟨rfl, hbz⟩
                have HDZ : Hid (DoL w d b7 (.pointer (some ⟨cbx, 0, none⟩)) wz) := ⟨cbx, hx, dx, p2x, c2x, rows2x, rfl, HMX.out.below hbz, HGX.out⟩
                clear hbz HLK
                go_wp2_with fail
                go_roundw
                case rel => exact ⟨i + 1, by omega, by go_num, HDZ.out⟩
                case measure => simp [intOf]; omega
            · have hkb1 : (nd.kind == 1) = false := by rw [beq_eq_false_iff_ne]; exact hk1
              clear hk1
              by_cases hk2 : nd.kind = 2
              · have hkb2 : (nd.kind == 2) = true := by rw [beq_iff_eq]; exact hk2
                clear hk2
                have HCL := Lib.hid (clone_tw HMD6.out)
                go_wp2_with fail
                refine (HCL.out).mono ?_
                rintro e w7 ⟨cbx, rfl, htw, hk7⟩
                have HTW := Lib.hid htw
                have HS7 := Lib.hid (hk7 _ _ _ _ HSF.out (by decide) (by decide))
                have HMID7 := Lib.hid (opA_blk HS7.out)
                have HCN := Lib.hid (conn_tw HTW.out NB nd.blk q _ cq (HBN.out w7 HTW.out.belowW) (by have := HTX.out; omega))
                clear htw hk7 HCL
                go_wp2_with ((with_reducible refine wpAt 90 ?_); refine wpList_load_mid_g rfl 33 _ rfl b9 2 rfl NB _ HMID7.out Try.underlying33 rfl (infoBlk _ HNS.out) ?_)
                refine (HCN.out).mono ?_
                rintro e wx ⟨⟨v, rfl⟩, hm8, hk8⟩
                have HMX := Lib.hid hm8
                have HR9 := Lib.hid (hk8 _ _ _ _ HS7.out (by decide) (by decide))
                have HGX := HGD
                clear hm8 hk8 HCN
                go_upto_region 25 with fail
                clear HRX
                generalize hhx : h = hx at *
                generalize hdx : ds = dx at *
                generalize hpx : p2 = p2x at *
                generalize hcx : c2 = c2x at *
                generalize hrx : rows2 = rows2x at *
                clear hhx hdx hpx hcx hrx
                obtain ⟨RY, hRY⟩ : ∃ RY, RY = rcA (d : Int) hx p2x dx.length c2x := ⟨_, rfl⟩
                have HYS : Hid (RY.size = 3) := by show _ = _; rw [hRY]; rfl
                have HYB : Hid (wx.heap[b7]? = some (.cells RY 41 (0, 0))) := by
                  obtain ⟨_, _, _, _, _, _, _, _, h5, _⟩ := HMX.out
                  have := h5.box
                  rwa [← hRY] at this
                have HYMID := Lib.hid (opA_blk HR9.out)
                have HBNX := Lib.hid (HBN.out wx HMX.out.belowW)
                have hlk := like_md HMX.out (fun x hx => ⟨by have := (HGX.out x hx).1; omega, (HGX.out x hx).2⟩) NB nd.blk q _ cq HBNX.out HTX.out
                rw [← hRY] at hlk
                have HLK := Lib.hid hlk
                clear hlk hRY
                go_wp2_with (first
                  | ((with_reducible refine wpAt 102 ?_); refine wpList_load_row_g rfl 41 _ rfl b7 rfl 41 RY (0, 0) _ HYB.out Try.underlying41 rfl (infoRC _ HYS.out) ?_)
                  | ((with_reducible refine wpAt 104 ?_); refine wpList_load_mid_g rfl 33 _ rfl b9 2 rfl NB _ HYMID.out Try.underlying33 rfl (infoBlk _ HNS.out) ?_))
                refine (HLK.out).mono ?_
                rintro e wz ⟨rfl, hbz⟩
                have HDZ : Hid (DoL w d b7 (.pointer (some ⟨cbx, 0, none⟩)) wz) := ⟨cbx, hx, dx, p2x, c2x, rows2x, rfl, HMX.out.below hbz, HGX.out⟩
                clear hbz HLK
                go_wp2_with fail
                go_roundw
                case rel => exact ⟨i + 1, by omega, by go_num, HDZ.out⟩
                case measure => simp [intOf]; omega
              · have hkb2 : (nd.kind == 2) = false := by rw [beq_eq_false_iff_ne]; exact hk2
                clear hk2
                go_upto_region 25 with fail
                have HMX := HMD6
                have HR9 := HSF
                have HGX := HGD
                clear HRX
                generalize hhx : h = hx at *
                generalize hdx : ds = dx at *
                generalize hpx : p2 = p2x at *
                generalize hcx : c2 = c2x at *
                generalize hrx : rows2 = rows2x at *
                generalize hbx : cb = cbx at *
                generalize hwx : w6 = wx at *
                clear hhx hdx hpx hcx hrx hbx hwx
                obtain ⟨RY, hRY⟩ : ∃ RY, RY = rcA (d : Int) hx p2x dx.length c2x := ⟨_, rfl⟩
                have HYS : Hid (RY.size = 3) := by show _ = _; rw [hRY]; rfl
                have HYB : Hid (wx.heap[b7]? = some (.cells RY 41 (0, 0))) := by
                  obtain ⟨_, _, _, _, _, _, _, _, h5, _⟩ := HMX.out
                  have := h5.box
                  rwa [← hRY] at this
                have HYMID := Lib.hid (opA_blk HR9.out)
                have HBNX := Lib.hid (HBN.out wx HMX.out.belowW)
                have hlk := like_md HMX.out (fun x hx => ⟨by have := (HGX.out x hx).1; omega, (HGX.out x hx).2⟩) NB nd.blk q _ cq HBNX.out HTX.out
                rw [← hRY] at hlk
                have HLK := Lib.hid hlk
                clear hlk hRY
                go_wp2_with (first
                  | ((with_reducible refine wpAt 102 ?_); refine wpList_load_row_g rfl 41 _ rfl b7 rfl 41 RY (0, 0) _ HYB.out Try.underlying41 rfl (infoRC _ HYS.out) ?_)
                  | ((with_reducible refine wpAt 104 ?_); refine wpList_load_mid_g rfl 33 _ rfl b9 2 rfl NB _ HYMID.out Try.underlying33 rfl (infoBlk _ HNS.out) ?_))
                refine (HLK.out).mono ?_
                rintro e wz ⟨rfl, hbz⟩
                have HDZ : Hid (DoL w d b7 (.pointer (some ⟨cbx, 0, none⟩)) wz) := ⟨cbx, hx, dx, p2x, c2x, rows2x, rfl, HMX.out.below hbz, HGX.out⟩
                clear hbz HLK
                go_wp2_with fail
                go_roundw
                case rel => exact ⟨i + 1, by omega, by go_num, HDZ.out⟩
                case measure => simp [intOf]; omega
        · have hdl : decide ((i : Int) < (os.length : Int)) = false := decide_eq_false (by omega)
          go_wp2_with fail
          refine (alive_any _).mono ?_
          rintro e w4 ⟨rfl, hb4⟩
          have HB4 := Lib.hid (HMD.out.belowW.trans (hb4.mono HMD.out.belowW.size))
          clear hb4
          go_wp2_with fail
          go_ret
          exact ⟨rfl, HB4.out⟩
end Go.Proofs.Ytepemfgiigceoaa.Chn
