/- PARTS, JOINED: A CALL OF A STATEMENT ON CHAINS, with the tip's hash laid in. Conditions: none. THE WALKS OF THE DOCUMENT'S CHAIN: windows the same, a block's place, may a block be connected. Conditions: none. THE WALKS OF THE DOCUMENT'S CHAIN, on: may a block be connected. Conditions: none. THE PLAIN LAW OF WHAT IS CONNECTED AND DISCONNECTED; and blocks built. Conditions: none. WHAT A CHAIN AND THE DOCUMENT'S TELL: the lowest height, a height of a place, a block found. Conditions: none. WHERE A CHAIN's TRANSACTIONS STAND FIRST: the map that the chain makes. Conditions: none. WHERE A TRANSACTION STANDS FIRST, the chain's way and the document's. Conditions: none. WHERE A TRANSACTION STANDS FIRST, the document's way. Conditions: none. WHICH TRANSACTIONS OF A CHAIN HAVE A HINT, the chain's way. Conditions: none. -/
import Derived.Test.YtepemfgiigceoaaChP1
import Derived.Test.YtepemfgiigceoaaChP2
import Derived.Test.YtepemfgiigceoaaChP3
import Derived.Test.YtepemfgiigceoaaChP4
namespace Go.Proofs.Ytepemfgiigceoaa.Chn
open Go.RowKit Go.Mir Go.Mir.Parts Go.Proofs.Ytepemfgiigceoaa.Blk

/-- a part of a row stored anew -/
theorem setCells_mid {w : World} {b : Nat} {M : Array Value} {t : TypeId} (A X Y C : List Value) (h : w.heap[b]? = some (.cells M t (0, 0))) (hM : M.toList = A ++ X ++ C) (hY : Y.length = X.length) :
    (w.setCells b A.length Y).heap[b]? = some (.cells (A ++ Y ++ C).toArray t (0, 0)) := by
  have hs : M.size = A.length + X.length + C.length := by rw [← Array.length_toList, hM]; simp; omega
  obtain ⟨A', h1, h2, h3⟩ := setCells_row b t Y A.length w M h (by omega)
  rw [h1]
  have : A' = (A ++ Y ++ C).toArray := by
    apply Array.ext_getElem?
    intro i
    rw [h3 i, ← Array.getElem?_toList, hM]
    simp only [List.getElem?_toArray]
    by_cases h1 : i < A.length
    · rw [if_neg (by omega), List.append_assoc, List.append_assoc, List.getElem?_append_left h1, List.getElem?_append_left h1]
    · by_cases h2 : i < A.length + Y.length
      · rw [if_pos (by omega), List.getElem?_append_left (by simp; omega), List.getElem?_append_right (by omega)]
      · rw [if_neg (by omega), List.getElem?_append_right (by simp; omega), List.getElem?_append_right (by simp; omega)]
        congr 1
        simp [hY]
  rw [this]
theorem there_mid {w : World} {b : Nat} {M : Array Value} {t : TypeId} (h : w.heap[b]? = some (.cells M t (0, 0))) (o n : Nat) (hn : o + n ≤ M.size) : w.there b o n := fun j hj => by
  refine ⟨?_, frozen_of_row _ _ _ _ _ h⟩
  rw [cell_of_row _ _ _ _ _ _ h]
  simp; omega
theorem turns_setCells {w : World} (b : Nat) : ∀ (vs : List Value) (o : Nat) (w' : World), Turns (fun i => i = b) w w' → Turns (fun i => i = b) w (w'.setCells b o vs)
  | [], _, _, h => h
  | v :: r, o, w', h => turns_setCells b r (o + 1) _ (h.setCell (p := ⟨b, o, none⟩) (fun _ => rfl) v)
/-- what the call is, then -/
def nearD (ds : List BlkD) (o : COp) : COp := match ds.getLast? with
  | none => o
  | some t => if o.nr = true then (if o.kind = 0 then ⟨o.kind, o.nr, ⟨o.blk.hash, t.hash, o.blk.txs⟩⟩ else ⟨o.kind, o.nr, ⟨t.hash, o.blk.par, o.blk.txs⟩⟩) else o
theorem nearD_txs (ds : List BlkD) (o : COp) : (nearD ds o).blk.txs = o.blk.txs := by
  unfold nearD
  cases ds.getLast? with
  | none => rfl
  | some t =>
    show (if _ then _ else _ : COp).blk.txs = _
    by_cases h : o.nr = true
    · rw [if_pos h]
      by_cases h2 : o.kind = 0
      · rw [if_pos h2]
      · rw [if_neg h2]
    · rw [if_neg h]
theorem nearD_kind (ds : List BlkD) (o : COp) : (nearD ds o).kind = o.kind := by
  unfold nearD
  cases ds.getLast? with
  | none => rfl
  | some t =>
    show (if _ then _ else _ : COp).kind = _
    by_cases h : o.nr = true
    · rw [if_pos h]
      by_cases h2 : o.kind = 0
      · rw [if_pos h2]
      · rw [if_neg h2]
    · rw [if_neg h]
/-- a reference's chain as a value -/
def rcA (dep : Int) (ht : Nat) (p : Option Addr) (n c : Nat) : Array Value := #[.int .i64 dep, .int .u32 (ht : Int), .slice p n c]
def NearP (ds : List BlkD) (o : COp) (q : Option Addr) (cc : Nat) (w : World) (e : Ending) (w' : World) : Prop :=
  e = .returned (.agg (opA (nearD ds o).kind (nearD ds o).nr (blkA (nearD ds o).blk.hash (nearD ds o).blk.par q (nearD ds o).blk.txs.length cc))) ∧ (nearD ds o).blk.hash.length = 32 ∧ (nearD ds o).blk.par.length = 32 ∧ Below w.heap.size w w'
theorem near_same {ds : List BlkD} {o : COp} {q : Option Addr} {cc : Nat} {w w' : World} {A : Array Value} (h : nearD ds o = o) (hA : A = opA o.kind o.nr (blkA o.blk.hash o.blk.par q o.blk.txs.length cc)) (h1 : o.blk.hash.length = 32) (h2 : o.blk.par.length = 32) (hb : Below w.heap.size w w') : NearP ds o q cc w (.returned (.agg A)) w' := by
  unfold NearP
  rw [h]
  exact ⟨by rw [hA], h1, h2, hb⟩

set_option maxRecDepth 100000 in
set_option maxHeartbeats 800000 in
theorem near_any (dep : Int) (ht : Nat) (ds : List BlkD) (p : Option Addr) (c : Nat) (rows : List (List Value)) (o : COp) (q : Option Addr) (cc : Nat) (w : World) (hW : Bks w p ds.length c ds rows) (hO : BlkAt w (blkA o.blk.hash o.blk.par q o.blk.txs.length cc) o.blk q o.blk.txs.length cc) :
    Calls Try.prog 11 #[.agg (rcA dep ht p ds.length c), .agg (opA o.kind o.nr (blkA o.blk.hash o.blk.par q o.blk.txs.length cc))] w (NearP ds o q cc w) := by
  obtain ⟨Z, hz, hZ⟩ := zOp
  have HZZ := Lib.hid hZ
  obtain ⟨ZI, hzi, hZI⟩ : ∃ Z : Array Value, (∀ w0, (zeroValue 30).run Try.prog w0 = .ok (.agg Z) w0) ∧ Hid (Z.size = 32) := ⟨idA zeros, fun w0 => by kernel_rfl, by show _ = _; kernel_rfl⟩
  have HW := Lib.hid hW
  have HO := Lib.hid hO
  have HHL := Lib.hid hO.hlen
  have HPL := Lib.hid hO.plen
  have hle := hW.rs.sl.le
  have hmax := hW.rs.sl.max
  obtain ⟨M, hM⟩ : ∃ M, M = opA o.kind o.nr (blkA o.blk.hash o.blk.par q o.blk.txs.length cc) := ⟨_, rfl⟩
  have HME := Lib.hid hM
  have HMS : Hid (M.size = 67) := by show _ = _; rw [hM]; exact opA_size hO.size
  have HMO : Hid (M.all (·.oneCell') = true) := by show _ = _; rw [hM]; exact opA_one hO.one
  rw [← hM]
  obtain ⟨RC, hRC⟩ : ∃ RC, RC = rcA dep ht p ds.length c := ⟨_, rfl⟩
  have HRC := Lib.hid hRC
  have HRS : Hid (RC.size = 3) := by show _ = _; rw [hRC]; rfl
  rw [← hRC]
  have H2 := Lib.hid (two_allocs w (.cells RC 41) (.cells M 35))
  have HB2 := Lib.hid H2.out.2.2.2
  have hb3 := (Below.allocs ((w.alloc (.cells RC 41)).alloc (.cells M 35)) (.cells Z 35))
  have HB3 := Lib.hid (HB2.out.trans (hb3.mono HB2.out.size))
  have HR0 := Lib.hid (Below.keepOld hb3 H2.out.1)
  have HR1 := Lib.hid (Below.keepOld hb3 H2.out.2.1)
  have HR2 : Hid ((((w.alloc (.cells RC 41)).alloc (.cells M 35)).alloc (.cells Z 35)).heap[w.heap.size + 1 + 1]? = some (.cells Z 35 (0, 0))) := by
    show _ = _
    have := heap_alloc_last ((w.alloc (.cells RC 41)).alloc (.cells M 35)) (.cells Z 35)
    rwa [H2.out.2.2.1] at this
  have HZ3 : Hid ((((w.alloc (.cells RC 41)).alloc (.cells M 35)).alloc (.cells Z 35)).heap.size = w.heap.size + 3) := by show _ = _; simp
  have hk0 : (((w.alloc (.cells RC 41)).alloc (.cells M 35)).alloc (.cells Z 35)).cell? ⟨w.heap.size + 1, 0, none⟩ = some (.int .i64 o.kind) := (opA_cell (by rw [HR1.out, hM])).1
  have hk1 : (((w.alloc (.cells RC 41)).alloc (.cells M 35)).alloc (.cells Z 35)).cell? ⟨w.heap.size + 1, 1, none⟩ = some (.bool o.nr) := (opA_cell (by rw [HR1.out, hM])).2
  have hk2 : (((w.alloc (.cells RC 41)).alloc (.cells M 35)).alloc (.cells Z 35)).cell? ⟨w.heap.size, 2, none⟩ = some (.slice p ds.length c) := by rw [cell_of_row _ _ _ _ _ _ HR0.out, hRC]; rfl
  clear hZ hW hO hM hRC hb3
  go_enter Try.func11, Try.ntmps11
  have HK0 := Lib.hid hk0
  have HK1 := Lib.hid hk1
  have HK2 := Lib.hid hk2
  clear hk0 hk1 hk2
  go_upto_region 1 with fail
  generalize ((w.alloc (.cells RC 41)).alloc (.cells M 35)).alloc (.cells Z 35) = w3 at *
  have hk0 := HK0.out
  have hk1 := HK1.out
  have hk2 := HK2.out
  clear HK0 HK1 HK2
  have HZ1 : Hid (∀ k : Nat, k ≤ w.heap.size + 1 → k < w3.heap.size) := fun k hk => by have := HZ3.out; omega
  cases hnr : o.nr with
  | false =>
    have HSAME : Hid (nearD ds o = o) := by
      show _ = _
      unfold nearD
      cases ds.getLast? with
      | none => rfl
      | some t => show (if _ then _ else _) = _; rw [if_neg (by rw [hnr]; simp)]
    rw [hnr] at hk1
    clear hnr
    have HBX := HB3
    have HRX := HR1
    have HRZ := HR2
    have HXS := HMS
    have HXO := HMO
    generalize hMX : M = MX at *
    have HBF := Lib.hid (below_setRow HBX.out (show w.heap.size ≤ w.heap.size + 1 + 1 by omega) MX)
    have HSF := Lib.hid (setRow_heap _ _ _ MX _ _ HRZ.out)
    go_wp2_with (first
      | ((with_reducible refine wpAt 32 ?_); refine wpList_load_row rfl 35 _ rfl (w.heap.size + 1) rfl 35 MX (0, 0) _ HRX.out Try.underlying35 rfl (infoOp _ HXS.out) ?_)
      | ((with_reducible refine wpStoreAt 4 ?_); refine wpList_store_row rfl 35 _ _ rfl (w.heap.size + 1 + 1) MX rfl rfl 35 Z HRZ.out (infoOp _ HXS.out) (by rw [HZZ.out, HXS.out]) HXO.out ?_))
    refine bodyPost_ret (results_cell_row rfl _ _ _ _ _ _ _ rfl HSF.out Try.underlying35 rfl (infoOp _ HXS.out)) rfl ?_
    exact near_same HSAME.out HME.out HHL.out HPL.out HBF.out
  | true =>
    rw [hnr] at hk1
    cases hl : ds.getLast? with
    | none =>
      have hds : ds = [] := List.getLast?_eq_none_iff.1 hl
      have HSAME : Hid (nearD ds o = o) := by show _ = _; unfold nearD; rw [hl]
      have hl0 : decide ((0 : Int) < (ds.length : Int)) = false := by rw [hds]; rfl
      have hl1 : ds.length = 0 := by rw [hds]; rfl
      clear hl hds hnr
      have HBX := HB3
      have HRX := HR1
      have HRZ := HR2
      have HXS := HMS
      have HXO := HMO
      generalize hMX : M = MX at *
      have HBF := Lib.hid (below_setRow HBX.out (show w.heap.size ≤ w.heap.size + 1 + 1 by omega) MX)
      have HSF := Lib.hid (setRow_heap _ _ _ MX _ _ HRZ.out)
      go_wp2_with (first
        | ((with_reducible refine wpAt 32 ?_); refine wpList_load_row rfl 35 _ rfl (w.heap.size + 1) rfl 35 MX (0, 0) _ HRX.out Try.underlying35 rfl (infoOp _ HXS.out) ?_)
        | ((with_reducible refine wpStoreAt 4 ?_); refine wpList_store_row rfl 35 _ _ rfl (w.heap.size + 1 + 1) MX rfl rfl 35 Z HRZ.out (infoOp _ HXS.out) (by rw [HZZ.out, HXS.out]) HXO.out ?_))
      refine bodyPost_ret (results_cell_row rfl _ _ _ _ _ _ _ rfl HSF.out Try.underlying35 rfl (infoOp _ HXS.out)) rfl ?_
      exact near_same HSAME.out HME.out HHL.out HPL.out HBF.out
    | some t =>
      by_cases hkd : o.kind = 0
      · have HND : Hid (nearD ds o = ⟨o.kind, o.nr, ⟨o.blk.hash, t.hash, o.blk.txs⟩⟩) := by
          show _ = _; unfold nearD; rw [hl]; show (if _ then _ else _) = _; rw [if_pos hnr, if_pos hkd]
        have hkb : (o.kind == 0) = true := by rw [beq_iff_eq]; exact hkd
        clear hkd hnr
        have hlen : 0 < ds.length := by cases ds with | nil => simp at hl | cons a r => simp
        have hl0 : decide ((0 : Int) < (ds.length : Int)) = true := decide_eq_true (by omega)
        obtain ⟨i, hi⟩ : ∃ i, i + 1 = ds.length := ⟨ds.length - 1, by omega⟩
        have hsub : (ds.length : Int) - 1 = (i : Int) := by omega
        have hin : (i : Int) < (ds.length : Int) := by omega
        have hi0 : (0 : Int) ≤ (i : Int) := by omega
        obtain ⟨bb, oo, rfl⟩ := HW.out.rs.sl.addr (by omega) (by omega)
        obtain ⟨q', c', hbt, hrg⟩ := HW.out.at i (by omega)
        have htd : ds[i] = t := by
          have := hl
          rw [List.getLast?_eq_getElem?, show ds.length - 1 = i by omega, List.getElem?_eq_getElem (by omega)] at this
          exact Option.some.inj this
        rw [htd] at hbt hrg
        have HTL := Lib.hid hbt.hlen
        have HTA : Hid ((idA t.hash).size = 32) := by show _ = _; rw [idA_size, hbt.hlen]
        have HTAL : Hid ((idA t.hash).toList.length = 32) := by show _ = _; rw [Array.length_toList, idA_size, hbt.hlen]
        have HRT : Hid (w3.rangeAt bb (oo + i * 65) (idA t.hash).toList) := by
          have h1 : w3.rangeAt bb (oo + i * 65) (blkA t.hash t.par q' t.txs.length c').toList := range_below hrg HB3.out
          intro j v hv
          refine h1 j v ?_
          rw [blkA_toList, List.append_assoc, List.getElem?_append_left (by have := (List.getElem?_eq_some_iff.1 hv).1; rwa [idA_toList] at this)]
          rwa [idA_toList] at hv
        have HNW := Lib.hid (box_new w3 ZI 30)
        have hbb := box_below w3 ZI (idA t.hash) 30
        have HBR := Lib.hid (box_row w3 ZI (idA t.hash) 30)
        have HBX4 := Lib.hid (HB3.out.trans (hbb.mono HB3.out.size))
        have HR14 := Lib.hid (Below.keepOld hbb HR1.out)
        have HR24 := Lib.hid (Below.keepOld hbb HR2.out)
        have hk0' : ((w3.alloc (.cells ZI 30)).setRow w3.heap.size (idA t.hash)).cell? ⟨w.heap.size + 1, 0, none⟩ = some (.int .i64 o.kind) := cell_below hk0 hbb
        have HTO := Lib.hid (idA_one t.hash)
        clear hbt hrg hbb htd
        have hrx := setCells_mid ([Value.int .i64 o.kind, .bool o.nr] ++ bytesV o.blk.hash) (bytesV o.blk.par) (idA t.hash).toList [Value.slice q o.blk.txs.length cc] HR14.out (by rw [HME.out, opA_toList, blkA_toList]; simp) (by rw [HTAL.out, bytesV_length]; exact HPL.out.symm)
        have hmx : (([Value.int .i64 o.kind, .bool o.nr] ++ bytesV o.blk.hash) ++ (idA t.hash).toList ++ [Value.slice q o.blk.txs.length cc]).toArray = opA o.kind o.nr (blkA o.blk.hash t.hash q o.blk.txs.length cc) := by
          apply Array.toList_inj.1
          rw [opA_toList, blkA_toList, idA_toList]; simp
        rw [hmx] at hrx
        obtain ⟨MX, hMX⟩ : ∃ MX, MX = opA o.kind o.nr (blkA o.blk.hash t.hash q o.blk.txs.length cc) := ⟨_, rfl⟩
        rw [← hMX] at hrx
        have HBA : Hid (BlkAt w (blkA o.blk.hash t.hash q o.blk.txs.length cc) ⟨o.blk.hash, t.hash, o.blk.txs⟩ q o.blk.txs.length cc) := ⟨rfl, HHL.out, HTL.out, HO.out.ids⟩
        have HXS : Hid (MX.size = 67) := by show _ = _; rw [hMX]; exact opA_size HBA.out.size
        have HXO : Hid (MX.all (·.oneCell') = true) := by show _ = _; rw [hMX]; exact opA_one HBA.out.one
        have HMX := Lib.hid hMX
        have HRX : Hid (((w3.alloc (.cells ZI 30)).setRow w3.heap.size (idA t.hash)).setCells (w.heap.size + 1) 34 (idA t.hash).toList |>.heap[w.heap.size + 1]? = some (.cells MX 35 (0, 0))) := by
          show _ = _
          rw [← hrx]
          have e : ([Value.int .i64 o.kind, .bool o.nr] ++ bytesV o.blk.hash).length = 34 := by simp [bytesV_length, HHL.out]
          rw [e]
        clear hmx hrx hMX HBA
        have HT5 : Hid (Turns (fun i => i = w.heap.size + 1) ((w3.alloc (.cells ZI 30)).setRow w3.heap.size (idA t.hash)) (((w3.alloc (.cells ZI 30)).setRow w3.heap.size (idA t.hash)).setCells (w.heap.size + 1) 34 (idA t.hash).toList)) := turns_setCells _ _ _ _ (Turns.refl _ _)
        have HBX : Hid (Below w.heap.size w (((w3.alloc (.cells ZI 30)).setRow w3.heap.size (idA t.hash)).setCells (w.heap.size + 1) 34 (idA t.hash).toList)) := HBX4.out.trans (HT5.out.below HBX4.out.size (fun i hi => by omega))
        have HRZ := Lib.hid (HT5.out.keep HR24.out (by omega))
        have HBF := Lib.hid (below_setRow HBX.out (show w.heap.size ≤ w.heap.size + 1 + 1 by omega) MX)
        have HSF := Lib.hid (setRow_heap _ _ _ MX _ _ HRZ.out)
        go_wp2_with (first
          | ((with_reducible refine wpAt 22 ?_); refine wpList_load_mid rfl 30 _ rfl bb (oo + i * 65) rfl (idA t.hash).toList _ HRT.out Try.underlying30 rfl (infoI _ HTAL.out) ?_)
          | ((with_reducible refine wpStoreAt 5 ?_); refine wpList_store_row rfl 30 _ _ rfl w3.heap.size (idA t.hash) rfl rfl 30 ZI HNW.out (infoI _ HTA.out) (by rw [hZI.out, HTA.out]) HTO.out ?_)
          | ((with_reducible refine wpAt 26 ?_); refine wpList_load_row rfl 30 _ rfl w3.heap.size rfl 30 (idA t.hash) (0, 0) _ HBR.out Try.underlying30 rfl (infoI _ HTA.out) ?_)
          | ((with_reducible refine wpStoreAt 28 ?_); refine wpList_store_mid rfl 30 _ _ rfl (w.heap.size + 1) 34 (idA t.hash) rfl rfl (there_mid HR14.out 34 _ (by rw [HTA.out, HMS.out]; omega)) (infoI _ HTA.out) HTO.out ?_)
          | ((with_reducible refine wpAt 32 ?_); refine wpList_load_row rfl 35 _ rfl (w.heap.size + 1) rfl 35 MX (0, 0) _ HRX.out Try.underlying35 rfl (infoOp _ HXS.out) ?_)
          | ((with_reducible refine wpStoreAt 4 ?_); refine wpList_store_row rfl 35 _ _ rfl (w.heap.size + 1 + 1) MX rfl rfl 35 Z HRZ.out (infoOp _ HXS.out) (by rw [HZZ.out, HXS.out]) HXO.out ?_))
        refine bodyPost_ret (results_cell_row rfl _ _ _ _ _ _ _ rfl HSF.out Try.underlying35 rfl (infoOp _ HXS.out)) rfl ?_
        refine ⟨?_, ?_, ?_, HBF.out⟩
        · rw [HND.out, HMX.out]
        · rw [HND.out]; exact HHL.out
        · rw [HND.out]; exact HTL.out
      · have HND : Hid (nearD ds o = ⟨o.kind, o.nr, ⟨t.hash, o.blk.par, o.blk.txs⟩⟩) := by
          show _ = _; unfold nearD; rw [hl]; show (if _ then _ else _) = _; rw [if_pos hnr, if_neg hkd]
        have hkb : (o.kind == 0) = false := by rw [beq_eq_false_iff_ne]; exact hkd
        clear hkd hnr
        have hlen : 0 < ds.length := by cases ds with | nil => simp at hl | cons a r => simp
        have hl0 : decide ((0 : Int) < (ds.length : Int)) = true := decide_eq_true (by omega)
        obtain ⟨i, hi⟩ : ∃ i, i + 1 = ds.length := ⟨ds.length - 1, by omega⟩
        have hsub : (ds.length : Int) - 1 = (i : Int) := by omega
        have hin : (i : Int) < (ds.length : Int) := by omega
        have hi0 : (0 : Int) ≤ (i : Int) := by omega
        obtain ⟨bb, oo, rfl⟩ := HW.out.rs.sl.addr (by omega) (by omega)
        obtain ⟨q', c', hbt, hrg⟩ := HW.out.at i (by omega)
        have htd : ds[i] = t := by
          have := hl
          rw [List.getLast?_eq_getElem?, show ds.length - 1 = i by omega, List.getElem?_eq_getElem (by omega)] at this
          exact Option.some.inj this
        rw [htd] at hbt hrg
        have HTL := Lib.hid hbt.hlen
        have HTA : Hid ((idA t.hash).size = 32) := by show _ = _; rw [idA_size, hbt.hlen]
        have HTAL : Hid ((idA t.hash).toList.length = 32) := by show _ = _; rw [Array.length_toList, idA_size, hbt.hlen]
        have HRT : Hid (w3.rangeAt bb (oo + i * 65) (idA t.hash).toList) := by
          have h1 : w3.rangeAt bb (oo + i * 65) (blkA t.hash t.par q' t.txs.length c').toList := range_below hrg HB3.out
          intro j v hv
          refine h1 j v ?_
          rw [blkA_toList, List.append_assoc, List.getElem?_append_left (by have := (List.getElem?_eq_some_iff.1 hv).1; rwa [idA_toList] at this)]
          rwa [idA_toList] at hv
        have HNW := Lib.hid (box_new w3 ZI 30)
        have hbb := box_below w3 ZI (idA t.hash) 30
        have HBR := Lib.hid (box_row w3 ZI (idA t.hash) 30)
        have HBX4 := Lib.hid (HB3.out.trans (hbb.mono HB3.out.size))
        have HR14 := Lib.hid (Below.keepOld hbb HR1.out)
        have HR24 := Lib.hid (Below.keepOld hbb HR2.out)
        have hk0' : ((w3.alloc (.cells ZI 30)).setRow w3.heap.size (idA t.hash)).cell? ⟨w.heap.size + 1, 0, none⟩ = some (.int .i64 o.kind) := cell_below hk0 hbb
        have HTO := Lib.hid (idA_one t.hash)
        clear hbt hrg hbb htd
        have hrx := setCells_mid [Value.int .i64 o.kind, .bool o.nr] (bytesV o.blk.hash) (idA t.hash).toList (bytesV o.blk.par ++ [Value.slice q o.blk.txs.length cc]) HR14.out (by rw [HME.out, opA_toList, blkA_toList]; simp) (by rw [HTAL.out, bytesV_length]; exact HHL.out.symm)
        have hmx : ([Value.int .i64 o.kind, .bool o.nr] ++ (idA t.hash).toList ++ (bytesV o.blk.par ++ [Value.slice q o.blk.txs.length cc])).toArray = opA o.kind o.nr (blkA t.hash o.blk.par q o.blk.txs.length cc) := by
          apply Array.toList_inj.1
          rw [opA_toList, blkA_toList, idA_toList]; simp
        rw [hmx] at hrx
        obtain ⟨MX, hMX⟩ : ∃ MX, MX = opA o.kind o.nr (blkA t.hash o.blk.par q o.blk.txs.length cc) := ⟨_, rfl⟩
        rw [← hMX] at hrx
        have HBA : Hid (BlkAt w (blkA t.hash o.blk.par q o.blk.txs.length cc) ⟨t.hash, o.blk.par, o.blk.txs⟩ q o.blk.txs.length cc) := ⟨rfl, HTL.out, HPL.out, HO.out.ids⟩
        have HXS : Hid (MX.size = 67) := by show _ = _; rw [hMX]; exact opA_size HBA.out.size
        have HXO : Hid (MX.all (·.oneCell') = true) := by show _ = _; rw [hMX]; exact opA_one HBA.out.one
        have HMX := Lib.hid hMX
        have HRX : Hid (((w3.alloc (.cells ZI 30)).setRow w3.heap.size (idA t.hash)).setCells (w.heap.size + 1) 2 (idA t.hash).toList |>.heap[w.heap.size + 1]? = some (.cells MX 35 (0, 0))) := by
          show _ = _
          rw [← hrx]
          have e : [Value.int .i64 o.kind, .bool o.nr].length = 2 := by simp [bytesV_length, HHL.out]
          rw [e]
        clear hmx hrx hMX HBA
        have HT5 : Hid (Turns (fun i => i = w.heap.size + 1) ((w3.alloc (.cells ZI 30)).setRow w3.heap.size (idA t.hash)) (((w3.alloc (.cells ZI 30)).setRow w3.heap.size (idA t.hash)).setCells (w.heap.size + 1) 2 (idA t.hash).toList)) := turns_setCells _ _ _ _ (Turns.refl _ _)
        have HBX : Hid (Below w.heap.size w (((w3.alloc (.cells ZI 30)).setRow w3.heap.size (idA t.hash)).setCells (w.heap.size + 1) 2 (idA t.hash).toList)) := HBX4.out.trans (HT5.out.below HBX4.out.size (fun i hi => by omega))
        have HRZ := Lib.hid (HT5.out.keep HR24.out (by omega))
        have HBF := Lib.hid (below_setRow HBX.out (show w.heap.size ≤ w.heap.size + 1 + 1 by omega) MX)
        have HSF := Lib.hid (setRow_heap _ _ _ MX _ _ HRZ.out)
        go_wp2_with (first
          | ((with_reducible refine wpAt 22 ?_); refine wpList_load_mid rfl 30 _ rfl bb (oo + i * 65) rfl (idA t.hash).toList _ HRT.out Try.underlying30 rfl (infoI _ HTAL.out) ?_)
          | ((with_reducible refine wpStoreAt 5 ?_); refine wpList_store_row rfl 30 _ _ rfl w3.heap.size (idA t.hash) rfl rfl 30 ZI HNW.out (infoI _ HTA.out) (by rw [hZI.out, HTA.out]) HTO.out ?_)
          | ((with_reducible refine wpAt 29 ?_); refine wpList_load_row rfl 30 _ rfl w3.heap.size rfl 30 (idA t.hash) (0, 0) _ HBR.out Try.underlying30 rfl (infoI _ HTA.out) ?_)
          | ((with_reducible refine wpStoreAt 31 ?_); refine wpList_store_mid rfl 30 _ _ rfl (w.heap.size + 1) 2 (idA t.hash) rfl rfl (there_mid HR14.out 2 _ (by rw [HTA.out, HMS.out]; omega)) (infoI _ HTA.out) HTO.out ?_)
          | ((with_reducible refine wpAt 32 ?_); refine wpList_load_row rfl 35 _ rfl (w.heap.size + 1) rfl 35 MX (0, 0) _ HRX.out Try.underlying35 rfl (infoOp _ HXS.out) ?_)
          | ((with_reducible refine wpStoreAt 4 ?_); refine wpList_store_row rfl 35 _ _ rfl (w.heap.size + 1 + 1) MX rfl rfl 35 Z HRZ.out (infoOp _ HXS.out) (by rw [HZZ.out, HXS.out]) HXO.out ?_))
        refine bodyPost_ret (results_cell_row rfl _ _ _ _ _ _ _ rfl HSF.out Try.underlying35 rfl (infoOp _ HXS.out)) rfl ?_
        refine ⟨?_, ?_, ?_, HBF.out⟩
        · rw [HND.out, HMX.out]
        · rw [HND.out]; exact HTL.out
        · rw [HND.out]; exact HPL.out
end Go.Proofs.Ytepemfgiigceoaa.Chn

namespace Go.Proofs.Ytepemfgiigceoaa.Chn
open Go.RowKit Go.Mir Go.Mir.Parts Go.Proofs.Ytepemfgiigceoaa.Blk

theorem sameB_id (d : BlkD) : sameB d d = true := by unfold sameB; simp
set_option maxRecDepth 100000 in
set_option maxHeartbeats 400000 in
/-- windows that are the same -/
theorem rWin_same (ds : List BlkD) (p p2 : Option Addr) (n n2 c c2 : Nat) (rows rows2 : List (List Value)) (w : World) (h : Bks w p n c ds rows) (h2 : Bks w p2 n2 c2 ds rows2) :
    Calls Try.prog 18 #[.slice p n c, .slice p2 n2 c2] w fun e w' => e = .returned (.bool true) ∧ Below w.heap.size w w' := by
  obtain rfl := h.count
  obtain rfl := h2.count
  have H := Lib.hid h
  have H2 := Lib.hid h2
  have hle := h.rs.sl.le
  have hmax := h.rs.sl.max
  have hle2 := h2.rs.sl.le
  have hmax2 := h2.rs.sl.max
  clear h h2
  go_enter Try.func18, Try.ntmps18
  go_wp2_with fail
  go_loopw [5] (fun j wr => ∃ k : Nat, k ≤ ds.length ∧ j = .int .i64 k ∧ Below w.heap.size w wr) (fun j _ => ds.length - (intOf j).toNat)
  case atStart => exact ⟨0, by omega, rfl, Below.refl _ _⟩
  case round =>
    obtain ⟨k, hk, rfl, hb0⟩ := hrel
    have HB0 := Lib.hid hb0
    clear hb0
    by_cases hlt : k < ds.length
    · have hd : decide ((k : Int) < (ds.length : Int)) = true := decide_eq_true (by omega)
      obtain ⟨b, o, rfl⟩ := H.out.rs.sl.addr (by omega) (by omega)
      obtain ⟨b2, o2, rfl⟩ := H2.out.rs.sl.addr (by omega) (by omega)
      obtain ⟨q, cq, hbq, hrg⟩ := H.out.at k hlt
      obtain ⟨q2, cq2, hbq2, hrg2⟩ := H2.out.at k hlt
      generalize ds[k] = d at *
      obtain ⟨A, hA⟩ : ∃ A, A = blkA d.hash d.par q d.txs.length cq := ⟨_, rfl⟩
      obtain ⟨A2, hA2⟩ : ∃ A, A = blkA d.hash d.par q2 d.txs.length cq2 := ⟨_, rfl⟩
      rw [← hA] at hbq hrg
      rw [← hA2] at hbq2 hrg2
      have HBQ := Lib.hid (hbq.below HB0.out)
      have HBQ2 := Lib.hid (hbq2.below HB0.out)
      have HRG : Hid (∀ y : Grown wr, y.v.rangeAt b (o + k * 65) A.toList) := fun y => range_grown (range_below hrg HB0.out) y
      have HRG2 : Hid (∀ y : Grown wr, y.v.rangeAt b2 (o2 + k * 65) A2.toList) := fun y => range_grown (range_below hrg2 HB0.out) y
      have HS := Lib.hid hbq.size
      have HS2 := Lib.hid hbq2.size
      clear hA hA2 hbq hbq2 hrg hrg2
      go_wp2_with fail
      refine wp_region_grow (by kernel_rfl) (by kernel_rfl) ?_
      repeat (first
        | refine wpQuiet_load rfl 33 _ rfl b (o + k * 65) rfl A _ HRG.out Try.underlying33 rfl (infoBlk _ HS.out) ?_
        | refine wpQuiet_load rfl 33 _ rfl b2 (o2 + k * 65) rfl A2 _ HRG2.out Try.underlying33 rfl (infoBlk _ HS2.out) ?_
        | quiet_step ((first | (go_at_call 29; exact Calls.grow_of (rSame_any A A2 d d _ _ _ _ _ _ _ (HBQ.out.below (Grown.b _)) (HBQ2.out.below (Grown.b _)))))))
      refine wpQuiet_nil ?_
      intro w3 hb3
      rw [sameB_id]
      have HB3 := Lib.hid (HB0.out.trans (hb3.mono HB0.out.size))
      clear hb3
      go_wp2_with fail
      go_roundw
      case rel => exact ⟨k + 1, by omega, by go_num, HB3.out⟩
      case measure => simp [intOf]; omega
    · have hd : decide ((k : Int) < (ds.length : Int)) = false := decide_eq_false (by omega)
      go_wp2_with fail
      go_ret
      exact ⟨rfl, HB0.out⟩
/-- a block's place, or -1 -/
def hasR (ds : List BlkD) (x : List UInt8) : Int := match ds.findIdx? (fun d => d.hash == x) with
  | some i => (i : Int)
  | none => -1
theorem hasR_some {ds : List BlkD} {x : List UInt8} {k : Nat} (hk : k < ds.length) (h : ds[k].hash = x) (hn : ∀ i d, i < k → ds[i]? = some d → ¬ d.hash = x) : hasR ds x = (k : Int) := by
  have : ds.findIdx? (fun d => d.hash == x) = some k := by
    rw [List.findIdx?_eq_some_iff_getElem]
    refine ⟨hk, by simpa using h, fun j hj => ?_⟩
    have := hn j _ hj (List.getElem?_eq_getElem (by omega))
    simpa using this
  unfold hasR; rw [this]
theorem hasR_none {ds : List BlkD} {x : List UInt8} (hn : ∀ i d, i < ds.length → ds[i]? = some d → ¬ d.hash = x) : hasR ds x = -1 := by
  have : ds.findIdx? (fun d => d.hash == x) = none := by
    rw [List.findIdx?_eq_none_iff]
    intro d hd
    obtain ⟨i, hi⟩ := List.mem_iff_getElem?.1 hd
    have := hn i d (List.getElem?_eq_some_iff.1 hi).1 hi
    simpa using this
  unfold hasR; rw [this]
theorem hasR_ge (ds : List BlkD) (height : Nat) (x : List UInt8) : decide ((0 : Int) ≤ hasR ds x) = (findR ds height x).2 := by
  unfold hasR findR
  cases ds.findIdx? (fun d => d.hash == x) with
  | none => rfl
  | some i => show decide ((0 : Int) ≤ (i : Int)) = true; rw [decide_eq_true_iff]; omega

set_option maxRecDepth 100000 in
set_option maxHeartbeats 400000 in
theorem rhas_any (ds : List BlkD) (p : Option Addr) (n c : Nat) (rows : List (List Value)) (x : List UInt8) (w : World) (h : Bks w p n c ds rows) (hx : x.length = 32) :
    Calls Try.prog 43 #[.slice p n c, .agg (idA x)] w fun e w' => e = .returned (.int .i64 (hasR ds x)) ∧ Below w.heap.size w w' := by
  obtain rfl := h.count
  have H := Lib.hid h
  have HX := Lib.hid hx
  have hle := h.rs.sl.le
  have hmax := h.rs.sl.max
  have HB1 := Lib.hid (Below.allocs w (.cells (idA x) 30))
  have HR1 := Lib.hid (heap_alloc_last w (.cells (idA x) 30))
  clear h hx
  go_enter Try.func43, Try.ntmps43
  go_wp2_with fail
  generalize w.alloc (.cells (idA x) 30) = w1 at *
  go_loopw [5] (fun j wr => ∃ k : Nat, k ≤ ds.length ∧ j = .int .i64 k ∧ (∀ i d, i < k → ds[i]? = some d → ¬ d.hash = x) ∧ wr.heap[w.heap.size]? = some (.cells (idA x) 30 (0, 0)) ∧ Below w.heap.size w wr) (fun j _ => ds.length - (intOf j).toNat)
  case atStart => exact ⟨0, by omega, rfl, fun i d h => absurd h (Nat.not_lt_zero i), HR1.out, HB1.out⟩
  case round =>
    obtain ⟨k, hk, rfl, hnot, hrow, hb0⟩ := hrel
    have HNOT := Lib.hid hnot
    have HROW := Lib.hid hrow
    have HB0 := Lib.hid hb0
    clear hb0 hnot hrow
    by_cases hlt : k < ds.length
    · have hd : decide ((k : Int) < (ds.length : Int)) = true := decide_eq_true (by omega)
      obtain ⟨b, o, rfl⟩ := H.out.rs.sl.addr (by omega) (by omega)
      obtain ⟨q, cq, hbq, hrg⟩ := H.out.at k hlt
      have HF1 : Hid (ds[k].hash = x → hasR ds x = (k : Int)) := fun h => hasR_some hlt h HNOT.out
      have HGK : Hid (ds[k]? = some ds[k]) := List.getElem?_eq_getElem hlt
      generalize ds[k] = d at *
      have HRG : Hid (∀ y : Grown wr, y.v.rangeAt b (o + k * 65) (idA d.hash).toList) := fun y => by
        have h1 := range_grown (range_below hrg HB0.out) y
        intro j v hv
        refine h1 j v ?_
        rw [blkA_toList, List.append_assoc, List.getElem?_append_left (by have := (List.getElem?_eq_some_iff.1 hv).1; rwa [idA_toList] at this)]
        rwa [idA_toList] at hv
      have HRX : Hid (∀ y : Grown wr, y.v.rangeAt w.heap.size 0 (idA x).toList) := fun y => range_grown (row_rangeC HROW.out) y
      have HHL := Lib.hid hbq.hlen
      have hq : ∀ w, (Op.equalIn 10000 30 (.agg (idA d.hash)) (.agg (idA x))).run Try.prog w = .ok (d.hash == x) w := fun w => eqI w d.hash x HHL.out HX.out
      clear hbq hrg
      by_cases hyx : d.hash = x
      · have hb : (d.hash == x) = true := by rw [beq_iff_eq]; exact hyx
        have HRES := Lib.hid (HF1.out hyx)
        clear hyx
        go_wp2_with fail
        refine wp_region_grow (by kernel_rfl) (by kernel_rfl) ?_
        repeat (first
          | refine wpQuiet_load rfl 30 _ rfl b (o + k * 65) rfl (idA d.hash) _ HRG.out Try.underlying30 rfl (infoI _ (by rw [idA_size, HHL.out])) ?_
          | refine wpQuiet_load rfl 30 _ rfl w.heap.size 0 rfl (idA x) _ HRX.out Try.underlying30 rfl (infoI _ (by rw [idA_size, HX.out])) ?_
          | quiet_step (fail))
        refine wpQuiet_nil ?_
        intro w3 hb3
        have HB3 := Lib.hid (HB0.out.trans (hb3.mono HB0.out.size))
        clear hb3 hq
        go_wp2_with fail
        go_ret
        exact ⟨by rw [HRES.out]; rfl, HB3.out⟩
      · have hb : (d.hash == x) = false := by rw [beq_eq_false_iff_ne]; exact hyx
        have HNE := Lib.hid hyx
        clear hyx
        go_wp2_with fail
        refine wp_region_grow (by kernel_rfl) (by kernel_rfl) ?_
        repeat (first
          | refine wpQuiet_load rfl 30 _ rfl b (o + k * 65) rfl (idA d.hash) _ HRG.out Try.underlying30 rfl (infoI _ (by rw [idA_size, HHL.out])) ?_
          | refine wpQuiet_load rfl 30 _ rfl w.heap.size 0 rfl (idA x) _ HRX.out Try.underlying30 rfl (infoI _ (by rw [idA_size, HX.out])) ?_
          | quiet_step (fail))
        refine wpQuiet_nil ?_
        intro w3 hb3
        have HB3 := Lib.hid (HB0.out.trans (hb3.mono HB0.out.size))
        have HR3 := Lib.hid (Below.keepOld hb3 HROW.out)
        clear hb3 hq
        go_wp2_with fail
        go_roundw
        case rel =>
          refine ⟨k + 1, by omega, by go_num, fun i d' hi hd' => ?_, HR3.out, HB3.out⟩
          by_cases hik : i = k
          · rw [hik, HGK.out] at hd'
            cases hd'
            exact HNE.out
          · exact HNOT.out i d' (by omega) hd'
        case measure => simp [intOf]; omega
    · have hd : decide ((k : Int) < (ds.length : Int)) = false := decide_eq_false (by omega)
      have HRES : Hid (hasR ds x = -1) := hasR_none fun i d hi hd' => HNOT.out i d (by omega) hd'
      go_wp2_with fail
      go_ret
      exact ⟨by rw [HRES.out]; rfl, HB0.out⟩
end Go.Proofs.Ytepemfgiigceoaa.Chn

namespace Go.Proofs.Ytepemfgiigceoaa.Chn
open Go.RowKit Go.Mir Go.Mir.Parts Go.Proofs.Ytepemfgiigceoaa.Blk

/-- the tip is the parent, or there is none -/
def TipOk (ds : List BlkD) (b : BlkD) : Prop := ds.getLast? = none ∨ ∃ t, ds.getLast? = some t ∧ t.hash = b.par
theorem mayE_ok {ds : List BlkD} {height : Nat} {b : BlkD} (hr : rightB b = true) (ht : TipOk ds b) : mayE ds height b = if (findR ds height b.hash).2 = true then 19 else if height = 4294967295 then 16 else 0 := by
  unfold mayE
  rw [hr]
  rcases ht with h | ⟨t, h, e⟩
  · rw [h]; simp
  · rw [h]; simp [e]
set_option maxRecDepth 100000 in
set_option maxHeartbeats 1600000 in
theorem rMay_any (dep : Int) (height : Nat) (ds : List BlkD) (p : Option Addr) (c : Nat) (rows : List (List Value)) (b : BlkD) (M : Array Value) (q : Option Addr) (n cc : Nat) (w : World) (hW : Bks w p ds.length c ds rows) (hM : BlkAt w M b q n cc) :
    Calls Try.prog 17 #[.agg (rcA dep height p ds.length c), .agg M] w fun e w' => e = .returned (.int .i64 (mayE ds height b)) ∧ Below w.heap.size w w' := by
  have HW := Lib.hid hW
  have HM := Lib.hid hM
  have hle := hW.rs.sl.le
  have hmax := hW.rs.sl.max
  have HMS := Lib.hid hM.size
  obtain ⟨RC, hRC⟩ : ∃ RC, RC = rcA dep height p ds.length c := ⟨_, rfl⟩
  have HRC := Lib.hid hRC
  rw [← hRC]
  have H2 := Lib.hid (two_allocs w (.cells RC 41) (.cells M 33))
  have HB2 := Lib.hid H2.out.2.2.2
  have HBQ2 := Lib.hid (hM.below H2.out.2.2.2)
  have HHL := Lib.hid hM.hlen
  have HPL := Lib.hid hM.plen
  clear hW hM hRC
  go_enter Try.func17, Try.ntmps17
  go_wp2_with ((with_reducible refine wpAt 5 ?_); refine wpList_load_row rfl 33 _ rfl (w.heap.size + 1) rfl 33 M (0, 0) _ H2.out.2.1 Try.underlying33 rfl (infoBlk _ HMS.out) ?_)
  generalize (w.alloc (.cells RC 41)).alloc (.cells M 33) = w2 at *
  refine (rRight_any M b _ _ _ _ HBQ2.out).mono ?_
  rintro e w3 ⟨rfl, hb3⟩
  have HB3 := Lib.hid (HB2.out.trans (hb3.mono HB2.out.size))
  have HR0 := Lib.hid (Below.keepOld hb3 H2.out.1)
  have HR1 := Lib.hid (Below.keepOld hb3 H2.out.2.1)
  have HPB := Lib.hid ((HBQ2.out.below hb3).parts (Below.keepOld hb3 H2.out.2.1))
  have HW3 := Lib.hid (HW.out.below HB3.out)
  clear hb3
  cases hr : rightB b with
  | false =>
    have HRES : Hid (mayE ds height b = 4) := by show _ = _; unfold mayE; rw [if_pos hr]
    clear hr
    go_wp2_with fail
    go_ret
    exact ⟨by rw [HRES.out]; rfl, HB3.out⟩
  | true =>
    have HRT := Lib.hid hr
    clear hr
    have hc2 : w3.cell? ⟨w.heap.size, 2, none⟩ = some (.slice p ds.length c) := by rw [cell_of_row _ _ _ _ _ _ HR0.out, HRC.out]; rfl
    have hg2 := cell_grown hc2
    have HC1 : Hid (w3.cell? ⟨w.heap.size, 1, none⟩ = some (.int .u32 (height : Int))) := by show _ = _; rw [cell_of_row _ _ _ _ _ _ HR0.out, HRC.out]; rfl
    have HRP : Hid (∀ y : Grown w3, y.v.rangeAt (w.heap.size + 1) 32 (idA b.par).toList) := fun y => range_grown HPB.out.2.1 y
    have HRH : Hid (∀ y : Grown w3, y.v.rangeAt (w.heap.size + 1) 0 (idA b.hash).toList) := fun y => range_grown HPB.out.1 y
    clear hc2
    go_wp2_with fail
    cases hl : ds.getLast? with
    | none =>
      have hds : ds = [] := List.getLast?_eq_none_iff.1 hl
      have HTIP : Hid (TipOk ds b) := .inl hl
      clear hl
      subst hds
      simp only [List.length_nil] at hg2
      have HW0 : Hid (Bks w3 p 0 c [] rows) := HW3.out
      refine wp_region_grow (by kernel_rfl) (by kernel_rfl) ?_
      repeat (first
        | ((with_reducible refine wpQuietGd ?_); (with_reducible refine wpQuiet_skip ?_ ?_); (· rfl); simp only [Act.put, List.setIfInBounds_toArray, List.set_cons_zero, List.set_cons_succ])
        | ((with_reducible refine wpQuietAt 30 ?_); refine wpQuiet_load rfl 30 _ rfl (w.heap.size + 1) 0 rfl (idA b.hash) _ HRH.out Try.underlying30 rfl (infoI _ (by rw [idA_size, HHL.out])) ?_)
        | quiet_step ((first | (go_at_call 43; exact Calls.grow_of (rhas_any [] p 0 c rows b.hash _ (HW0.out.below (Grown.b _)) HHL.out)))))
      refine wpQuiet_nil ?_
      intro w4 hb4
      have hc1 : w4.cell? ⟨w.heap.size, 1, none⟩ = some (.int .u32 (height : Int)) := cell_below HC1.out hb4
      have HB4 := Lib.hid (HB3.out.trans (hb4.mono HB3.out.size))
      clear hb4 hg2
      cases hth : (findR [] height b.hash).2 with
      | true =>
        have hx : decide ((0 : Int) ≤ hasR [] b.hash) = true := (hasR_ge [] height b.hash).trans hth
        have hxl : (0 : Int) ≤ hasR [] b.hash := of_decide_eq_true hx
        have HRES : Hid (mayE [] height b = 19) := by show _ = _; rw [mayE_ok HRT.out HTIP.out, hth]; rfl
        clear hth
        generalize hasR [] b.hash = E at *
        go_wp2_with fail
        go_ret
        exact ⟨by rw [HRES.out]; rfl, HB4.out⟩
      | false =>
        have hx : decide ((0 : Int) ≤ hasR [] b.hash) = false := (hasR_ge [] height b.hash).trans hth
        have hxl : hasR [] b.hash < 0 := by have := of_decide_eq_false hx; omega
        by_cases htop : height = 4294967295
        · have hb : ((height : Int) == 4294967295) = true := by rw [beq_iff_eq]; omega
          have HRES : Hid (mayE [] height b = 16) := by show _ = _; rw [mayE_ok HRT.out HTIP.out, hth]; simp [htop]
          clear htop hth
          generalize hasR [] b.hash = E at *
          go_wp2_with fail
          go_ret
          exact ⟨by rw [HRES.out]; rfl, HB4.out⟩
        · have hb : ((height : Int) == 4294967295) = false := by rw [beq_eq_false_iff_ne]; omega
          have HRES : Hid (mayE [] height b = 0) := by show _ = _; rw [mayE_ok HRT.out HTIP.out, hth]; simp [htop]
          clear htop hth
          generalize hasR [] b.hash = E at *
          go_wp2_with fail
          go_ret
          exact ⟨by rw [HRES.out]; rfl, HB4.out⟩
    | some t =>
      have hlen : 0 < ds.length := by cases ds with | nil => simp at hl | cons a r => simp
      have hl0 : decide ((0 : Int) < (ds.length : Int)) = true := decide_eq_true (by omega)
      obtain ⟨i, hi⟩ : ∃ i, i + 1 = ds.length := ⟨ds.length - 1, by omega⟩
      have hsub : (ds.length : Int) - 1 = (i : Int) := by omega
      have hwi : IntKind.i64.wrap ((ds.length : Int) - 1) = (i : Int) := by rw [hsub]; exact IntWalk.i64_in _ (by omega)
      have hwi2 : IntKind.i64.wrap (i : Int) = (i : Int) := IntWalk.i64_in _ (by omega)
      have hin : (i : Int) < (ds.length : Int) := by omega
      have hi0 : (0 : Int) ≤ (i : Int) := by omega
      obtain ⟨bb, oo, rfl⟩ := HW3.out.rs.sl.addr (by omega) (by omega)
      obtain ⟨q', c', hbt, hrg⟩ := HW3.out.at i (by omega)
      have htd : ds[i] = t := by
        have := hl
        rw [List.getLast?_eq_getElem?, show ds.length - 1 = i by omega, List.getElem?_eq_getElem (by omega)] at this
        exact Option.some.inj this
      rw [htd] at hbt hrg
      have HTL := Lib.hid hbt.hlen
      have HRG : Hid (∀ y : Grown w3, y.v.rangeAt bb (oo + i * 65) (idA t.hash).toList) := fun y => by
        have h1 := range_grown hrg y
        intro j v hv
        refine h1 j v ?_
        rw [blkA_toList, List.append_assoc, List.getElem?_append_left (by have := (List.getElem?_eq_some_iff.1 hv).1; rwa [idA_toList] at this)]
        rwa [idA_toList] at hv
      have hq : ∀ w, (Op.equalIn 10000 30 (.agg (idA t.hash)) (.agg (idA b.par))).run Try.prog w = .ok (t.hash == b.par) w := fun w => eqI w t.hash b.par HTL.out HPL.out
      clear hbt hrg htd
      by_cases hpar : t.hash = b.par
      · have hpb : (t.hash == b.par) = true := by rw [beq_iff_eq]; exact hpar
        have HTIP : Hid (TipOk ds b) := .inr ⟨t, hl, hpar⟩
        clear hpar hl
        refine wp_region_grow (by kernel_rfl) (by kernel_rfl) ?_
        repeat (first
          | ((with_reducible refine wpQuietGd ?_); (with_reducible refine wpQuiet_skip ?_ ?_); (· rfl); simp only [Act.put, List.setIfInBounds_toArray, List.set_cons_zero, List.set_cons_succ])
          | ((with_reducible refine wpQuietAt 21 ?_); refine wpQuiet_load rfl 30 _ rfl bb (oo + i * 65) rfl (idA t.hash) _ HRG.out Try.underlying30 rfl (infoI _ (by rw [idA_size, HTL.out])) ?_)
          | ((with_reducible refine wpQuietAt 23 ?_); refine wpQuiet_load rfl 30 _ rfl (w.heap.size + 1) 32 rfl (idA b.par) _ HRP.out Try.underlying30 rfl (infoI _ (by rw [idA_size, HPL.out])) ?_)
          | ((with_reducible refine wpQuietAt 30 ?_); refine wpQuiet_load rfl 30 _ rfl (w.heap.size + 1) 0 rfl (idA b.hash) _ HRH.out Try.underlying30 rfl (infoI _ (by rw [idA_size, HHL.out])) ?_)
          | quiet_step ((first | (go_at_call 43; exact Calls.grow_of (rhas_any ds _ _ c rows b.hash _ (HW3.out.below (Grown.b _)) HHL.out)))))
        refine wpQuiet_nil ?_
        intro w4 hb4
        clear hq
        have hc1 : w4.cell? ⟨w.heap.size, 1, none⟩ = some (.int .u32 (height : Int)) := cell_below HC1.out hb4
        have HB4 := Lib.hid (HB3.out.trans (hb4.mono HB3.out.size))
        clear hb4 hg2
        cases hth : (findR ds height b.hash).2 with
        | true =>
          have hx : decide ((0 : Int) ≤ hasR ds b.hash) = true := (hasR_ge ds height b.hash).trans hth
          have hxl : (0 : Int) ≤ hasR ds b.hash := of_decide_eq_true hx
          have HRES : Hid (mayE ds height b = 19) := by show _ = _; rw [mayE_ok HRT.out HTIP.out, hth]; rfl
          clear hth
          generalize hasR ds b.hash = E at *
          go_wp2_with fail
          go_ret
          exact ⟨by rw [HRES.out]; rfl, HB4.out⟩
        | false =>
          have hx : decide ((0 : Int) ≤ hasR ds b.hash) = false := (hasR_ge ds height b.hash).trans hth
          have hxl : hasR ds b.hash < 0 := by have := of_decide_eq_false hx; omega
          by_cases htop : height = 4294967295
          · have hb : ((height : Int) == 4294967295) = true := by rw [beq_iff_eq]; omega
            have HRES : Hid (mayE ds height b = 16) := by show _ = _; rw [mayE_ok HRT.out HTIP.out, hth]; simp [htop]
            clear htop hth
            generalize hasR ds b.hash = E at *
            go_wp2_with fail
            go_ret
            exact ⟨by rw [HRES.out]; rfl, HB4.out⟩
          · have hb : ((height : Int) == 4294967295) = false := by rw [beq_eq_false_iff_ne]; omega
            have HRES : Hid (mayE ds height b = 0) := by show _ = _; rw [mayE_ok HRT.out HTIP.out, hth]; simp [htop]
            clear htop hth
            generalize hasR ds b.hash = E at *
            go_wp2_with fail
            go_ret
            exact ⟨by rw [HRES.out]; rfl, HB4.out⟩
      · have hpb : (t.hash == b.par) = false := by rw [beq_eq_false_iff_ne]; exact hpar
        have HRES : Hid (mayE ds height b = 19) := by
          show _ = _; unfold mayE; rw [HRT.out, hl]
          have : (b.par == t.hash) = false := by rw [beq_eq_false_iff_ne]; exact fun e => hpar e.symm
          simp [this]
        clear hpar hl
        refine wp_region_grow (by kernel_rfl) (by kernel_rfl) ?_
        repeat (first
          | ((with_reducible refine wpQuietGd ?_); (with_reducible refine wpQuiet_skip ?_ ?_); (· rfl); simp only [Act.put, List.setIfInBounds_toArray, List.set_cons_zero, List.set_cons_succ])
          | ((with_reducible refine wpQuietAt 21 ?_); refine wpQuiet_load rfl 30 _ rfl bb (oo + i * 65) rfl (idA t.hash) _ HRG.out Try.underlying30 rfl (infoI _ (by rw [idA_size, HTL.out])) ?_)
          | ((with_reducible refine wpQuietAt 23 ?_); refine wpQuiet_load rfl 30 _ rfl (w.heap.size + 1) 32 rfl (idA b.par) _ HRP.out Try.underlying30 rfl (infoI _ (by rw [idA_size, HPL.out])) ?_)
          | quiet_step (fail))
        refine wpQuiet_nil ?_
        intro w4 hb4
        have HB4 := Lib.hid (HB3.out.trans (hb4.mono HB3.out.size))
        clear hb4 hg2 hq
        go_wp2_with fail
        go_ret
        exact ⟨by rw [HRES.out]; rfl, HB4.out⟩
end Go.Proofs.Ytepemfgiigceoaa.Chn

namespace Go.Proofs.Ytepemfgiigceoaa.Chn
open Go.RowKit Go.Mir Go.Mir.Parts Go.Proofs.Ytepemfgiigceoaa.Blk

/-- the last blocks, as many as the depth and one -/
def win (d : Nat) (l : List BlkD) : List BlkD := l.drop (l.length - (d + 1))
theorem win_len (d : Nat) (l : List BlkD) : (win d l).length ≤ d + 1 := by unfold win; rw [List.length_drop]; omega
theorem win_small {d : Nat} {l : List BlkD} (h : l.length ≤ d + 1) : win d l = l := by unfold win; rw [show l.length - (d + 1) = 0 by omega]; rfl
theorem win_snoc (d : Nat) (l : List BlkD) (b : BlkD) : cutD d (win d l ++ [b]) = win d (l ++ [b]) := by
  unfold cutD win
  have e : l.drop (l.length - (d + 1)) ++ [b] = (l ++ [b]).drop (l.length - (d + 1)) := by rw [List.drop_append_of_le_length (by omega)]
  rw [e]
  by_cases h : l.length < d + 1
  · rw [if_neg (by simp; omega)]
    congr 1
    simp; omega
  · rw [if_pos (by simp; omega), List.drop_drop]
    congr 1
    simp; omega
theorem win_ne {d : Nat} {l : List BlkD} (h : l ≠ []) : win d l ≠ [] := by
  intro e
  have := congrArg List.length e
  unfold win at this
  have : 0 < l.length := List.length_pos_iff.2 h
  simp at *
  omega
/-- what is left of the old blocks, when what came has gone again -/
theorem win_back (d : Nat) (l bs : List BlkD) (h : bs.length < d) (hl : l ≠ []) : (win d (l ++ bs)).take ((win d (l ++ bs)).length - bs.length) = l.drop (l.length + bs.length - (d + 1)) := by
  have h0 : 0 < l.length := List.length_pos_iff.2 hl
  unfold win
  rw [List.length_append]
  have hk : l.length + bs.length - (d + 1) ≤ l.length := by omega
  rw [List.drop_append_of_le_length hk, List.length_append, List.length_drop]
  rw [List.take_append_of_le_length (by rw [List.length_drop]; omega), List.take_of_length_le (by rw [List.length_drop]; omega)]
theorem take_dropLast {l : List BlkD} {j : Nat} (h : j < l.length) : (l.take (l.length - j)).dropLast = l.take (l.length - (j + 1)) := by
  rw [List.dropLast_eq_take, List.length_take, List.take_take]
  congr 1
  omega
theorem buildB64v (a0 a1 a2 a3 a4 a5 a6 a7 a8 a9 a10 a11 a12 a13 a14 a15 a16 a17 a18 a19 a20 a21 a22 a23 a24 a25 a26 a27 a28 a29 a30 a31 b0 b1 b2 b3 b4 b5 b6 b7 b8 b9 b10 b11 b12 b13 b14 b15 b16 b17 b18 b19 b20 b21 b22 b23 b24 b25 b26 b27 b28 b29 b30 b31 : Value) : Try.prog.built 33 [(0, .agg #[a0, a1, a2, a3, a4, a5, a6, a7, a8, a9, a10, a11, a12, a13, a14, a15, a16, a17, a18, a19, a20, a21, a22, a23, a24, a25, a26, a27, a28, a29, a30, a31]), (1, .agg #[b0, b1, b2, b3, b4, b5, b6, b7, b8, b9, b10, b11, b12, b13, b14, b15, b16, b17, b18, b19, b20, b21, b22, b23, b24, b25, b26, b27, b28, b29, b30, b31])] = some #[a0, a1, a2, a3, a4, a5, a6, a7, a8, a9, a10, a11, a12, a13, a14, a15, a16, a17, a18, a19, a20, a21, a22, a23, a24, a25, a26, a27, a28, a29, a30, a31, b0, b1, b2, b3, b4, b5, b6, b7, b8, b9, b10, b11, b12, b13, b14, b15, b16, b17, b18, b19, b20, b21, b22, b23, b24, b25, b26, b27, b28, b29, b30, b31, Value.slice none 0 0] := by kernel_rfl
theorem buildB64 (a b : List Value) (ha : a.length = 32) (hb : b.length = 32) : Try.prog.built 33 [(0, .agg a.toArray), (1, .agg b.toArray)] = some (a ++ b ++ [Value.slice none 0 0]).toArray :=
  match a, ha, b, hb with
  | [a0, a1, a2, a3, a4, a5, a6, a7, a8, a9, a10, a11, a12, a13, a14, a15, a16, a17, a18, a19, a20, a21, a22, a23, a24, a25, a26, a27, a28, a29, a30, a31], _, [b0, b1, b2, b3, b4, b5, b6, b7, b8, b9, b10, b11, b12, b13, b14, b15, b16, b17, b18, b19, b20, b21, b22, b23, b24, b25, b26, b27, b28, b29, b30, b31], _ => buildB64v a0 a1 a2 a3 a4 a5 a6 a7 a8 a9 a10 a11 a12 a13 a14 a15 a16 a17 a18 a19 a20 a21 a22 a23 a24 a25 a26 a27 a28 a29 a30 a31 b0 b1 b2 b3 b4 b5 b6 b7 b8 b9 b10 b11 b12 b13 b14 b15 b16 b17 b18 b19 b20 b21 b22 b23 b24 b25 b26 b27 b28 b29 b30 b31
theorem build_blk (h p : List UInt8) (hh : h.length = 32) (hp : p.length = 32) : Try.prog.built 33 [(0, .agg (idA h)), (1, .agg (idA p))] = some (blkA h p none 0 0) := by
  have := buildB64 (bytesV h) (bytesV p) (by rw [bytesV_length, hh]) (by rw [bytesV_length, hp])
  exact this
/-- a value built -/
theorem wpList_build {P : Program} {w : World} {ops : Array Oper} {rest : List Oper} {o : Oper} {a : Act} {Q : Exit → Act → World → Prop} (hgd : o.guard = none) (t : TypeId) (parts : Array (Nat × Operand)) (ho : o.op = .build t parts)
    (vals : List (Nat × Value)) (hv : (parts.toList.map fun p => (p.1, a.eval p.2)) = vals) (cells : Array Value) (h : P.built t vals = some cells) (k : wpList P ops Q rest (a.put o.dst (.agg cells)) w) : wpList P ops Q (o :: rest) a w := by
  refine wpList_plain hgd fun K hK => ?_
  unfold Oper.wp execOp
  have hb : P.built t (parts.map fun p => (p.1, a.eval p.2)).toList = some cells := by rw [Array.toList_map, hv]; exact h
  simp only [ho, Sem.run_bind, Sem.run_pure, Result.andThen_ok, run_build w t _ cells hb]
  exact hK _ _ k
/-- the hash of a block that the statement makes -/
def hid (i : Nat) : List UInt8 := 200 :: UInt8.ofNat i :: List.replicate 30 0
theorem hid_len (i : Nat) : (hid i).length = 32 := by simp [hid]
theorem buildHid (v : Int) : Try.prog.built 30 [(0, .int .u8 200), (1, .int .u8 v)] = some (Value.int .u8 200 :: Value.int .u8 v :: List.replicate 30 (Value.int .u8 0)).toArray := by kernel_rfl
theorem build_hid (i : Nat) (hi : i < 256) : Try.prog.built 30 [(0, .int .u8 200), (1, .int .u8 (i : Int))] = some (idA (hid i)) := by
  rw [buildHid]
  have : (UInt8.ofNat i).toNat = i := by rw [UInt8.toNat_ofNat']; exact Nat.mod_eq_of_lt hi
  simp [idA, bytesV, hid, this]
end Go.Proofs.Ytepemfgiigceoaa.Chn

namespace Go.Proofs.Ytepemfgiigceoaa.Chn
open Go.RowKit Go.Mir Go.Mir.Parts Go.Proofs.Ytepemfgiigceoaa.Blk

/-- the lowest height -/
def lowV (ds : List BlkD) (height : Nat) : Nat := if ds.length = 0 then 0 else atN height ds.length 0
set_option maxRecDepth 100000 in
theorem low_any {base cb depth height : Nat} {ds : List BlkD} {p : Option Addr} {c : Nat} {rows : List (List Value)} (w : World) (h : ChAt w base cb depth height ds p c rows) :
    Calls Try.prog 39 #[.pointer (some ⟨cb, 0, none⟩)] w fun e w' => e = .returned (.int .u32 (lowV ds height : Int)) ∧ Below w.heap.size w w' := by
  have hc2 := h.cells.2.2.1
  have H := Lib.hid h
  have HN := Lib.hid (none_any cb depth w h.cells.1 h.depth1.1)
  clear h
  by_cases h0 : ds.length = 0
  · have hb : ((ds.length : Int) == 0) = true := by rw [beq_iff_eq]; omega
    have HV : Hid (lowV ds height = 0) := by show _ = _; unfold lowV; rw [if_pos h0]
    clear h0
    go_enter Try.func39, Try.ntmps39
    go_wp2_with fail
    refine HN.out.mono ?_
    rintro e w' ⟨rfl, hw⟩
    obtain rfl : w = w' := hw.symm
    go_wp2_with fail
    go_ret
    exact ⟨by rw [HV.out]; rfl, Below.refl _ _⟩
  · have hb : ((ds.length : Int) == 0) = false := by rw [beq_eq_false_iff_ne]; omega
    have HV : Hid (lowV ds height = atN height ds.length 0) := by show _ = _; unfold lowV; rw [if_neg h0]
    have HA := Lib.hid (at_any w H.out 0 (by omega))
    clear h0
    go_enter Try.func39, Try.ntmps39
    go_wp2_with fail
    refine HN.out.mono ?_
    rintro e w' ⟨rfl, hw⟩
    obtain rfl : w = w' := hw.symm
    go_wp2_with fail
    refine HA.out.mono ?_
    rintro e w2 ⟨rfl, hb2⟩
    have HB2 := Lib.hid hb2
    clear hb2
    go_wp2_with fail
    go_ret
    exact ⟨by rw [HV.out]; rfl, HB2.out⟩

set_option maxRecDepth 100000 in
/-- the height of a place, as the document has it -/
theorem rAt_any (dep : Int) (height : Nat) (hh : height ≤ 4294967295) (n i : Nat) (hn : n ≤ 4294967295) (hi : i < n) (p : Option Addr) (c : Nat) (w : World) :
    Calls Try.prog 60 #[.agg (rcA dep height p n c), .int .i64 (i : Int)] w fun e w' => e = .returned (.int .u32 (atN height n i : Int)) ∧ Below w.heap.size w w' := by
  have HB := Lib.hid (Below.allocs w (.cells (rcA dep height p n c) 41))
  have HR := heap_alloc_last w (.cells (rcA dep height p n c) 41)
  have hc1 : (w.alloc (.cells (rcA dep height p n c) 41)).cell? ⟨w.heap.size, 1, none⟩ = some (.int .u32 (height : Int)) := by rw [cell_of_row _ _ _ _ _ _ HR]; rfl
  have hc2 : (w.alloc (.cells (rcA dep height p n c) 41)).cell? ⟨w.heap.size, 2, none⟩ = some (.slice p n c) := by rw [cell_of_row _ _ _ _ _ _ HR]; rfl
  have hv : (((height : Int) - (n : Int) + (i : Int)) % 4294967296 + 1) % 4294967296 = (atN height n i : Int) := by
    unfold atN
    omega
  have HV := Lib.hid hv
  have HC1 := Lib.hid hc1
  have HC2 := Lib.hid hc2
  clear HR hv hc1 hc2
  go_enter Try.func60, Try.ntmps60
  go_upto_region 1 with fail
  have hc1 := HC1.out
  have hc2 := HC2.out
  clear HC1 HC2
  generalize w.alloc (.cells (rcA dep height p n c) 41) = w1 at *
  go_wp2_with fail
  go_ret
  exact ⟨by rw [← HV.out]; rfl, HB.out⟩
theorem infoRC (n : Nat) (h : n = 3) : (Try.prog.info? 41).map (·.size) = some n := by subst h; kernel_rfl

set_option maxRecDepth 100000 in
/-- the lowest height, as the document has it -/
theorem rLow_any (dep : Int) (height : Nat) (hh : height ≤ 4294967295) (ds : List BlkD) (hn : ds.length ≤ 4294967295) (p : Option Addr) (c : Nat) (w : World) :
    Calls Try.prog 48 #[.agg (rcA dep height p ds.length c)] w fun e w' => e = .returned (.int .u32 (lowV ds height : Int)) ∧ Below w.heap.size w w' := by
  have HB := Lib.hid (Below.allocs w (.cells (rcA dep height p ds.length c) 41))
  have HR := Lib.hid (heap_alloc_last w (.cells (rcA dep height p ds.length c) 41))
  have HC2 : Hid ((w.alloc (.cells (rcA dep height p ds.length c) 41)).cell? ⟨w.heap.size, 2, none⟩ = some (.slice p ds.length c)) := by show _ = _; rw [cell_of_row _ _ _ _ _ _ HR.out]; rfl
  by_cases h0 : ds.length = 0
  · have hb : ((ds.length : Int) == 0) = true := by rw [beq_iff_eq]; omega
    have HV : Hid (lowV ds height = 0) := by show _ = _; unfold lowV; rw [if_pos h0]
    clear h0
    go_enter Try.func48, Try.ntmps48
    go_upto_region 1 with fail
    have hc2 := HC2.out
    clear HC2
    generalize w.alloc (.cells (rcA dep height p ds.length c) 41) = w1 at *
    go_wp2_with fail
    go_ret
    exact ⟨by rw [HV.out]; rfl, HB.out⟩
  · have hb : ((ds.length : Int) == 0) = false := by rw [beq_eq_false_iff_ne]; omega
    have HV : Hid (lowV ds height = atN height ds.length 0) := by show _ = _; unfold lowV; rw [if_neg h0]
    have HL := Lib.hid (Nat.pos_of_ne_zero h0)
    have HHH := Lib.hid hh
    have HNN := Lib.hid hn
    clear h0 hh hn
    go_enter Try.func48, Try.ntmps48
    go_upto_region 1 with fail
    have hc2 := HC2.out
    clear HC2
    generalize w.alloc (.cells (rcA dep height p ds.length c) 41) = w1 at *
    go_wp2_with ((with_reducible refine wpAt 7 ?_); refine wpList_load_row rfl 41 _ rfl w.heap.size rfl 41 (rcA dep height p ds.length c) (0, 0) _ HR.out Try.underlying41 rfl (infoRC _ rfl) ?_)
    refine (rAt_any dep height HHH.out ds.length 0 HNN.out HL.out p c w1).mono ?_
    rintro e w2 ⟨rfl, hb2⟩
    have HB2 := Lib.hid (HB.out.trans (hb2.mono HB.out.size))
    clear hb2
    go_wp2_with fail
    go_ret
    exact ⟨by rw [HV.out]; rfl, HB2.out⟩

set_option maxRecDepth 100000 in
set_option maxHeartbeats 400000 in
/-- a block found, as the document has it -/
theorem rFind_any (dep : Int) (height : Nat) (hh : height ≤ 4294967295) (ds : List BlkD) (hn : ds.length ≤ 4294967295) (p : Option Addr) (c : Nat) (rows : List (List Value)) (x : List UInt8) (hx : x.length = 32) (w : World) (hW : Bks w p ds.length c ds rows) :
    Calls Try.prog 49 #[.agg (rcA dep height p ds.length c), .agg (idA x)] w fun e w' => e = .returned (.tuple #[.int .u32 ((findR ds height x).1 : Int), .bool (findR ds height x).2]) ∧ Below w.heap.size w w' := by
  have H2 := Lib.hid (two_allocs w (.cells (rcA dep height p ds.length c) 41) (.cells (idA x) 30))
  have HB := Lib.hid H2.out.2.2.2
  have HC2 : Hid (((w.alloc (.cells (rcA dep height p ds.length c) 41)).alloc (.cells (idA x) 30)).cell? ⟨w.heap.size, 2, none⟩ = some (.slice p ds.length c)) := by show _ = _; rw [cell_of_row _ _ _ _ _ _ H2.out.1]; rfl
  have HW := Lib.hid (hW.below HB.out)
  have HX := Lib.hid hx
  have HHH := Lib.hid hh
  have HNN := Lib.hid hn
  clear hW hx hh hn
  go_enter Try.func49, Try.ntmps49
  go_upto_region 1 with fail
  have hc2 := HC2.out
  clear HC2
  generalize (w.alloc (.cells (rcA dep height p ds.length c) 41)).alloc (.cells (idA x) 30) = w1 at *
  go_wp2_with ((with_reducible refine wpAt 9 ?_); refine wpList_load_row rfl 30 _ rfl (w.heap.size + 1) rfl 30 (idA x) (0, 0) _ H2.out.2.1 Try.underlying30 rfl (infoI _ (by rw [idA_size, HX.out])) ?_)
  refine (rhas_any ds p _ c rows x w1 HW.out HX.out).mono ?_
  rintro e w2 ⟨rfl, hb2⟩
  have HB2 := Lib.hid (HB.out.trans (hb2.mono HB.out.size))
  have HR2 := Lib.hid (Below.keepOld hb2 H2.out.1)
  clear hb2 hc2
  cases hf : ds.findIdx? (fun d => d.hash == x) with
  | none =>
    have HF : Hid (findR ds height x = (0, false)) := by show _ = _; unfold findR; rw [hf]
    have hr : hasR ds x = -1 := by unfold hasR; rw [hf]
    rw [hr]
    clear hf hr
    go_wp2_with fail
    go_ret2
    exact ⟨by rw [HF.out]; rfl, HB2.out⟩
  | some i =>
    have HF : Hid (findR ds height x = (atN height ds.length i, true)) := by show _ = _; unfold findR; rw [hf]
    have hr : hasR ds x = (i : Int) := by unfold hasR; rw [hf]
    have HI : Hid (i < ds.length) := (List.findIdx?_eq_some_iff_getElem.1 hf).1
    have hi0 : decide ((i : Int) < 0) = false := decide_eq_false (by omega)
    have hi1 : (0 : Int) ≤ (i : Int) := by omega
    rw [hr]
    clear hf hr
    go_wp2_with ((with_reducible refine wpAt 13 ?_); refine wpList_load_row rfl 41 _ rfl w.heap.size rfl 41 (rcA dep height p ds.length c) (0, 0) _ HR2.out Try.underlying41 rfl (infoRC _ rfl) ?_)
    refine (rAt_any dep height HHH.out ds.length i HNN.out HI.out p c w2).mono ?_
    rintro e w3 ⟨rfl, hb3⟩
    have HB3 := Lib.hid (HB2.out.trans (hb3.mono HB2.out.size))
    clear hb3
    go_wp2_with fail
    go_ret2
    exact ⟨by rw [HF.out]; rfl, HB3.out⟩
end Go.Proofs.Ytepemfgiigceoaa.Chn

namespace Go.Proofs.Ytepemfgiigceoaa.Chn
open Go.RowKit Go.Mir Go.Mir.Parts Go.Proofs.Ytepemfgiigceoaa.Blk

theorem und_first : Try.prog.underlying 84 = some (.map 30 39) := Try.underlying84
theorem zu32 (w : World) : (zeroValue 39).run Try.prog w = .ok (.int .u32 0) w := by kernel_rfl
/-- where transactions stand first, from a place on -/
def firstV (ds : List BlkD) (height i : Nat) (x : List UInt8) : Option Value := ((ds.drop i).findIdx? (fun d => d.txs.contains x)).map fun j => .int .u32 (atN height ds.length (i + j) : Int)
theorem firstV_end (ds : List BlkD) (height : Nat) : firstV ds height ds.length = fun _ => none := by
  funext x; unfold firstV; rw [List.drop_length]; rfl
theorem firstV_step (ds : List BlkD) (height k : Nat) (hk : k < ds.length) : firstV ds height k = fun x => if x ∈ ds[k].txs then some (.int .u32 (atN height ds.length k : Int)) else firstV ds height (k + 1) x := by
  funext x
  unfold firstV
  generalize atN height ds.length = A
  rw [List.drop_eq_getElem_cons hk, List.findIdx?_cons]
  by_cases h : x ∈ ds[k].txs
  · rw [if_pos h, if_pos (by simpa using h), Option.map_some, Nat.add_zero]
  · rw [if_neg h, if_neg (by simpa using h), Option.map_map]
    cases (ds.drop (k + 1)).findIdx? (fun d => d.txs.contains x) with
    | none => rw [Option.map_none, Option.map_none]
    | some j => rw [Option.map_some, Option.map_some, Function.comp_apply, show k + (j + 1) = k + 1 + j by omega]
/-- while one block is gone through -/
def midV (f : List UInt8 → Option Value) (l : List (List UInt8)) (v : Value) : List UInt8 → Option Value := fun x => if x ∈ l then some v else f x
theorem midV_nil (f : List UInt8 → Option Value) (v : Value) : midV f [] v = f := by funext x; simp [midV]
theorem midV_snoc (f : List UInt8 → Option Value) (l : List (List UInt8)) (v : Value) (y : List UInt8) : (fun x => if x = y then some v else midV f l v x) = midV f (l ++ [y]) v := by
  funext x
  unfold midV
  by_cases h : x = y
  · rw [if_pos h, if_pos (by simp [h])]
  · rw [if_neg h]
    by_cases h2 : x ∈ l
    · rw [if_pos h2, if_pos (by simp [h2])]
    · rw [if_neg h2, if_neg (by simp [h, h2])]
def FirstP (ds : List BlkD) (height : Nat) (w : World) (e : Ending) (w' : World) : Prop := ∃ mb, e = .returned (.map (some mb)) ∧ MapIs w' mb (firstV ds height 0) ∧ Below w.heap.size w w' ∧ w.heap.size ≤ mb

set_option maxRecDepth 100000 in
set_option maxHeartbeats 800000 in
theorem firsts_any {base cb depth height : Nat} {ds : List BlkD} {p : Option Addr} {c : Nat} {rows : List (List Value)} (w : World) (h : ChAt w base cb depth height ds p c rows) :
    Calls Try.prog 53 #[.pointer (some ⟨cb, 0, none⟩)] w (FirstP ds height w) := by
  have hmm := @run_makeMap Try.prog
  have hb1 : Below w.heap.size w (w.alloc (.map #[] 0)) := Below.allocs _ _
  have HB1 := Lib.hid hb1
  have H := Lib.hid h
  have H1 := Lib.hid (h.below hb1)
  have HMP : Hid (MapIs (w.alloc (.map #[] 0)) w.heap.size (firstV ds height ds.length)) := by
    show MapIs _ _ _
    rw [firstV_end]; exact mapIs_made w
  have hm := h.many
  obtain ⟨hd1, hd2⟩ := h.depth1
  have hc2 := H1.out.cells.2.2.1
  clear h hb1
  go_enter Try.func53, Try.ntmps53
  go_wp2_with fail
  generalize w.alloc (.map #[] 0) = w1 at *
  clear hc2
  go_loopw [4] (fun v wr => ∃ z : Int, v = .int .i64 z ∧ -1 ≤ z ∧ z < (ds.length : Int) ∧ MapIs wr w.heap.size (firstV ds height (z + 1).toNat) ∧ Below w.heap.size w wr) (fun v _ => (intOf v + 1).toNat)
  case atStart => exact ⟨(ds.length : Int) - 1, rfl, by omega, by omega, by rw [show ((ds.length : Int) - 1 + 1).toNat = ds.length by omega]; exact HMP.out, HB1.out⟩
  case round =>
    obtain ⟨z, rfl, hz1, hz2, hmp, hbw⟩ := hrel
    obtain ⟨wo, rfl⟩ : ∃ wo : World, wo = wr := ⟨_, rfl⟩
    have HMO := Lib.hid hmp
    have HBO := Lib.hid hbw
    clear hmp hbw
    by_cases hz : 0 ≤ z
    · obtain ⟨k, rfl⟩ := Int.eq_ofNat_of_zero_le hz
      have hkl : k < ds.length := by omega
      have HO := Lib.hid (H.out.below HBO.out)
      have hrs := HO.out.rs
      have hri : k < rows.length := by rw [H.out.count]; omega
      obtain ⟨b, o, rfl⟩ := hrs.sl.addr (by omega) (by omega)
      have hch := H.out.each k _ (ds[k]'hkl) (List.getElem?_eq_getElem hri) (List.getElem?_eq_getElem hkl)
      obtain ⟨q, cq, hrq, hbq⟩ := hch.blk
      have HRG := Lib.hid (range_below (H.out.rs.row k hri) HBO.out)
      rw [hrq] at HRG
      have HST := Lib.hid (firstV_step ds height k hkl)
      have HFK := Lib.hid (H.out.few _ (List.getElem_mem hkl))
      rw [show ((k : Int) + 1).toNat = k + 1 by omega] at HMO
      generalize (ds[k]'hkl) = d at *
      have HIS := Lib.hid hbq.ids
      have hcell : wo.cell? ⟨b, o + k * 65 + 64, none⟩ = some (.slice q d.txs.length cq) := by
        refine HRG.out 64 _ ?_
        rw [blkA_toList, List.getElem?_append_right (by simp [bytesV_length, hbq.hlen, hbq.plen])]
        simp [bytesV_length, hbq.hlen, hbq.plen]
      have hc2 := HO.out.cells.2.2.1
      have hin : (k : Int) < (ds.length : Int) := by omega
      have hqle := hbq.ids.sl.le
      have hqmax := hbq.ids.sl.max
      clear hch hrq hbq hrs
      go_wp2_with fail
      clear hcell hc2
      go_loopw [27] (fun v wr => ∃ j : Nat, j ≤ d.txs.length ∧ v = .int .i64 j ∧ MapIs wr w.heap.size (midV (firstV ds height (k + 1)) (d.txs.take j) (.int .u32 (atN height ds.length k : Int))) ∧ Below w.heap.size w wr) (fun v _ => d.txs.length - (intOf v).toNat)
      case atStart => exact ⟨0, by omega, rfl, by rw [List.take_zero, midV_nil]; exact HMO.out, HBO.out⟩
      case round =>
        obtain ⟨j, hj, rfl, hmp, hbw⟩ := hrel
        have HMP2 := Lib.hid hmp
        have HBW := Lib.hid hbw
        clear hmp hbw
        by_cases hjl : j < d.txs.length
        · have hdj : decide ((j : Int) < (d.txs.length : Int)) = true := decide_eq_true (by omega)
          obtain ⟨qb, qo, rfl⟩ := HIS.out.sl.addr (by omega) (by omega)
          have HRY := Lib.hid (range_below (HIS.out.range (by omega) j hjl) HBW.out)
          have HYL : Hid (d.txs[j].length = 32) := HIS.out.each _ (List.getElem_mem hjl)
          have HTK : Hid (d.txs.take (j + 1) = d.txs.take j ++ [d.txs[j]]) := by show _ = _; rw [List.take_succ_eq_append_getElem hjl]
          generalize d.txs[j] = y at *
          have HYS : Hid ((idA y).size = 32) := by show _ = _; rw [idA_size, HYL.out]
          have HYA : Hid ((idA y).toList.length = 32) := by show _ = _; rw [Array.length_toList]; exact HYS.out
          have HNW := Lib.hid (box_new wr (idA zeros) 30)
          have HBR := Lib.hid (box_row wr (idA zeros) (idA y) 30)
          have HBB := Lib.hid (box_below wr (idA zeros) (idA y) 30)
          have HB3 := Lib.hid (HBW.out.trans (HBB.out.mono HBW.out.size))
          have HM3 := Lib.hid (HMP2.out.below HBB.out)
          have HZI : ∀ w0, (zeroValue 30).run Try.prog w0 = .ok (.agg (idA zeros)) w0 := fun w0 => by kernel_rfl
          have HYO := Lib.hid (idA_one y)
          go_upto_region 8 with (first
            | ((with_reducible refine wpAt 30 ?_); refine wpList_load_mid rfl 30 _ rfl qb (qo + j * 32) rfl (idA y).toList _ HRY.out Try.underlying30 rfl (infoI _ HYA.out) ?_)
            | ((with_reducible refine wpStoreAt 6 ?_); refine wpList_store_row rfl 30 _ _ rfl wr.heap.size (idA y) rfl rfl 30 (idA zeros) HNW.out (infoI _ HYS.out) (zeros_size.trans HYS.out.symm) HYO.out ?_))
          have HBR3 := Lib.hid (box_row wr (idA zeros) (idA y) 30)
          generalize (wr.alloc (.cells (idA zeros) 30)).setRow wr.heap.size (idA y) = w3 at *
          have HMA : Hid (∀ w', Below w3.heap.size w3 w' → w'.rangeAt wr.heap.size 0 (idA y).toList) := fun w' hb => row_rangeC (Below.keepOld hb HBR.out)
          refine wp_region_eager_t (Below w3.heap.size w3) [0, 1, 2, 3] [(0, true), (1, true), (2, true), (3, true), (4, false)] [5] (by kernel_rfl) (by kernel_rfl) ?_ (eagerTOpen rfl ?_)
          · exact below_drew1 _ _
          have hy0 : Below w3.heap.size w3 w3.drew := below_drew1 _ _
          repeat (first
            | ((with_reducible refine eagerTLoadAt 6 ?_); refine wpEagerT_load (by rfl) 30 _ rfl wr.heap.size 0 rfl (idA y) _ (fun w' hb => HMA.out w' hb) Try.underlying30 rfl (infoI _ HYS.out) ?_; (try simp only [Act.put, List.setIfInBounds_toArray, List.set_cons_zero, List.set_cons_succ]); (try refine eagerTOpen rfl ?_))
            | (first | (apply wpEagerT_take; (· rfl); (· (intro w' hb'; go_simp; try with_reducible rfl)); (try simp only [Act.put, List.setIfInBounds_toArray, List.set_cons_zero, List.set_cons_succ]); (try refine eagerTOpen rfl ?_)) | (refine wpEagerT_skip (by rfl) ?_; (try simp only [Act.put, List.setIfInBounds_toArray, List.set_cons_zero, List.set_cons_succ]); (try refine eagerTOpen rfl ?_))))
          (refine wpEagerT_op (by rfl) (fun K hK => ?_); go_simp; (refine (at_any _ (H.out.below (HB3.out.trans (below_drew1 _ _))) k hkl).mono ?_; rintro e y2 ⟨rfl, hb⟩; have hy1 : Below w3.heap.size w3 y2 := hy0.trans hb; clear hb); refine Shut.out hK _ _ (by assumption) ?_; clear hK K; (try simp only [Act.put, List.setIfInBounds_toArray, List.set_cons_zero, List.set_cons_succ]); (try refine eagerTOpen rfl ?_))
          refine eagerTEnd (tail1 rfl ?_)
          obtain ⟨w6, hst, hm6, ht6⟩ := (HM3.out.below hy1).store idKeys und_first y HYL.out (.int .u32 (atN height ds.length k : Int))
          rw [midV_snoc, ← HTK.out] at hm6
          have HM6 := Lib.hid hm6
          have HB4 := Lib.hid (HB3.out.trans (hy1.mono HB3.out.size))
          have HB6 := Lib.hid (HB4.out.trans (ht6.below HB4.out.size (fun i hi => by omega)))
          clear hm6 ht6 hy0 hy1
          go_wp2_with fail
          refine noPanic_end ?_
          go_wp2_with fail
          go_roundw
          case rel => exact ⟨j + 1, by omega, by go_num, HM6.out, HB6.out⟩
          case measure => simp [intOf]; omega
        · have hdj : decide ((j : Int) < (d.txs.length : Int)) = false := decide_eq_false (by omega)
          have HEND : Hid (MapIs wr w.heap.size (firstV ds height k)) := by
            show MapIs _ _ _
            rw [HST.out]
            have := HMP2.out
            rw [List.take_of_length_le (by omega)] at this
            exact this
          have hge : d.txs.length ≤ j := by omega
          have hdj2 : decide (j < d.txs.length) = false := decide_eq_false hjl
          clear hjl
          go_wp2_with fail
          go_roundw
          case rel => exact ⟨(k : Int) - 1, rfl, by omega, by omega, by rw [show ((k : Int) - 1 + 1).toNat = k by omega]; exact HEND.out, HBW.out⟩
          case measure => simp [intOf]
    · have hz0 : z = -1 := by omega
      subst hz0
      have HE : Hid (FirstP ds height w (.returned (.map (some w.heap.size))) wo) := ⟨w.heap.size, rfl, HMO.out, HBO.out, Nat.le_refl _⟩
      clear hz hz1 hz2
      go_wp2_with fail
      go_ret
      exact HE.out
end Go.Proofs.Ytepemfgiigceoaa.Chn

namespace Go.Proofs.Ytepemfgiigceoaa.Chn
open Go.RowKit Go.Mir Go.Mir.Parts Go.Proofs.Ytepemfgiigceoaa.Blk

def hasV (ds : List BlkD) (height : Nat) (x : List UInt8) : Nat × Bool := match ds.findIdx? (fun d => d.txs.contains x) with
  | some i => (atN height ds.length i, true)
  | none => (0, false)
theorem firstV_has (ds : List BlkD) (height : Nat) (x : List UInt8) : (firstV ds height 0 x).getD (.int .u32 0) = .int .u32 ((hasV ds height x).1 : Int) ∧ (firstV ds height 0 x).isSome = (hasV ds height x).2 := by
  unfold firstV hasV
  generalize atN height ds.length = A
  rw [List.drop_zero]
  cases ds.findIdx? (fun d => d.txs.contains x) with
  | none => exact ⟨rfl, rfl⟩
  | some i => rw [Option.map_some, Nat.zero_add]; exact ⟨rfl, rfl⟩

set_option maxRecDepth 100000 in
set_option maxHeartbeats 400000 in
theorem chHas_any {base cb depth height : Nat} {ds : List BlkD} {p : Option Addr} {c : Nat} {rows : List (List Value)} (w : World) (h : ChAt w base cb depth height ds p c rows) (x : List UInt8) (hx : x.length = 32) :
    Calls Try.prog 37 #[.pointer (some ⟨cb, 0, none⟩), .agg (idA x)] w fun e w' => e = .returned (.tuple #[.int .u32 ((hasV ds height x).1 : Int), .bool (hasV ds height x).2]) ∧ Below w.heap.size w w' := by
  have HX := Lib.hid hx
  have HXS : Hid ((idA x).size = 32) := by show _ = _; rw [idA_size, hx]
  have hb1 : Below w.heap.size w (w.alloc (.cells (idA x) 30)) := Below.allocs _ _
  have HB1 := Lib.hid hb1
  have H1 := Lib.hid (h.below hb1)
  have HR1 := Lib.hid (heap_alloc_last w (.cells (idA x) 30))
  clear h hb1 hx
  go_enter Try.func37, Try.ntmps37
  go_wp2_with fail
  refine (none_any cb depth _ H1.out.cells.1 H1.out.depth1.1).mono ?_
  rintro e w' ⟨rfl, rfl⟩
  go_wp2_with fail
  generalize w.alloc (.cells (idA x) 30) = w1 at *
  have HMA : Hid (∀ w', Below w1.heap.size w1 w' → w'.rangeAt w.heap.size 0 (idA x).toList) := fun w' hb => row_rangeC (Below.keepOld hb HR1.out)
  refine wp_region_eager [(0, true), (2, true), (1, false), (3, false), (4, true), (5, true), (6, true), (7, true), (8, true)] (by kernel_rfl) (by kernel_rfl) (eagerOpen rfl ?_)
  have hy0 : Below w1.heap.size w1 w1.drew := below_drew1 _ _
  repeat (first
    | ((with_reducible refine eagerLoadAt 3 ?_); refine wpEager_load (by rfl) 30 _ rfl w.heap.size 0 rfl (idA x) _ (fun w' hb => HMA.out w' hb) Try.underlying30 rfl (infoI _ HXS.out) ?_; (try simp only [Act.put, List.setIfInBounds_toArray, List.set_cons_zero, List.set_cons_succ]); (try refine eagerOpen rfl ?_))
    | (first | (apply wpEager_take; (· rfl); (· (intro w' hb'; go_simp; try with_reducible rfl)); (try simp only [Act.put, List.setIfInBounds_toArray, List.set_cons_zero, List.set_cons_succ]); (try refine eagerOpen rfl ?_)) | (refine wpEager_skip (by rfl) ?_; (try simp only [Act.put, List.setIfInBounds_toArray, List.set_cons_zero, List.set_cons_succ]); (try refine eagerOpen rfl ?_)) | (refine wpEager_off (by rfl) ?_; (try simp only [Act.put, List.setIfInBounds_toArray, List.set_cons_zero, List.set_cons_succ]); (try refine eagerOpen rfl ?_))))
  (refine wpEager_op (by rfl) (fun K hK => ?_); go_simp; (refine (firsts_any _ (H1.out.below (below_drew1 _ _))).mono ?_; rintro e y ⟨mb, rfl, hmp, hb, _⟩; have HMP := Lib.hid hmp; have hy1 : Below w1.heap.size w1 y := hy0.trans hb; clear hmp hb); refine Shut.out hK _ _ (by assumption) ?_; clear hK K; (try simp only [Act.put, List.setIfInBounds_toArray, List.set_cons_zero, List.set_cons_succ]); (try refine eagerOpen rfl ?_))
  have hlook := HMP.out.look_ok idKeys und_first (zu32 _) x HX.out
  rw [(firstV_has ds height x).1, (firstV_has ds height x).2] at hlook
  refine wpEager_op (by rfl) (fun K hK => ?_)
  go_simp
  refine Shut.out hK _ _ hy1 ?_
  clear hK K hlook
  (try simp only [Act.put, List.setIfInBounds_toArray, List.set_cons_zero, List.set_cons_succ]); (try refine eagerOpen rfl ?_)
  repeat (first | (apply wpEager_take; (· rfl); (· (intro w' hb'; go_simp; try with_reducible rfl)); (try simp only [Act.put, List.setIfInBounds_toArray, List.set_cons_zero, List.set_cons_succ]); (try refine eagerOpen rfl ?_)) | (refine wpEager_skip (by rfl) ?_; (try simp only [Act.put, List.setIfInBounds_toArray, List.set_cons_zero, List.set_cons_succ]); (try refine eagerOpen rfl ?_)) | (refine wpEager_off (by rfl) ?_; (try simp only [Act.put, List.setIfInBounds_toArray, List.set_cons_zero, List.set_cons_succ]); (try refine eagerOpen rfl ?_)))
  refine eagerEnd ?_
  have HBF := Lib.hid (HB1.out.trans (hy1.mono HB1.out.size))
  clear hy0 hy1
  go_wp2_with fail
  go_ret2
  exact ⟨rfl, HBF.out⟩
end Go.Proofs.Ytepemfgiigceoaa.Chn

namespace Go.Proofs.Ytepemfgiigceoaa.Chn
open Go.RowKit Go.Mir Go.Mir.Parts Go.Proofs.Ytepemfgiigceoaa.Blk

theorem hasV_some {ds : List BlkD} {height : Nat} {x : List UInt8} {k : Nat} (hk : k < ds.length) (h : ds[k].txs.contains x = true) (hn : ∀ i d, i < k → ds[i]? = some d → d.txs.contains x = false) : hasV ds height x = (atN height ds.length k, true) := by
  have : ds.findIdx? (fun d => d.txs.contains x) = some k := by
    rw [List.findIdx?_eq_some_iff_getElem]
    refine ⟨hk, h, fun j hj => ?_⟩
    rw [hn j _ hj (List.getElem?_eq_getElem (by omega))]
    simp
  unfold hasV; rw [this]
theorem hasV_none {ds : List BlkD} {height : Nat} {x : List UInt8} (hn : ∀ i d, i < ds.length → ds[i]? = some d → d.txs.contains x = false) : hasV ds height x = (0, false) := by
  have : ds.findIdx? (fun d => d.txs.contains x) = none := by
    rw [List.findIdx?_eq_none_iff]
    intro d hd
    obtain ⟨i, hi⟩ := List.mem_iff_getElem?.1 hd
    exact hn i d (List.getElem?_eq_some_iff.1 hi).1 hi
  unfold hasV; rw [this]

set_option maxRecDepth 100000 in
set_option maxHeartbeats 800000 in
theorem rChHas_any (dep : Int) (height : Nat) (hh : height ≤ 4294967295) (ds : List BlkD) (hn : ds.length ≤ 4294967295) (hf : ∀ d ∈ ds, d.txs.length ≤ 1099511627776) (p : Option Addr) (c : Nat) (rows : List (List Value)) (x : List UInt8) (hx : x.length = 32) (w : World) (hW : Bks w p ds.length c ds rows) :
    Calls Try.prog 50 #[.agg (rcA dep height p ds.length c), .agg (idA x)] w fun e w' => e = .returned (.tuple #[.int .u32 ((hasV ds height x).1 : Int), .bool (hasV ds height x).2]) ∧ Below w.heap.size w w' := by
  have H2 := Lib.hid (two_allocs w (.cells (rcA dep height p ds.length c) 41) (.cells (idA x) 30))
  have HB := Lib.hid H2.out.2.2.2
  have HW := Lib.hid hW
  have hle := hW.rs.sl.le
  have hmax := hW.rs.sl.max
  have HX := Lib.hid hx
  have HXS : Hid ((idA x).size = 32) := by show _ = _; rw [idA_size, hx]
  have HHH := Lib.hid hh
  have HNN := Lib.hid hn
  have HF := Lib.hid hf
  clear hW hx hh hn hf
  go_enter Try.func50, Try.ntmps50
  go_wp2_with fail
  generalize (w.alloc (.cells (rcA dep height p ds.length c) 41)).alloc (.cells (idA x) 30) = w1 at *
  go_loopw [6] (fun j wr => ∃ k : Nat, k ≤ ds.length ∧ j = .int .i64 k ∧ (∀ i d, i < k → ds[i]? = some d → d.txs.contains x = false) ∧ Below w1.heap.size w1 wr) (fun j _ => ds.length - (intOf j).toNat)
  case atStart => exact ⟨0, by omega, rfl, fun i d h => absurd h (Nat.not_lt_zero i), Below.refl _ _⟩
  case round =>
    obtain ⟨k, hk, rfl, hnot, hbw⟩ := hrel
    have HNOT := Lib.hid hnot
    have HBW := Lib.hid hbw
    have HBT := Lib.hid (HB.out.trans (hbw.mono HB.out.size))
    have HRC := Lib.hid (Below.keepOld hbw H2.out.1)
    have HRX0 := Lib.hid (Below.keepOld hbw H2.out.2.1)
    have hc2 : wr.cell? ⟨w.heap.size, 2, none⟩ = some (.slice p ds.length c) := by rw [cell_of_row _ _ _ _ _ _ HRC.out]; rfl
    clear hnot hbw
    by_cases hlt : k < ds.length
    · have hd : decide ((k : Int) < (ds.length : Int)) = true := decide_eq_true (by omega)
      obtain ⟨b, o, rfl⟩ := HW.out.rs.sl.addr (by omega) (by omega)
      obtain ⟨q, cq, hbq, hrg⟩ := HW.out.at k hlt
      have HF1 : Hid (ds[k].txs.contains x = true → hasV ds height x = (atN height ds.length k, true)) := fun h => hasV_some hlt h HNOT.out
      have HGK : Hid (ds[k]? = some ds[k]) := List.getElem?_eq_getElem hlt
      have HFK := Lib.hid (HF.out _ (List.getElem_mem hlt))
      generalize ds[k] = d at *
      obtain ⟨A, hA⟩ : ∃ A, A = blkA d.hash d.par q d.txs.length cq := ⟨_, rfl⟩
      rw [← hA] at hbq hrg
      have HBQ := Lib.hid (hbq.below HBT.out)
      have HAS := Lib.hid hbq.size
      have HRG : Hid (∀ y : Grown wr, y.v.rangeAt b (o + k * 65) A.toList) := fun y => range_grown (range_below hrg HBT.out) y
      have HRX : Hid (∀ y : Grown wr, y.v.rangeAt (w.heap.size + 1) 0 (idA x).toList) := fun y => range_grown (row_rangeC HRX0.out) y
      have hg2 := cell_grown hc2
      clear hbq hrg hA
      cases hcx : d.txs.contains x with
      | true =>
        have HRES := Lib.hid (HF1.out hcx)
        go_wp2_with fail
        refine wp_region_grow (by kernel_rfl) (by kernel_rfl) ?_
        repeat (first
          | ((with_reducible refine wpQuietAt 18 ?_); refine wpQuiet_load rfl 33 _ rfl b (o + k * 65) rfl A _ HRG.out Try.underlying33 rfl (infoBlk _ HAS.out) ?_)
          | ((with_reducible refine wpQuietAt 19 ?_); refine wpQuiet_load rfl 30 _ rfl (w.heap.size + 1) 0 rfl (idA x) _ HRX.out Try.underlying30 rfl (infoI _ HXS.out) ?_)
          | quiet_step ((first | (go_at_call 22; exact Calls.grow_of (rHas_any A d q _ cq x _ (HBQ.out.below (Grown.b _)) HX.out HFK.out)))))
        refine wpQuiet_nil ?_
        intro w3 hb3
        rw [hcx]
        have HB3 := Lib.hid (HBT.out.trans (hb3.mono HBT.out.size))
        have HR3 := Lib.hid (Below.keepOld hb3 HRC.out)
        clear hb3 hg2 hc2 hcx
        go_wp2_with ((with_reducible refine wpAt 21 ?_); refine wpList_load_row rfl 41 _ rfl w.heap.size rfl 41 (rcA dep height (some ⟨b, o, none⟩) ds.length c) (0, 0) _ HR3.out Try.underlying41 rfl (infoRC _ rfl) ?_)
        refine (rAt_any dep height HHH.out ds.length k HNN.out hlt _ c w3).mono ?_
        rintro e w4 ⟨rfl, hb4⟩
        have HB4 := Lib.hid (HB3.out.trans (hb4.mono HB3.out.size))
        clear hb4
        go_wp2_with fail
        go_ret2
        exact ⟨by rw [HRES.out]; rfl, HB4.out⟩
      | false =>
        have HNE := Lib.hid hcx
        go_wp2_with fail
        refine wp_region_grow (by kernel_rfl) (by kernel_rfl) ?_
        repeat (first
          | ((with_reducible refine wpQuietAt 18 ?_); refine wpQuiet_load rfl 33 _ rfl b (o + k * 65) rfl A _ HRG.out Try.underlying33 rfl (infoBlk _ HAS.out) ?_)
          | ((with_reducible refine wpQuietAt 19 ?_); refine wpQuiet_load rfl 30 _ rfl (w.heap.size + 1) 0 rfl (idA x) _ HRX.out Try.underlying30 rfl (infoI _ HXS.out) ?_)
          | quiet_step ((first | (go_at_call 22; exact Calls.grow_of (rHas_any A d q _ cq x _ (HBQ.out.below (Grown.b _)) HX.out HFK.out)))))
        refine wpQuiet_nil ?_
        intro w3 hb3
        rw [hcx]
        have HB3 := Lib.hid (HBW.out.trans (hb3.mono HBW.out.size))
        clear hb3 hg2 hc2 hcx
        go_wp2_with fail
        go_roundw
        case rel =>
          refine ⟨k + 1, by omega, by go_num, fun i d' hi hd' => ?_, HB3.out⟩
          by_cases hik : i = k
          · rw [hik, HGK.out] at hd'
            cases hd'
            exact HNE.out
          · exact HNOT.out i d' (by omega) hd'
        case measure => simp [intOf]; omega
    · have hd : decide ((k : Int) < (ds.length : Int)) = false := decide_eq_false (by omega)
      have HRES : Hid (hasV ds height x = (0, false)) := hasV_none fun i d hi hd' => HNOT.out i d (by omega) hd'
      go_wp2_with fail
      go_ret2
      exact ⟨by rw [HRES.out]; rfl, HBT.out⟩
end Go.Proofs.Ytepemfgiigceoaa.Chn

namespace Go.Proofs.Ytepemfgiigceoaa.Chn
open Go.RowKit Go.Mir Go.Mir.Parts Go.Proofs.Ytepemfgiigceoaa.Blk

theorem own_ne_map {w : World} {base e size n : Nat} {v : Value} {xs : List Value} {b : Nat} {f : List UInt8 → Option Value} (h : w.ownsRow base e size v n xs) (hm : MapIs w b f) : ∀ i, v.ownBlock = some i → ¬ i = b := by
  intro i hi e1
  subst e1
  obtain ⟨es, c, hm⟩ := hm
  rcases h.2 with ⟨rfl, _⟩ | ⟨g, cap, cur, rfl, _, hg, _⟩
  · simp [Value.ownBlock] at hi
  · simp [Value.ownBlock] at hi
    subst hi
    have := hm.heap
    rw [hg] at this; cases this
/-- does it stand first in this block? -/
def firstB (ds : List BlkD) (height k : Nat) (x : List UInt8) : Bool := ((hasV ds height x).1 : Int) == (atN height ds.length k : Int)
/-- those that are told, up to a block -/
def chH (ds : List BlkD) (height : Nat) (h : List UInt8) : Nat → List (List UInt8)
  | 0 => []
  | k + 1 => chH ds height h k ++ (match ds[k]? with | some d => (hintedL h d.txs).filter (firstB ds height k) | none => [])
theorem chH_step {ds : List BlkD} {height : Nat} {h : List UInt8} {k : Nat} (hk : k < ds.length) : chH ds height h (k + 1) = chH ds height h k ++ (hintedL h ds[k].txs).filter (firstB ds height k) := by
  rw [chH, List.getElem?_eq_getElem hk]
theorem chH_len {ds : List BlkD} {B : Nat} (hf : ∀ d ∈ ds, d.txs.length ≤ B) (height : Nat) (h : List UInt8) (k : Nat) : (chH ds height h k).length ≤ k * B := by
  induction k with
  | zero => exact Nat.zero_le _
  | succ k ih =>
    rw [chH, List.length_append, Nat.succ_mul]
    refine Nat.add_le_add ih ?_
    cases hd : ds[k]? with
    | none => exact Nat.zero_le _
    | some d => exact Nat.le_trans (List.length_filter_le _ _) (Nat.le_trans (List.length_filter_le _ _) (hf d (List.mem_of_getElem? hd)))
structure HintR (w : World) (mb : Nat) (F : List UInt8 → Option Value) (hh : List UInt8) (ids : List (List UInt8)) (v : Value) (wr : World) : Prop where
  val : ∃ p c, v = .slice p ids.length c
  own : wr.ownsRow w.heap.size 30 32 v ids.length (ids.flatMap bytesV)
  each : ∀ x ∈ ids, x.length = 32
  map : MapIs wr mb F
  hint : wr.heap[w.heap.size]? = some (.cells (idA hh) 52 (0, 0))
  bel : Below w.heap.size w wr
theorem HintR.below {w w' wr : World} {mb : Nat} {F : List UInt8 → Option Value} {hh : List UInt8} {ids : List (List UInt8)} {v : Value} (h : HintR w mb F hh ids v wr) (hb : Below wr.heap.size wr w') : HintR w mb F hh ids v w' :=
  ⟨h.val, own_touch h.own (Turns.of_below (S := fun _ => False) hb) (fun _ _ h => h), h.each, h.map.below hb, Below.keepOld hb h.hint, h.bel.trans (hb.mono h.bel.size)⟩
theorem HintR.put {w w' wr : World} {mb : Nat} {F : List UInt8 → Option Value} {hh : List UInt8} {ids : List (List UInt8)} {v : Value} {y : List UInt8} {p' : Option Addr} {c' : Nat} (h : HintR w mb F hh ids v wr) (hy : y.length = 32)
    (ho : w'.ownsRow w.heap.size 30 32 (.slice p' (ids.length + 1) c') (ids.length + 1) (ids.flatMap bytesV ++ bytesV y)) (hg : wr.grownBy w' v.ownBlock) : HintR w mb F hh (ids ++ [y]) (.slice p' (ids.length + 1) c') w' := by
  have hT : Turns (fun i => v.ownBlock = some i) wr w' := Turns.grown hg (S := fun i => v.ownBlock = some i) (fun k hk => hk)
  refine ⟨⟨p', c', by simp⟩, by rw [List.flatMap_append]; simpa using ho, ?_, h.map.turned hT (fun e => own_ne_map h.own h.map _ e rfl), hT.keep h.hint (fun e => own_ne_cells h.own h.hint (by decide) _ e rfl), h.bel.grown hg h.bel.size (fun i hi => (h.own.lt i hi).1)⟩
  intro x hx
  rcases List.mem_append.1 hx with hx | hx
  · exact h.each x hx
  · rw [List.mem_singleton] at hx; rw [hx]; exact hy

set_option maxRecDepth 100000 in
set_option maxHeartbeats 1600000 in
theorem chHinted_any {base cb depth height : Nat} {ds : List BlkD} {p : Option Addr} {c : Nat} {rows : List (List Value)} (w : World) (h : ChAt w base cb depth height ds p c rows) (hfew : ∀ d ∈ ds, d.txs.length ≤ 1000000) (hh : List UInt8) (hx : hh.length = 16) :
    Calls Try.prog 40 #[.pointer (some ⟨cb, 0, none⟩), .agg (idA hh)] w (IdsP (chH ds height hh ds.length) w) := by
  obtain ⟨Z, hz, hZ⟩ := zBlk
  have HZZ := Lib.hid hZ
  have HFEW := Lib.hid hfew
  clear hfew
  have HX := Lib.hid hx
  have HXS : Hid ((idA hh).size = 16) := by show _ = _; rw [idA_size, hx]
  have hb1 : Below w.heap.size w (w.alloc (.cells (idA hh) 52)) := Below.allocs _ _
  have HB1 := Lib.hid hb1
  have H := Lib.hid h
  have H1 := Lib.hid (h.below hb1)
  have HR1 := Lib.hid (heap_alloc_last w (.cells (idA hh) 52))
  have hm := h.many
  obtain ⟨hd1, hd2⟩ := h.depth1
  clear h hb1 hx hZ
  go_enter Try.func40, Try.ntmps40
  go_wp2_with fail
  refine (none_any cb depth _ H1.out.cells.1 H1.out.depth1.1).mono ?_
  rintro e w' ⟨rfl, rfl⟩
  go_wp2_with fail
  refine (firsts_any _ H1.out).mono ?_
  rintro e w2 ⟨mb, rfl, hmp, hb2, _⟩
  generalize w.alloc (.cells (idA hh) 52) = w1 at *
  have HB2 := Lib.hid (HB1.out.trans (hb2.mono HB1.out.size))
  have HST : Hid (HintR w mb (firstV ds height 0) hh [] (.slice none 0 0) w2) := ⟨⟨none, 0, rfl⟩, World.ownsRow_nil _ _ _ _, fun x h => by simp at h, hmp, Below.keepOld hb2 HR1.out, HB2.out⟩
  have hc2 := (H.out.below HB2.out).cells.2.2.1
  clear hmp hb2
  go_wp2_with fail
  clear hc2
  go_loopw [6, 20] (fun v j wr => ∃ k : Nat, k ≤ ds.length ∧ j = .int .i64 k ∧ HintR w mb (firstV ds height 0) hh (chH ds height hh k) v wr) (fun _ j _ => ds.length - (intOf j).toNat)
  case atStart => exact ⟨0, by omega, rfl, HST.out⟩
  case round =>
    obtain ⟨k, hk, rfl, hr⟩ := hrel
    obtain ⟨wo, rfl⟩ : ∃ wo : World, wo = wr := ⟨_, rfl⟩
    obtain ⟨pv, cv, rfl⟩ := hr.val
    have HRO := Lib.hid hr
    clear hr
    by_cases hlt : k < ds.length
    · have hd : decide ((k : Int) < (ds.length : Int)) = true := decide_eq_true (by omega)
      have hrs := H.out.rs
      have hri : k < rows.length := by rw [H.out.count]; omega
      obtain ⟨b, o, rfl⟩ := hrs.sl.addr (by omega) (by omega)
      have hch := H.out.each k _ (ds[k]'hlt) (List.getElem?_eq_getElem hri) (List.getElem?_eq_getElem hlt)
      obtain ⟨q, cq, hrq, hbq⟩ := hch.blk
      have HRG0 := Lib.hid (range_below (hrs.row k hri) HRO.out.bel)
      rw [hrq] at HRG0
      have HFK := Lib.hid (H.out.few _ (List.getElem_mem hlt))
      have HFK2 := Lib.hid (HFEW.out _ (List.getElem_mem hlt))
      have HSTEP := Lib.hid (chH_step (height := height) (h := hh) hlt)
      generalize (ds[k]'hlt) = d at *
      obtain ⟨A, hA⟩ : ∃ A, A = blkA d.hash d.par q d.txs.length cq := ⟨_, rfl⟩
      rw [← hA] at HRG0 hbq
      clear hA hch hrq hrs
      have HBQ := Lib.hid (hbq.below HRO.out.bel)
      have HAS := Lib.hid hbq.size
      have HAO := Lib.hid hbq.one
      have HAL : Hid (A.toList.length = 65) := by show _ = _; rw [Array.length_toList]; exact hbq.size
      have HNW := Lib.hid (box_new wo Z 33)
      have HBR := Lib.hid (box_row wo Z A 33)
      have HBB := Lib.hid (box_below wo Z A 33)
      have HR3 := Lib.hid (HRO.out.below HBB.out)
      have HBQ3 := Lib.hid (HBQ.out.below HBB.out)
      clear hbq
      go_wp2_with (first
        | ((with_reducible refine wpAt 24 ?_); refine wpList_load_mid rfl 33 _ rfl b (o + k * 65) rfl A.toList _ HRG0.out Try.underlying33 rfl (infoBlk _ HAL.out) ?_)
        | ((with_reducible refine wpStoreAt 8 ?_); refine wpList_store_row rfl 33 _ _ rfl wo.heap.size A rfl rfl 33 Z HNW.out (infoBlk _ HAS.out) (HZZ.out.trans HAS.out.symm) HAO.out ?_)
        | ((with_reducible refine wpAt 25 ?_); refine wpList_load_row_g rfl 33 _ rfl wo.heap.size rfl 33 A (0, 0) _ HBR.out Try.underlying33 rfl (infoBlk _ HAS.out) ?_)
        | ((with_reducible refine wpAt 26 ?_); refine wpList_load_row_g rfl 52 _ rfl w.heap.size rfl 52 (idA hh) (0, 0) _ HR3.out.hint Try.underlying52 rfl (infoH _ HXS.out) ?_))
      generalize (wo.alloc (.cells Z 33)).setRow wo.heap.size A = w3 at *
      refine (hinted_any A d q _ cq hh w3 HBQ3.out HX.out HFK.out).mono ?_
      rintro e w4 ⟨pi, ci, rfl, his, hib, hb4⟩
      have HR4 := Lib.hid (HR3.out.below hb4)
      have hown0 : ∀ a, pi = some a → ∀ i, (Value.slice pv (chH ds height hh k).length cv).ownBlock = some i → ¬ i = a.block := fun a ha i hi e => by
        have h1 := hib a ha
        have h2 := (HR3.out.own.lt i hi).2
        omega
      have HOWN0 := Lib.hid hown0
      have HIS0 := Lib.hid his
      have hil := his.sl.le
      have him := his.sl.max
      clear hib hb4 hown0 his
      have HLL : Hid ((hintedL hh d.txs).length ≤ 1000000) := by
        show _ ≤ _
        have := List.length_filter_le (fun y : List UInt8 => y.take 16 == hh) d.txs
        have := HFK2.out
        unfold hintedL
        omega
      generalize hL : hintedL hh d.txs = L at *
      clear hL
      go_wp2_with fail
      go_loopw [6, 29] (fun v jv wr => ∃ j : Nat, j ≤ L.length ∧ jv = .int .i64 j ∧ HintR w mb (firstV ds height 0) hh (chH ds height hh k ++ (L.take j).filter (firstB ds height k)) v wr ∧ Is wr pi L.length ci 32 L ∧ (∀ a, pi = some a → ∀ i, v.ownBlock = some i → ¬ i = a.block)) (fun _ jv _ => L.length - (intOf jv).toNat)
      case atStart => exact ⟨0, by omega, rfl, by rw [List.take_zero, List.filter_nil, List.append_nil]; exact HR4.out, HIS0.out, HOWN0.out⟩
      case round =>
        obtain ⟨j, hj, rfl, hr, his, hnb⟩ := hrel
        obtain ⟨pw, cw, rfl⟩ := hr.val
        have HRI := Lib.hid hr
        have HIS := Lib.hid his
        have HNB := Lib.hid hnb
        clear hr his hnb
        by_cases hjl : j < L.length
        · have hdj : decide ((j : Int) < (L.length : Int)) = true := decide_eq_true (by omega)
          obtain ⟨qb, qo, rfl⟩ := HIS.out.sl.addr (by omega) (by omega)
          have HRY := Lib.hid (HIS.out.range (by omega) j hjl)
          have HYL : Hid (L[j].length = 32) := HIS.out.each _ (List.getElem_mem hjl)
          have HTK : Hid (chH ds height hh k ++ (L.take (j + 1)).filter (firstB ds height k) = (chH ds height hh k ++ (L.take j).filter (firstB ds height k)) ++ if firstB ds height k L[j] then [L[j]] else []) := by
            show _ = _; rw [filter_snoc _ _ _ hjl, List.append_assoc]
          generalize L[j] = y at *
          have HALEN : Hid ((chH ds height hh k ++ (L.take j).filter (firstB ds height k)).length ≤ 1099511627776) := by
            show _ ≤ _
            have h1 := chH_len HFEW.out height hh k
            have h2 := List.length_filter_le (firstB ds height k) (L.take j)
            have h3 : (L.take j).length ≤ L.length := List.length_take_le' _ _
            rw [List.length_append]
            have := HLL.out
            omega
          generalize hacc : chH ds height hh k ++ (L.take j).filter (firstB ds height k) = acc at *
          clear hacc
          have HYS : Hid ((idA y).size = 32) := by show _ = _; rw [idA_size, HYL.out]
          have HYA : Hid ((idA y).toList.length = 32) := by show _ = _; rw [Array.length_toList]; exact HYS.out
          have HNW2 := Lib.hid (box_new wr (idA zeros) 30)
          have HBR2 := Lib.hid (box_row wr (idA zeros) (idA y) 30)
          have HBB2 := Lib.hid (box_below wr (idA zeros) (idA y) 30)
          have HR5 := Lib.hid (HRI.out.below HBB2.out)
          have HIS5 := Lib.hid (HIS.out.below HBB2.out)
          have HZI : ∀ w0, (zeroValue 30).run Try.prog w0 = .ok (.agg (idA zeros)) w0 := fun w0 => by kernel_rfl
          have HYO := Lib.hid (idA_one y)
          go_upto_region 11 with (first
            | ((with_reducible refine wpAt 32 ?_); refine wpList_load_mid rfl 30 _ rfl qb (qo + j * 32) rfl (idA y).toList _ HRY.out Try.underlying30 rfl (infoI _ HYA.out) ?_)
            | ((with_reducible refine wpStoreAt 10 ?_); refine wpList_store_row rfl 30 _ _ rfl wr.heap.size (idA y) rfl rfl 30 (idA zeros) HNW2.out (infoI _ HYS.out) (zeros_size.trans HYS.out.symm) HYO.out ?_))
          generalize (wr.alloc (.cells (idA zeros) 30)).setRow wr.heap.size (idA y) = w5 at *
          have HRYG : Hid (∀ z : Grown w5, z.v.rangeAt wr.heap.size 0 (idA y).toList) := fun z => range_grown (row_rangeC HBR2.out) z
          have hlk : ∀ z : Grown w5, (Instr.lookup 84 (.map (some mb)) (.agg (idA y)) false).run Try.prog z.v = .ok (.int .u32 ((hasV ds height y).1 : Int)) z.v := fun z => by
            have := (HR5.out.map.below z.b).look idKeys und_first (zu32 _) y HYL.out
            rwa [(firstV_has ds height y).1] at this
          have HFB : Hid ((((hasV ds height y).1 : Int) == (atN height ds.length k : Int)) = firstB ds height k y) := rfl
          refine wp_region_grow (by kernel_rfl) (by kernel_rfl) ?_
          repeat (first
            | ((with_reducible refine wpQuietAt 34 ?_); refine wpQuiet_load rfl 30 _ rfl wr.heap.size 0 rfl (idA y) _ HRYG.out Try.underlying30 rfl (infoI _ HYS.out) ?_)
            | quiet_step ((first | (go_at_call 52; exact Calls.grow_of (at_any _ (H.out.below (HR5.out.bel.trans ((Grown.b _).mono HR5.out.bel.size))) k hlt)))))
          refine wpQuiet_nil ?_
          intro w6 hb6
          rw [HFB.out]
          have HR6 := Lib.hid (HR5.out.below hb6)
          have HIS6 := Lib.hid (HIS5.out.below hb6)
          have HBR6 := Lib.hid (Below.keepOld hb6 HBR2.out)
          clear hb6 hlk HFB
          have hacl : acc.length ≤ 1099511627776 := HALEN.out
          cases hfb : firstB ds height k y with
          | false =>
            have HT : Hid (chH ds height hh k ++ (L.take (j + 1)).filter (firstB ds height k) = acc) := by show _ = _; rw [HTK.out, hfb]; simp
            clear hfb
            go_wp2_with fail
            go_roundw
            case rel => exact ⟨j + 1, by omega, by go_num, by rw [HT.out]; exact HR6.out, HIS6.out, HNB.out⟩
            case measure => simp [intOf]; omega
          | true =>
            have HT : Hid (chH ds height hh k ++ (L.take (j + 1)).filter (firstB ds height k) = acc ++ [y]) := by show _ = _; rw [HTK.out, hfb]; rfl
            clear hfb
            have HSL : Hid (Sl (w6.alloc (.cells (idA y) 30)) (some ⟨w6.heap.size, 0, none⟩) 1 1 32 (bytesV y)) := made_id w6 y _ _ (idA_toList y) HYL.out
            have HRA := Lib.hid (HR6.out.below (Below.allocs w6 (.cells (idA y) 30)))
            have HISA := Lib.hid (HIS6.out.below (Below.allocs w6 (.cells (idA y) 30)))
            have HKL : Hid (acc.length + 1 ≤ 9223372036854775807 ∧ (acc.length + 1) * 32 ≤ 140737488355328) := ⟨by omega, by omega⟩
            clear hacl
            go_wp2_with (first
              | ((with_reducible refine wpAt 41 ?_); refine wpList_load_row rfl 30 _ rfl wr.heap.size rfl 30 (idA y) (0, 0) _ HBR6.out Try.underlying30 rfl (infoI _ HYS.out) ?_)
              | ((with_reducible refine wpAt 42 ?_); refine wpList_buildOne rfl 31 30 _ rfl (idA y) rfl 32 Try.underlying31 (by kernel_rfl) (by omega) (by omega) HYS.out ?_)
              | ((with_reducible refine wpAt 43 ?_); refine wpList_append_nx rfl _ _ 31 rfl (base := w.heap.size) Try.underlying31 infoIds (by rw [show (Value.agg (idA zeros)).cells = idA zeros from rfl]; exact zeros_size) (by omega) rfl HRA.out.own rfl HSL.out (bytesV_one _) HKL.out HRA.out.bel.size ?_))
            intro p' c' w8 ho8 hg8 hnx8 hz8
            have HR8 := Lib.hid (HRA.out.put HYL.out ho8 hg8)
            have hT8 : Turns (fun i => (Value.slice pw acc.length cw).ownBlock = some i) (w6.alloc (.cells (idA y) 30)) w8 := Turns.grown hg8 (S := fun i => (Value.slice pw acc.length cw).ownBlock = some i) (fun k hk => hk)
            have HIS8 : Hid (Is w8 (some ⟨qb, qo, none⟩) L.length ci 32 L) := ⟨HISA.out.sl.touch hT8 (fun a ha _ hs => HNB.out a ha _ hs rfl), HISA.out.each, HISA.out.count⟩
            have HNB8 : Hid (∀ a, (some ⟨qb, qo, none⟩ : Option Addr) = some a → ∀ i, (Value.slice p' (acc.length + 1) c').ownBlock = some i → ¬ i = a.block) := fun a ha i hi e => by
              rcases hnx8 i hi with hn | hn
              · exact HNB.out a ha i hn e
              · obtain rfl := Option.some.inj ha
                have h1 := block_lt_of_cell ((HISA.out.range (by omega) j hjl) 0 _ (List.getElem?_eq_getElem (by rw [idA_toList, bytesV_length, HISA.out.each _ (List.getElem_mem hjl)]; omega)))
                simp at h1 e
                omega
            clear ho8 hg8 hnx8 hz8 hT8
            go_wp2_with fail
            go_roundw
            case rel => exact ⟨j + 1, by omega, by go_num, by rw [HT.out]; exact HR8.out, HIS8.out, HNB8.out⟩
            case measure => simp [intOf]; omega
        · have hdj : decide ((j : Int) < (L.length : Int)) = false := decide_eq_false (by omega)
          have hge : L.length ≤ j := by omega
          have hdj2 : decide (j < L.length) = false := decide_eq_false hjl
          have HEND : Hid (HintR w mb (firstV ds height 0) hh (chH ds height hh (k + 1)) (.slice pw (chH ds height hh k ++ (L.take j).filter (firstB ds height k)).length cw) wr) := by
            show HintR _ _ _ _ _ _ _
            rw [HSTEP.out]
            have := HRI.out
            rw [List.take_of_length_le (by omega)] at this ⊢
            exact this
          clear hjl
          go_wp2_with fail
          go_roundw
          case rel => exact ⟨k + 1, by omega, by go_num, HEND.out⟩
          case measure => simp [intOf]; omega
    · have hd : decide ((k : Int) < (ds.length : Int)) = false := decide_eq_false (by omega)
      obtain rfl : k = ds.length := by omega
      have HE := Lib.hid (ids_of_own HRO.out.own HRO.out.each HRO.out.bel)
      go_wp2_with fail
      go_ret
      exact HE.out
end Go.Proofs.Ytepemfgiigceoaa.Chn
