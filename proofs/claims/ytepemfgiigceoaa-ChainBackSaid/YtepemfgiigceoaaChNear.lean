/- A CALL OF A STATEMENT ON CHAINS, with the tip's hash laid in. Conditions: none. -/
import Derived.Test.YtepemfgiigceoaaChOps
namespace Go.Proofs.Ytepemfgiigceoaa.Chn
open Go.RowKit Go.Mir Go.Mir.Parts Go.Proofs.Ytepemfgiigceoaa.Blk

/-- a part of a row stored anew -/
theorem setCells_mid {w : World} {b : Nat} {M : Array Value} {t : TypeId} (A X Y C : List Value) (h : w.heap[b]? = some (.cells M t (0, 0))) (hM : M.toList = A ++ X ++ C) (hY : Y.length = X.length) :
    (w.setCells b A.length Y).heap[b]? = some (.cells (A ++ Y ++ C).toArray t (0, 0)) := by
  have hs : M.size = A.length + X.length + C.length := by rw [← Array.length_toList, hM]; simp; omega
  obtain ⟨A', h1, h2, h3⟩ := setCells_row b t Y A.length w M h (by omega)
  rw [h1]
  have : A' = (A ++ Y ++ C).toArray := by
    apply Array.ext_getElem?
    intro i
    rw [h3 i, ← Array.getElem?_toList, hM]
    simp only [List.getElem?_toArray]
    by_cases h1 : i < A.length
    · rw [if_neg (by omega), List.append_assoc, List.append_assoc, List.getElem?_append_left h1, List.getElem?_append_left h1]
    · by_cases h2 : i < A.length + Y.length
      · rw [if_pos (by omega), List.getElem?_append_left (by simp; omega), List.getElem?_append_right (by omega)]
      · rw [if_neg (by omega), List.getElem?_append_right (by simp; omega), List.getElem?_append_right (by simp; omega)]
        congr 1
        simp [hY]
  rw [this]
theorem there_mid {w : World} {b : Nat} {M : Array Value} {t : TypeId} (h : w.heap[b]? = some (.cells M t (0, 0))) (o n : Nat) (hn : o + n ≤ M.size) : w.there b o n := fun j hj => by
  refine ⟨?_, frozen_of_row _ _ _ _ _ h⟩
  rw [cell_of_row _ _ _ _ _ _ h]
  simp; omega
theorem turns_setCells {w : World} (b : Nat) : ∀ (vs : List Value) (o : Nat) (w' : World), Turns (fun i => i = b) w w' → Turns (fun i => i = b) w (w'.setCells b o vs)
  | [], _, _, h => h
  | v :: r, o, w', h => turns_setCells b r (o + 1) _ (h.setCell (p := ⟨b, o, none⟩) (fun _ => rfl) v)
/-- what the call is, then -/
def nearD (ds : List BlkD) (o : COp) : COp := match ds.getLast? with
  | none => o
  | some t => if o.nr = true then (if o.kind = 0 then ⟨o.kind, o.nr, ⟨o.blk.hash, t.hash, o.blk.txs⟩⟩ else ⟨o.kind, o.nr, ⟨t.hash, o.blk.par, o.blk.txs⟩⟩) else o
theorem nearD_txs (ds : List BlkD) (o : COp) : (nearD ds o).blk.txs = o.blk.txs := by
  unfold nearD
  cases ds.getLast? with
  | none => rfl
  | some t =>
    show (if _ then _ else _ : COp).blk.txs = _
    by_cases h : o.nr = true
    · rw [if_pos h]
      by_cases h2 : o.kind = 0
      · rw [if_pos h2]
      · rw [if_neg h2]
    · rw [if_neg h]
theorem nearD_kind (ds : List BlkD) (o : COp) : (nearD ds o).kind = o.kind := by
  unfold nearD
  cases ds.getLast? with
  | none => rfl
  | some t =>
    show (if _ then _ else _ : COp).kind = _
    by_cases h : o.nr = true
    · rw [if_pos h]
      by_cases h2 : o.kind = 0
      · rw [if_pos h2]
      · rw [if_neg h2]
    · rw [if_neg h]
/-- a reference's chain as a value -/
def rcA (dep : Int) (ht : Nat) (p : Option Addr) (n c : Nat) : Array Value := #[.int .i64 dep, .int .u32 (ht : Int), .slice p n c]
def NearP (ds : List BlkD) (o : COp) (q : Option Addr) (cc : Nat) (w : World) (e : Ending) (w' : World) : Prop :=
  e = .returned (.agg (opA (nearD ds o).kind (nearD ds o).nr (blkA (nearD ds o).blk.hash (nearD ds o).blk.par q (nearD ds o).blk.txs.length cc))) ∧ (nearD ds o).blk.hash.length = 32 ∧ (nearD ds o).blk.par.length = 32 ∧ Below w.heap.size w w'
theorem near_same {ds : List BlkD} {o : COp} {q : Option Addr} {cc : Nat} {w w' : World} {A : Array Value} (h : nearD ds o = o) (hA : A = opA o.kind o.nr (blkA o.blk.hash o.blk.par q o.blk.txs.length cc)) (h1 : o.blk.hash.length = 32) (h2 : o.blk.par.length = 32) (hb : Below w.heap.size w w') : NearP ds o q cc w (.returned (.agg A)) w' := by
  unfold NearP
  rw [h]
  exact ⟨by rw [hA], h1, h2, hb⟩

set_option maxRecDepth 100000 in
set_option maxHeartbeats 800000 in
theorem near_any (dep : Int) (ht : Nat) (ds : List BlkD) (p : Option Addr) (c : Nat) (rows : List (List Value)) (o : COp) (q : Option Addr) (cc : Nat) (w : World) (hW : Bks w p ds.length c ds rows) (hO : BlkAt w (blkA o.blk.hash o.blk.par q o.blk.txs.length cc) o.blk q o.blk.txs.length cc) :
    Calls Try.prog 11 #[.agg (rcA dep ht p ds.length c), .agg (opA o.kind o.nr (blkA o.blk.hash o.blk.par q o.blk.txs.length cc))] w (NearP ds o q cc w) := by
  obtain ⟨Z, hz, hZ⟩ := zOp
  have HZZ := Lib.hid hZ
  obtain ⟨ZI, hzi, hZI⟩ : ∃ Z : Array Value, (∀ w0, (zeroValue 30).run Try.prog w0 = .ok (.agg Z) w0) ∧ Hid (Z.size = 32) := ⟨idA zeros, fun w0 => by kernel_rfl, by show _ = _; kernel_rfl⟩
  have HW := Lib.hid hW
  have HO := Lib.hid hO
  have HHL := Lib.hid hO.hlen
  have HPL := Lib.hid hO.plen
  have hle := hW.rs.sl.le
  have hmax := hW.rs.sl.max
  obtain ⟨M, hM⟩ : ∃ M, M = opA o.kind o.nr (blkA o.blk.hash o.blk.par q o.blk.txs.length cc) := ⟨_, rfl⟩
  have HME := Lib.hid hM
  have HMS : Hid (M.size = 67) := by show _ = _; rw [hM]; exact opA_size hO.size
  have HMO : Hid (M.all (·.oneCell') = true) := by show _ = _; rw [hM]; exact opA_one hO.one
  rw [← hM]
  obtain ⟨RC, hRC⟩ : ∃ RC, RC = rcA dep ht p ds.length c := ⟨_, rfl⟩
  have HRC := Lib.hid hRC
  have HRS : Hid (RC.size = 3) := by show _ = _; rw [hRC]; rfl
  rw [← hRC]
  have H2 := Lib.hid (two_allocs w (.cells RC 41) (.cells M 35))
  have HB2 := Lib.hid H2.out.2.2.2
  have hb3 := (Below.allocs ((w.alloc (.cells RC 41)).alloc (.cells M 35)) (.cells Z 35))
  have HB3 := Lib.hid (HB2.out.trans (hb3.mono HB2.out.size))
  have HR0 := Lib.hid (Below.keepOld hb3 H2.out.1)
  have HR1 := Lib.hid (Below.keepOld hb3 H2.out.2.1)
  have HR2 : Hid ((((w.alloc (.cells RC 41)).alloc (.cells M 35)).alloc (.cells Z 35)).heap[w.heap.size + 1 + 1]? = some (.cells Z 35 (0, 0))) := by
    show _ = _
    have := heap_alloc_last ((w.alloc (.cells RC 41)).alloc (.cells M 35)) (.cells Z 35)
    rwa [H2.out.2.2.1] at this
  have HZ3 : Hid ((((w.alloc (.cells RC 41)).alloc (.cells M 35)).alloc (.cells Z 35)).heap.size = w.heap.size + 3) := by show _ = _; simp
  have hk0 : (((w.alloc (.cells RC 41)).alloc (.cells M 35)).alloc (.cells Z 35)).cell? ⟨w.heap.size + 1, 0, none⟩ = some (.int .i64 o.kind) := (opA_cell (by rw [HR1.out, hM])).1
  have hk1 : (((w.alloc (.cells RC 41)).alloc (.cells M 35)).alloc (.cells Z 35)).cell? ⟨w.heap.size + 1, 1, none⟩ = some (.bool o.nr) := (opA_cell (by rw [HR1.out, hM])).2
  have hk2 : (((w.alloc (.cells RC 41)).alloc (.cells M 35)).alloc (.cells Z 35)).cell? ⟨w.heap.size, 2, none⟩ = some (.slice p ds.length c) := by rw [cell_of_row _ _ _ _ _ _ HR0.out, hRC]; rfl
  clear hZ hW hO hM hRC hb3
  go_enter Try.func11, Try.ntmps11
  have HK0 := Lib.hid hk0
  have HK1 := Lib.hid hk1
  have HK2 := Lib.hid hk2
  clear hk0 hk1 hk2
  go_upto_region 1 with fail
  generalize ((w.alloc (.cells RC 41)).alloc (.cells M 35)).alloc (.cells Z 35) = w3 at *
  have hk0 := HK0.out
  have hk1 := HK1.out
  have hk2 := HK2.out
  clear HK0 HK1 HK2
  have HZ1 : Hid (∀ k : Nat, k ≤ w.heap.size + 1 → k < w3.heap.size) := fun k hk => by have := HZ3.out; omega
  cases hnr : o.nr with
  | false =>
    have HSAME : Hid (nearD ds o = o) := by
      show _ = _
      unfold nearD
      cases ds.getLast? with
      | none => rfl
      | some t => show (if _ then _ else _) = _; rw [if_neg (by rw [hnr]; simp)]
    rw [hnr] at hk1
    clear hnr
    have HBX := HB3
    have HRX := HR1
    have HRZ := HR2
    have HXS := HMS
    have HXO := HMO
    generalize hMX : M = MX at *
    have HBF := Lib.hid (below_setRow HBX.out (show w.heap.size ≤ w.heap.size + 1 + 1 by omega) MX)
    have HSF := Lib.hid (setRow_heap _ _ _ MX _ _ HRZ.out)
    go_wp2_with (first
      | ((with_reducible refine wpAt 32 ?_); refine wpList_load_row rfl 35 _ rfl (w.heap.size + 1) rfl 35 MX (0, 0) _ HRX.out Try.underlying35 rfl (infoOp _ HXS.out) ?_)
      | ((with_reducible refine wpStoreAt 4 ?_); refine wpList_store_row rfl 35 _ _ rfl (w.heap.size + 1 + 1) MX rfl rfl 35 Z HRZ.out (infoOp _ HXS.out) (by rw [HZZ.out, HXS.out]) HXO.out ?_))
    refine bodyPost_ret (results_cell_row rfl _ _ _ _ _ _ _ rfl HSF.out Try.underlying35 rfl (infoOp _ HXS.out)) rfl ?_
    exact near_same HSAME.out HME.out HHL.out HPL.out HBF.out
  | true =>
    rw [hnr] at hk1
    cases hl : ds.getLast? with
    | none =>
      have hds : ds = [] := List.getLast?_eq_none_iff.1 hl
      have HSAME : Hid (nearD ds o = o) := by show _ = _; unfold nearD; rw [hl]
      have hl0 : decide ((0 : Int) < (ds.length : Int)) = false := by rw [hds]; rfl
      have hl1 : ds.length = 0 := by rw [hds]; rfl
      clear hl hds hnr
      have HBX := HB3
      have HRX := HR1
      have HRZ := HR2
      have HXS := HMS
      have HXO := HMO
      generalize hMX : M = MX at *
      have HBF := Lib.hid (below_setRow HBX.out (show w.heap.size ≤ w.heap.size + 1 + 1 by omega) MX)
      have HSF := Lib.hid (setRow_heap _ _ _ MX _ _ HRZ.out)
      go_wp2_with (first
        | ((with_reducible refine wpAt 32 ?_); refine wpList_load_row rfl 35 _ rfl (w.heap.size + 1) rfl 35 MX (0, 0) _ HRX.out Try.underlying35 rfl (infoOp _ HXS.out) ?_)
        | ((with_reducible refine wpStoreAt 4 ?_); refine wpList_store_row rfl 35 _ _ rfl (w.heap.size + 1 + 1) MX rfl rfl 35 Z HRZ.out (infoOp _ HXS.out) (by rw [HZZ.out, HXS.out]) HXO.out ?_))
      refine bodyPost_ret (results_cell_row rfl _ _ _ _ _ _ _ rfl HSF.out Try.underlying35 rfl (infoOp _ HXS.out)) rfl ?_
      exact near_same HSAME.out HME.out HHL.out HPL.out HBF.out
    | some t =>
      by_cases hkd : o.kind = 0
      · have HND : Hid (nearD ds o = ⟨o.kind, o.nr, ⟨o.blk.hash, t.hash, o.blk.txs⟩⟩) := by
          show _ = _; unfold nearD; rw [hl]; show (if _ then _ else _) = _; rw [if_pos hnr, if_pos hkd]
        have hkb : (o.kind == 0) = true := by rw [beq_iff_eq]; exact hkd
        clear hkd hnr
        have hlen : 0 < ds.length := by cases ds with | nil => simp at hl | cons a r => simp
        have hl0 : decide ((0 : Int) < (ds.length : Int)) = true := decide_eq_true (by omega)
        obtain ⟨i, hi⟩ : ∃ i, i + 1 = ds.length := ⟨ds.length - 1, by omega⟩
        have hsub : (ds.length : Int) - 1 = (i : Int) := by omega
        have hin : (i : Int) < (ds.length : Int) := by omega
        have hi0 : (0 : Int) ≤ (i : Int) := by omega
        obtain ⟨bb, oo, rfl⟩ := HW.out.rs.sl.addr (by omega) (by omega)
        obtain ⟨q', c', hbt, hrg⟩ := HW.out.at i (by omega)
        have htd : ds[i] = t := by
          have := hl
          rw [List.getLast?_eq_getElem?, show ds.length - 1 = i by omega, List.getElem?_eq_getElem (by omega)] at this
          exact Option.some.inj this
        rw [htd] at hbt hrg
        have HTL := Lib.hid hbt.hlen
        have HTA : Hid ((idA t.hash).size = 32) := by show _ = _; rw [idA_size, hbt.hlen]
        have HTAL : Hid ((idA t.hash).toList.length = 32) := by show _ = _; rw [Array.length_toList, idA_size, hbt.hlen]
        have HRT : Hid (w3.rangeAt bb (oo + i * 65) (idA t.hash).toList) := by
          have h1 : w3.rangeAt bb (oo + i * 65) (blkA t.hash t.par q' t.txs.length c').toList := range_below hrg HB3.out
          intro j v hv
          refine h1 j v ?_
          rw [blkA_toList, List.append_assoc, List.getElem?_append_left (by have := (List.getElem?_eq_some_iff.1 hv).1; rwa [idA_toList] at this)]
          rwa [idA_toList] at hv
        have HNW := Lib.hid (box_new w3 ZI 30)
        have hbb := box_below w3 ZI (idA t.hash) 30
        have HBR := Lib.hid (box_row w3 ZI (idA t.hash) 30)
        have HBX4 := Lib.hid (HB3.out.trans (hbb.mono HB3.out.size))
        have HR14 := Lib.hid (Below.keepOld hbb HR1.out)
        have HR24 := Lib.hid (Below.keepOld hbb HR2.out)
        have hk0' : ((w3.alloc (.cells ZI 30)).setRow w3.heap.size (idA t.hash)).cell? ⟨w.heap.size + 1, 0, none⟩ = some (.int .i64 o.kind) := cell_below hk0 hbb
        have HTO := Lib.hid (idA_one t.hash)
        clear hbt hrg hbb htd
        have hrx := setCells_mid ([Value.int .i64 o.kind, .bool o.nr] ++ bytesV o.blk.hash) (bytesV o.blk.par) (idA t.hash).toList [Value.slice q o.blk.txs.length cc] HR14.out (by rw [HME.out, opA_toList, blkA_toList]; simp) (by rw [HTAL.out, bytesV_length]; exact HPL.out.symm)
        have hmx : (([Value.int .i64 o.kind, .bool o.nr] ++ bytesV o.blk.hash) ++ (idA t.hash).toList ++ [Value.slice q o.blk.txs.length cc]).toArray = opA o.kind o.nr (blkA o.blk.hash t.hash q o.blk.txs.length cc) := by
          apply Array.toList_inj.1
          rw [opA_toList, blkA_toList, idA_toList]; simp
        rw [hmx] at hrx
        obtain ⟨MX, hMX⟩ : ∃ MX, MX = opA o.kind o.nr (blkA o.blk.hash t.hash q o.blk.txs.length cc) := ⟨_, rfl⟩
        rw [← hMX] at hrx
        have HBA : Hid (BlkAt w (blkA o.blk.hash t.hash q o.blk.txs.length cc) ⟨o.blk.hash, t.hash, o.blk.txs⟩ q o.blk.txs.length cc) := ⟨rfl, HHL.out, HTL.out, HO.out.ids⟩
        have HXS : Hid (MX.size = 67) := by show _ = _; rw [hMX]; exact opA_size HBA.out.size
        have HXO : Hid (MX.all (·.oneCell') = true) := by show _ = _; rw [hMX]; exact opA_one HBA.out.one
        have HMX := Lib.hid hMX
        have HRX : Hid (((w3.alloc (.cells ZI 30)).setRow w3.heap.size (idA t.hash)).setCells (w.heap.size + 1) 34 (idA t.hash).toList |>.heap[w.heap.size + 1]? = some (.cells MX 35 (0, 0))) := by
          show _ = _
          rw [← hrx]
          have e : ([Value.int .i64 o.kind, .bool o.nr] ++ bytesV o.blk.hash).length = 34 := by simp [bytesV_length, HHL.out]
          rw [e]
        clear hmx hrx hMX HBA
        have HT5 : Hid (Turns (fun i => i = w.heap.size + 1) ((w3.alloc (.cells ZI 30)).setRow w3.heap.size (idA t.hash)) (((w3.alloc (.cells ZI 30)).setRow w3.heap.size (idA t.hash)).setCells (w.heap.size + 1) 34 (idA t.hash).toList)) := turns_setCells _ _ _ _ (Turns.refl _ _)
        have HBX : Hid (Below w.heap.size w (((w3.alloc (.cells ZI 30)).setRow w3.heap.size (idA t.hash)).setCells (w.heap.size + 1) 34 (idA t.hash).toList)) := HBX4.out.trans (HT5.out.below HBX4.out.size (fun i hi => by omega))
        have HRZ := Lib.hid (HT5.out.keep HR24.out (by omega))
        have HBF := Lib.hid (below_setRow HBX.out (show w.heap.size ≤ w.heap.size + 1 + 1 by omega) MX)
        have HSF := Lib.hid (setRow_heap _ _ _ MX _ _ HRZ.out)
        go_wp2_with (first
          | ((with_reducible refine wpAt 22 ?_); refine wpList_load_mid rfl 30 _ rfl bb (oo + i * 65) rfl (idA t.hash).toList _ HRT.out Try.underlying30 rfl (infoI _ HTAL.out) ?_)
          | ((with_reducible refine wpStoreAt 5 ?_); refine wpList_store_row rfl 30 _ _ rfl w3.heap.size (idA t.hash) rfl rfl 30 ZI HNW.out (infoI _ HTA.out) (by rw [hZI.out, HTA.out]) HTO.out ?_)
          | ((with_reducible refine wpAt 26 ?_); refine wpList_load_row rfl 30 _ rfl w3.heap.size rfl 30 (idA t.hash) (0, 0) _ HBR.out Try.underlying30 rfl (infoI _ HTA.out) ?_)
          | ((with_reducible refine wpStoreAt 28 ?_); refine wpList_store_mid rfl 30 _ _ rfl (w.heap.size + 1) 34 (idA t.hash) rfl rfl (there_mid HR14.out 34 _ (by rw [HTA.out, HMS.out]; omega)) (infoI _ HTA.out) HTO.out ?_)
          | ((with_reducible refine wpAt 32 ?_); refine wpList_load_row rfl 35 _ rfl (w.heap.size + 1) rfl 35 MX (0, 0) _ HRX.out Try.underlying35 rfl (infoOp _ HXS.out) ?_)
          | ((with_reducible refine wpStoreAt 4 ?_); refine wpList_store_row rfl 35 _ _ rfl (w.heap.size + 1 + 1) MX rfl rfl 35 Z HRZ.out (infoOp _ HXS.out) (by rw [HZZ.out, HXS.out]) HXO.out ?_))
        refine bodyPost_ret (results_cell_row rfl _ _ _ _ _ _ _ rfl HSF.out Try.underlying35 rfl (infoOp _ HXS.out)) rfl ?_
        refine ⟨?_, ?_, ?_, HBF.out⟩
        · rw [HND.out, HMX.out]
        · rw [HND.out]; exact HHL.out
        · rw [HND.out]; exact HTL.out
      · have HND : Hid (nearD ds o = ⟨o.kind, o.nr, ⟨t.hash, o.blk.par, o.blk.txs⟩⟩) := by
          show _ = _; unfold nearD; rw [hl]; show (if _ then _ else _) = _; rw [if_pos hnr, if_neg hkd]
        have hkb : (o.kind == 0) = false := by rw [beq_eq_false_iff_ne]; exact hkd
        clear hkd hnr
        have hlen : 0 < ds.length := by cases ds with | nil => simp at hl | cons a r => simp
        have hl0 : decide ((0 : Int) < (ds.length : Int)) = true := decide_eq_true (by omega)
        obtain ⟨i, hi⟩ : ∃ i, i + 1 = ds.length := ⟨ds.length - 1, by omega⟩
        have hsub : (ds.length : Int) - 1 = (i : Int) := by omega
        have hin : (i : Int) < (ds.length : Int) := by omega
        have hi0 : (0 : Int) ≤ (i : Int) := by omega
        obtain ⟨bb, oo, rfl⟩ := HW.out.rs.sl.addr (by omega) (by omega)
        obtain ⟨q', c', hbt, hrg⟩ := HW.out.at i (by omega)
        have htd : ds[i] = t := by
          have := hl
          rw [List.getLast?_eq_getElem?, show ds.length - 1 = i by omega, List.getElem?_eq_getElem (by omega)] at this
          exact Option.some.inj this
        rw [htd] at hbt hrg
        have HTL := Lib.hid hbt.hlen
        have HTA : Hid ((idA t.hash).size = 32) := by show _ = _; rw [idA_size, hbt.hlen]
        have HTAL : Hid ((idA t.hash).toList.length = 32) := by show _ = _; rw [Array.length_toList, idA_size, hbt.hlen]
        have HRT : Hid (w3.rangeAt bb (oo + i * 65) (idA t.hash).toList) := by
          have h1 : w3.rangeAt bb (oo + i * 65) (blkA t.hash t.par q' t.txs.length c').toList := range_below hrg HB3.out
          intro j v hv
          refine h1 j v ?_
          rw [blkA_toList, List.append_assoc, List.getElem?_append_left (by have := (List.getElem?_eq_some_iff.1 hv).1; rwa [idA_toList] at this)]
          rwa [idA_toList] at hv
        have HNW := Lib.hid (box_new w3 ZI 30)
        have hbb := box_below w3 ZI (idA t.hash) 30
        have HBR := Lib.hid (box_row w3 ZI (idA t.hash) 30)
        have HBX4 := Lib.hid (HB3.out.trans (hbb.mono HB3.out.size))
        have HR14 := Lib.hid (Below.keepOld hbb HR1.out)
        have HR24 := Lib.hid (Below.keepOld hbb HR2.out)
        have hk0' : ((w3.alloc (.cells ZI 30)).setRow w3.heap.size (idA t.hash)).cell? ⟨w.heap.size + 1, 0, none⟩ = some (.int .i64 o.kind) := cell_below hk0 hbb
        have HTO := Lib.hid (idA_one t.hash)
        clear hbt hrg hbb htd
        have hrx := setCells_mid [Value.int .i64 o.kind, .bool o.nr] (bytesV o.blk.hash) (idA t.hash).toList (bytesV o.blk.par ++ [Value.slice q o.blk.txs.length cc]) HR14.out (by rw [HME.out, opA_toList, blkA_toList]; simp) (by rw [HTAL.out, bytesV_length]; exact HHL.out.symm)
        have hmx : ([Value.int .i64 o.kind, .bool o.nr] ++ (idA t.hash).toList ++ (bytesV o.blk.par ++ [Value.slice q o.blk.txs.length cc])).toArray = opA o.kind o.nr (blkA t.hash o.blk.par q o.blk.txs.length cc) := by
          apply Array.toList_inj.1
          rw [opA_toList, blkA_toList, idA_toList]; simp
        rw [hmx] at hrx
        obtain ⟨MX, hMX⟩ : ∃ MX, MX = opA o.kind o.nr (blkA t.hash o.blk.par q o.blk.txs.length cc) := ⟨_, rfl⟩
        rw [← hMX] at hrx
        have HBA : Hid (BlkAt w (blkA t.hash o.blk.par q o.blk.txs.length cc) ⟨t.hash, o.blk.par, o.blk.txs⟩ q o.blk.txs.length cc) := ⟨rfl, HTL.out, HPL.out, HO.out.ids⟩
        have HXS : Hid (MX.size = 67) := by show _ = _; rw [hMX]; exact opA_size HBA.out.size
        have HXO : Hid (MX.all (·.oneCell') = true) := by show _ = _; rw [hMX]; exact opA_one HBA.out.one
        have HMX := Lib.hid hMX
        have HRX : Hid (((w3.alloc (.cells ZI 30)).setRow w3.heap.size (idA t.hash)).setCells (w.heap.size + 1) 2 (idA t.hash).toList |>.heap[w.heap.size + 1]? = some (.cells MX 35 (0, 0))) := by
          show _ = _
          rw [← hrx]
          have e : [Value.int .i64 o.kind, .bool o.nr].length = 2 := by simp [bytesV_length, HHL.out]
          rw [e]
        clear hmx hrx hMX HBA
        have HT5 : Hid (Turns (fun i => i = w.heap.size + 1) ((w3.alloc (.cells ZI 30)).setRow w3.heap.size (idA t.hash)) (((w3.alloc (.cells ZI 30)).setRow w3.heap.size (idA t.hash)).setCells (w.heap.size + 1) 2 (idA t.hash).toList)) := turns_setCells _ _ _ _ (Turns.refl _ _)
        have HBX : Hid (Below w.heap.size w (((w3.alloc (.cells ZI 30)).setRow w3.heap.size (idA t.hash)).setCells (w.heap.size + 1) 2 (idA t.hash).toList)) := HBX4.out.trans (HT5.out.below HBX4.out.size (fun i hi => by omega))
        have HRZ := Lib.hid (HT5.out.keep HR24.out (by omega))
        have HBF := Lib.hid (below_setRow HBX.out (show w.heap.size ≤ w.heap.size + 1 + 1 by omega) MX)
        have HSF := Lib.hid (setRow_heap _ _ _ MX _ _ HRZ.out)
        go_wp2_with (first
          | ((with_reducible refine wpAt 22 ?_); refine wpList_load_mid rfl 30 _ rfl bb (oo + i * 65) rfl (idA t.hash).toList _ HRT.out Try.underlying30 rfl (infoI _ HTAL.out) ?_)
          | ((with_reducible refine wpStoreAt 5 ?_); refine wpList_store_row rfl 30 _ _ rfl w3.heap.size (idA t.hash) rfl rfl 30 ZI HNW.out (infoI _ HTA.out) (by rw [hZI.out, HTA.out]) HTO.out ?_)
          | ((with_reducible refine wpAt 29 ?_); refine wpList_load_row rfl 30 _ rfl w3.heap.size rfl 30 (idA t.hash) (0, 0) _ HBR.out Try.underlying30 rfl (infoI _ HTA.out) ?_)
          | ((with_reducible refine wpStoreAt 31 ?_); refine wpList_store_mid rfl 30 _ _ rfl (w.heap.size + 1) 2 (idA t.hash) rfl rfl (there_mid HR14.out 2 _ (by rw [HTA.out, HMS.out]; omega)) (infoI _ HTA.out) HTO.out ?_)
          | ((with_reducible refine wpAt 32 ?_); refine wpList_load_row rfl 35 _ rfl (w.heap.size + 1) rfl 35 MX (0, 0) _ HRX.out Try.underlying35 rfl (infoOp _ HXS.out) ?_)
          | ((with_reducible refine wpStoreAt 4 ?_); refine wpList_store_row rfl 35 _ _ rfl (w.heap.size + 1 + 1) MX rfl rfl 35 Z HRZ.out (infoOp _ HXS.out) (by rw [HZZ.out, HXS.out]) HXO.out ?_))
        refine bodyPost_ret (results_cell_row rfl _ _ _ _ _ _ _ rfl HSF.out Try.underlying35 rfl (infoOp _ HXS.out)) rfl ?_
        refine ⟨?_, ?_, ?_, HBF.out⟩
        · rw [HND.out, HMX.out]
        · rw [HND.out]; exact HTL.out
        · rw [HND.out]; exact HPL.out
end Go.Proofs.Ytepemfgiigceoaa.Chn
