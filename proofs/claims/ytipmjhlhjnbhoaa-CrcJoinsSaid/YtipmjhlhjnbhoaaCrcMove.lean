/- THE WALKS OF CRC's MOVES: matrices, Moved, Join, and the reference's Moved. -/
import Derived.Test.YtipmjhlhjnbhoaaCrcWalk
import Derived.BigRegion
import Derived.BigQuiet
import Derived.Deep.QuietTactic
import Derived.Deep.RegionWith
import Derived.Deep.RegionHeld3
import Derived.Laws.ShiftsVar
namespace Go.Proofs.Ytipmjhlhjnbhoaa.CrcW
open Go.RowKit Go.Mir

/-- an array of 32 words -/
structure IsMat (M : Array Value) (m : Nat → BitVec 32) : Prop where
  size : M.size = 32
  get : ∀ j, j < 32 → M[j]? = some (.int .u32 ((m j).toNat : Int))
theorem IsMat.one {M : Array Value} {m : Nat → BitVec 32} (h : IsMat M m) : M.all (·.oneCell') = true := by
  rw [Array.all_eq_true]
  intro i hi
  have := h.get i (by rw [← h.size]; exact hi)
  rw [Array.getElem?_eq_getElem hi] at this
  rw [Option.some.inj this]; rfl
def matOf (m : Nat → BitVec 32) : Array Value := ((List.range 32).map fun j => Value.int .u32 ((m j).toNat : Int)).toArray
theorem isMat_matOf (m : Nat → BitVec 32) : IsMat (matOf m) m := ⟨by simp [matOf], fun j hj => by simp [matOf, hj]⟩
theorem IsMat.set {M : Array Value} {m : Nat → BitVec 32} (h : IsMat M m) (k : Nat) (x : BitVec 32) (hk : k < 32) : IsMat (M.setIfInBounds k (.int .u32 (x.toNat : Int))) (fun j => if j = k then x else m j) :=
  ⟨by simp [h.size], fun j hj => by
    rw [Array.getElem?_setIfInBounds, h.size]
    by_cases e : k = j
    · subst e; simp [hk]
    · rw [if_neg e, h.get j hj, if_neg (Ne.symm e)]⟩
theorem IsMat.congr {M : Array Value} {m m' : Nat → BitVec 32} (h : IsMat M m) (e : ∀ j, j < 32 → m j = m' j) : IsMat M m' := ⟨h.size, fun j hj => by rw [h.get j hj, e j hj]⟩

theorem one_int (x : BitVec 32) (k : Nat) : bits BinOp.and IntKind.u32 ((x.toNat : Int) / 2 ^ k) 1 = if x.getLsbD k then 1 else 0 := by
  have e : ((x.toNat : Int) / 2 ^ k) = ((x.toNat / 2 ^ k : Nat) : Int) := by
    rw [Int.natCast_ediv, Int.natCast_pow]; rfl
  have hlt : x.toNat / 2 ^ k < 4294967296 := Nat.lt_of_le_of_lt (Nat.div_le_self _ _) x.isLt
  rw [e]
  have := u32_and_nat (x.toNat / 2 ^ k) 1 hlt (by omega)
  rw [show ((1 : Nat) : Int) = 1 from rfl] at this
  rw [this, Nat.and_one_is_mod, BitVec.getLsbD, Nat.testBit_eq_decide_div_mod_eq]
  by_cases h : x.toNat / 2 ^ k % 2 = 1
  · rw [h]; simp
  · have h0 : x.toNat / 2 ^ k % 2 = 0 := by omega
    rw [h0]; simp
theorem pick_int (out x m : BitVec 32) (k : Nat) : bits BinOp.xor IntKind.u32 (out.toNat : Int) ((m.toNat : Int) * bits BinOp.and IntKind.u32 ((x.toNat : Int) / 2 ^ k) 1 % 4294967296) = ((out ^^^ (if x.getLsbD k then m else 0#32)).toNat : Int) := by
  rw [one_int]
  have hm := m.isLt
  cases x.getLsbD k with
  | true =>
    simp only [if_true, Int.mul_one]
    rw [show ((m.toNat : Int) % 4294967296) = (m.toNat : Int) by omega, xor32]
  | false =>
    simp only [Bool.false_eq_true, if_false, Int.mul_zero]
    exact xor32 out 0#32

set_option maxRecDepth 100000 in
set_option maxHeartbeats 400000 in
theorem times_any (M : Array Value) (m : Nat → BitVec 32) (hM : IsMat M m) (s : BitVec 32) (w : World) :
    Calls Try.prog 21 #[.agg M, .int .u32 (s.toNat : Int)] w fun e w' => e = .returned (.int .u32 ((Crc.tm m s 32).toNat : Int)) ∧ Below w.heap.size w w' := by
  have hs := lt32 s
  have HM := Lib.hid hM
  clear hM
  go_enter Try.func21, Try.ntmps21
  go_wp2
  go_loopw [5, 7] (fun x j wr => ∃ k : Nat, k ≤ 32 ∧ j = .int .i64 k ∧ x = .int .u32 (Crc.tm m s k).toNat ∧ (∀ a, wr.cell? a = (w.alloc (.cells M 44)).cell? a) ∧ Below w.heap.size w wr) (fun _ j _ => 32 - (intOf j).toNat)
  case atStart => exact ⟨0, by omega, rfl, rfl, fun _ => rfl, Below.allocs _ _⟩
  case round =>
    obtain ⟨k, hk, rfl, rfl, hcw, hbl⟩ := hrel
    by_cases hlt : k < 32
    · have hd : decide ((k:Int) < 32) = true := by simp; omega
      have hc : wr.cell? ⟨w.heap.size, k, none⟩ = some (.int .u32 ((m k).toNat : Int)) := by
        rw [hcw, cell_alloc_new]; exact HM.out.get k hlt
      have HC := Lib.hid hcw
      have HB := Lib.hid hbl
      have hp := pick_int (Crc.tm m s k) s (m k) k
      have hS : Hid (Crc.tm m s (k+1) = Crc.tm m s k ^^^ (if s.getLsbD k then m k else 0#32)) := rfl
      rw [← hS.out] at hp
      have h1 := lt32 (m k)
      have h2 := lt32 (Crc.tm m s k)
      clear hcw hbl hS
      generalize Crc.tm m s k = X at *
      generalize hX' : Crc.tm m s (k+1) = X' at *
      have HX := Lib.hid hX'
      clear hX'
      generalize m k = mk at *
      go_wp2
      go_region
      all_goals go_wp2
      go_roundw
      case rel => exact ⟨k + 1, by omega, by go_num, by rw [HX.out], HC.out, HB.out.drew⟩
      case measure => simp [intOf]; omega
    · obtain rfl : k = 32 := by omega
      have HB := Lib.hid hbl
      clear hbl hcw
      generalize hX : Crc.tm m s 32 = X at *
      have HX := Lib.hid hX
      clear hX
      go_wp2
      go_ret
      exact ⟨congrArg (fun n : BitVec 32 => Ending.returned (.int .u32 (n.toNat : Int))) HX.out.symm, HB.out⟩

def Z32 : Array Value := Array.replicate 32 (.int .u32 0)
theorem zeroM (w : World) : (zeroValue 44).run Try.prog w = .ok (.agg Z32) w := by kernel_rfl
theorem sizeM : (Try.prog.info? 44).map (·.size) = some 32 := by kernel_rfl
theorem isMat_Z32 : IsMat Z32 (fun _ => 0#32) := ⟨by simp [Z32], fun j hj => by simp [Z32, hj]⟩

set_option maxRecDepth 100000 in
set_option maxHeartbeats 400000 in
theorem square_any (M : Array Value) (m : Nat → BitVec 32) (hM : IsMat M m) (w : World) :
    Calls Try.prog 22 #[.agg M] w fun e w' => (∃ N, IsMat N (fun j => Crc.tm m (m j) 32) ∧ e = .returned (.agg N)) ∧ Below w.heap.size w w' := by
  obtain ⟨L, rfl⟩ : ∃ L : List Value, M = L.toArray := ⟨M.toList, by simp⟩
  have hsz : (Try.prog.info? 44).map (·.size) = some L.length := by rw [sizeM]; have := hM.size; simp at this; rw [this]
  have HM := Lib.hid hM
  have HSZ := Lib.hid hsz
  have hun := Try.underlying44
  have HUN := Lib.hid hun
  clear hM hsz hun
  have hz := zeroM
  go_enter Try.func22, Try.ntmps22
  go_wp2
  go_loopw [5] (fun j wr => ∃ k : Nat, ∃ N, k ≤ 32 ∧ j = .int .i64 k ∧ wr.heap[w.heap.size]? = some (.cells L.toArray 44) ∧ wr.heap[w.heap.size+1]? = some (.cells Z32 44) ∧ wr.heap[w.heap.size+2]? = some (.cells N 44) ∧ IsMat N (fun j => if j < k then Crc.tm m (m j) 32 else 0#32) ∧ Below w.heap.size w wr) (fun j _ => 32 - (intOf j).toNat)
  case atStart =>
    refine ⟨0, Z32, by omega, rfl, ?_, ?_, ?_, isMat_Z32.congr (fun j _ => by simp), (((Below.refl _ _).alloc (Nat.le_refl _) _).alloc (by simp) _).alloc (by simp; omega) _⟩
    · exact block_old _ (heap_alloc2_old _ _ _)
    · exact block_old _ (heap_alloc2_new _ _ _)
    · have := heap_alloc_last ((w.alloc (.cells L.toArray 44)).alloc (.cells Z32 44)) (.cells Z32 44)
      simpa using this
  case round =>
    obtain ⟨k, N, hk, rfl, hb0, hb1, hb2, hN, hbl⟩ := hrel
    by_cases hlt : k < 32
    · have hd : decide ((k:Int) < 32) = true := by simp; omega
      have hk0 : (0 : Int) ≤ (k : Int) := by omega
      have hk1 : (k : Int) < 32 := by omega
      have keep : Hid (∀ w', Below wr.heap.size wr w' → w'.rangeAt w.heap.size 0 L ∧ w'.cell? ⟨w.heap.size, k, none⟩ = some (.int .u32 ((m k).toNat : Int)) ∧ w'.cell? ⟨w.heap.size + 2, k, none⟩ = some (cellOr w' ⟨w.heap.size + 2, k, none⟩) ∧ w'.frozen? ⟨w.heap.size + 2, k, none⟩ = false) := by
        intro w' hb
        have l0 := lt_of_block hb0
        have l2 := lt_of_block hb2
        refine ⟨fun j v hv => ?_, ?_, cellOr_eq ?_, ?_⟩
        · rw [hb.cell l0, cell_of_row _ _ _ _ _ _ hb0]; simpa using hv
        · rw [hb.cell l0, cell_of_row _ _ _ _ _ _ hb0]; exact HM.out.get k hlt
        · rw [hb.cell l2, cell_of_row _ _ _ _ _ _ hb2, hN.get k hlt]; rfl
        · rw [hb.frozen l2]; exact frozen_of_row _ _ k _ _ hb2
      have keep2 : Hid (∀ w' v, Below wr.heap.size wr w' → (w'.setCell ⟨w.heap.size + 2, k, none⟩ v).rangeAt w.heap.size 0 L ∧ (w'.setCell ⟨w.heap.size + 2, k, none⟩ v).cell? ⟨w.heap.size, k, none⟩ = some (.int .u32 ((m k).toNat : Int)) ∧ (w'.setCell ⟨w.heap.size + 2, k, none⟩ v).cell? ⟨w.heap.size + 2, k, none⟩ = some (cellOr (w'.setCell ⟨w.heap.size + 2, k, none⟩ v) ⟨w.heap.size + 2, k, none⟩) ∧ (w'.setCell ⟨w.heap.size + 2, k, none⟩ v).frozen? ⟨w.heap.size + 2, k, none⟩ = false) := by
        intro w' v hb
        have e0 := Below.keepOld hb hb0
        have e2 := Below.keepOld hb hb2
        have e0' : (w'.setCell ⟨w.heap.size + 2, k, none⟩ v).heap[w.heap.size]? = some (.cells L.toArray 44) := by rw [heap_setCell_other _ _ _ _ (by simp)]; exact e0
        have e2' := heap_setCell_same w' (w.heap.size + 2) k N 44 v e2
        refine ⟨fun j u hu => ?_, ?_, cellOr_eq ?_, ?_⟩
        · rw [cell_of_row _ _ _ _ _ _ e0']; simpa using hu
        · rw [cell_of_row _ _ _ _ _ _ e0']; exact HM.out.get k hlt
        · rw [cell_of_row _ _ _ _ _ _ e2', Array.getElem?_eq_getElem (by simp [hN.size, hlt])]; rfl
        · exact frozen_of_row _ _ k _ _ e2'
      have HB0 := Lib.hid hb0
      have HB1 := Lib.hid hb1
      have HB2 := Lib.hid hb2
      have HBL := Lib.hid hbl
      have HN := Lib.hid hN
      clear hb0 hb1 hb2 hbl hN
      go_wp2
      have hsz := HSZ.out
      have hun := HUN.out
      go_region_held3 (fun w' => w'.rangeAt w.heap.size 0 L ∧ w'.cell? ⟨w.heap.size, k, none⟩ = some (.int .u32 ((m k).toNat : Int)) ∧ w'.cell? ⟨w.heap.size + 2, k, none⟩ = some (cellOr w' ⟨w.heap.size + 2, k, none⟩) ∧ w'.frozen? ⟨w.heap.size + 2, k, none⟩ = false) (first | exact keep.out _ (Below.refl _ _).drew | exact keep2.out _ _ hbx | exact keep.out _ hbx | go_keep) ((go_at_call 21; refine (times_any L.toArray m HM.out _ _).mono ?_; rintro e w1 ⟨rfl, hb1⟩; have hbx := below_of_drew hb1; clear hb1))
      go_wp2
      go_roundw
      case rel =>
        have e0 := Below.keepOld hbx HB0.out
        have e1 := Below.keepOld hbx HB1.out
        have e2 := Below.keepOld hbx HB2.out
        refine ⟨k + 1, N.setIfInBounds k (.int .u32 ((Crc.tm m (m k) 32).toNat : Int)), by omega, by go_num, ?_, ?_, ?_, ?_, ?_⟩
        · rw [heap_setCell_other _ _ _ _ (by simp; omega)]; exact e0
        · rw [heap_setCell_other _ _ _ _ (by simp)]; exact e1
        · exact heap_setCell_same _ _ _ _ _ _ e2
        · refine (HN.out.set k _ hlt).congr (fun j hj => ?_)
          by_cases e : j = k
          · subst e; simp
          · have : (j < k + 1) ↔ (j < k) := by omega
            simp [e, this]
        · exact (HBL.out.trans (hbx.mono HBL.out.size)).setCell (by simp; omega) _
      case measure => simp [intOf]; omega
    · obtain rfl : k = 32 := by omega
      have hN' : IsMat N (fun j => Crc.tm m (m j) 32) := hN.congr (fun j hj => by simp [hj])
      have HN := Lib.hid hN'
      have hTs : (Try.prog.info? 44).map (·.size) = some N.size := by rw [sizeM, hN.size]
      have hTz : Z32.size = N.size := by rw [hN.size]; simp [Z32]
      have hT1 := hN.one
      clear hN hN' hz
      go_wp2_with (first | (refine wpList_load_row rfl 44 _ rfl _ rfl _ _ _ _ hb2 HUN.out rfl hTs ?_) | (refine wpList_store_row rfl 44 _ _ rfl _ _ rfl rfl _ _ hb1 hTs hTz hT1 ?_))
      refine bodyPost_ret (results_cell_row rfl _ _ _ _ _ _ _ rfl (setRow_heap _ _ _ _ _ _ hb1) HUN.out rfl hTs) rfl ⟨⟨N, HN.out, rfl⟩, ?_⟩
      exact hbl.trans ⟨rfl, rfl, rfl, by simp, fun k hk => setRow_other _ _ _ _ (by omega)⟩

theorem halve_any (b n : Nat) (hn : n < 18446744073709551616) (w : World) (hb : w.heap[b]? = some (.cells #[.int .u64 (n : Int)] 34 (0, 0))) :
    Calls Try.prog 20 #[.pointer (some ⟨b, 0, none⟩)] w fun e w' => e = .returned (.bool (decide (n % 2 = 1))) ∧ w.setCell ⟨b, 0, none⟩ (.int .u64 ((n / 2 : Nat) : Int)) = w' := by
  have hc := cell_of_one hb
  have hf := free_of_one hb
  have ha : bits BinOp.and IntKind.u64 (n : Int) 1 = ((n % 2 : Nat) : Int) := by
    have := u64_and_nat n 1 hn (by omega)
    rw [show ((1 : Nat) : Int) = 1 from rfl] at this
    rw [this, Nat.and_one_is_mod]
  by_cases h : n % 2 = 1
  · have h1 : (((n % 2 : Nat) : Int) == 1) = true := by rw [h]; rfl
    have hd : decide (n % 2 = 1) = true := by simp [h]
    rw [hd]
    have H := Lib.hid h
    clear h hd
    generalize n % 2 = r at *
    go_enter Try.func20, Try.ntmps20
    go_wp2
    go_ret
    exact ⟨rfl, rfl⟩
  · have h1 : (((n % 2 : Nat) : Int) == 1) = false := by rw [beq_eq_false_iff_ne]; omega
    have hd : decide (n % 2 = 1) = false := by simp [h]
    rw [hd]
    have H := Lib.hid h
    clear h hd
    generalize n % 2 = r at *
    go_enter Try.func20, Try.ntmps20
    go_wp2
    go_ret
    exact ⟨rfl, rfl⟩

theorem shl_int (k : Nat) : (2 : Int) ^ k % 4294967296 = ((1#32 <<< k).toNat : Int) := by
  rw [BitVec.toNat_shiftLeft, Nat.shiftLeft_eq]
  simp
theorem sq_mat (q : Nat) (j : Nat) : Crc.tm (fun i => Crc.iter Crc.step q (1#32 <<< i)) (Crc.iter Crc.step q (1#32 <<< j)) 32 = Crc.iter Crc.step (2 * q) (1#32 <<< j) := by
  rw [Crc.tm_all (Crc.lin_iter q), ← Crc.iter_add]; congr 1; omega

set_option maxRecDepth 100000 in
set_option maxHeartbeats 400000 in
theorem moved_any (s : BitVec 32) (n : Nat) (hn : n < 18446744073709551616) (w : World) :
    Calls Try.prog 14 #[.int .u32 (s.toNat : Int), .int .u64 (n : Int)] w fun e w' => e = .returned (.int .u32 ((Crc.iter Crc.step (8 * n) s).toNat : Int)) ∧ Below w.heap.size w w' := by
  have hz := zeroM
  have hs := lt32 s
  go_enter Try.func14, Try.ntmps14
  go_wp2
  go_loopw [8] (fun j wr => ∃ k : Nat, ∃ M, k ≤ 32 ∧ j = .int .i64 k ∧ wr.heap.size = w.heap.size + 2 ∧ wr.heap[w.heap.size]? = some (.cells #[.int .u64 (n : Int)] 34) ∧ wr.heap[w.heap.size+1]? = some (.cells M 44) ∧ IsMat M (fun j => if j < k then Crc.iter Crc.step 8 (1#32 <<< j) else 0#32) ∧ Below w.heap.size w wr) (fun j _ => 32 - (intOf j).toNat)
  case atStart =>
    exact ⟨0, Z32, by omega, rfl, by simp, heap_alloc2_old _ _ _, heap_alloc2_new _ _ _, isMat_Z32.congr (fun j _ => by simp), ((Below.refl _ _).alloc (Nat.le_refl _) _).alloc (by simp) _⟩
  case round =>
    obtain ⟨k, M, hk, rfl, hsz, hb0, hb1, hM, hbl⟩ := hrel
    by_cases hlt : k < 32
    · have hd : decide ((k:Int) < 32) = true := by simp; omega
      have hc : wr.cell? ⟨w.heap.size + 1, k, none⟩ = some (.int .u32 0) := by
        rw [cell_of_row _ _ _ _ _ _ hb1, hM.get k hlt]; simp
      have hf := frozen_of_row _ _ k _ _ hb1
      obtain ⟨wo, rfl⟩ : ∃ wo : World, wo = wr := ⟨_, rfl⟩
      go_wp2
      go_loopw [15] (fun j wr => ∃ i : Nat, ∃ M, i ≤ 8 ∧ j = .int .i64 i ∧ wr.heap.size = w.heap.size + 2 ∧ wr.heap[w.heap.size]? = some (.cells #[.int .u64 (n : Int)] 34) ∧ wr.heap[w.heap.size+1]? = some (.cells M 44) ∧ IsMat M (fun j => if j = k then Crc.iter Crc.step i (1#32 <<< k) else if j < k then Crc.iter Crc.step 8 (1#32 <<< j) else 0#32) ∧ Below w.heap.size w wr) (fun j _ => 8 - (intOf j).toNat)
      case atStart =>
        rw [shl_int]
        exact ⟨0, _, by omega, rfl, by simp [World.setCell, hsz], by rw [heap_setCell_other _ _ _ _ (by simp)]; exact hb0, heap_setCell_same _ _ _ _ _ _ hb1, hM.set k _ hlt, hbl.setCell (by simp) _⟩
      case round =>
        clear hb0 hb1 hbl hc hf hsz
        obtain ⟨i, M', hi, rfl, hsz, hb0, hb1, hM', hbl⟩ := hrel
        by_cases hlt' : i < 8
        · have hc : wr.cell? ⟨w.heap.size + 1, k, none⟩ = some (.int .u32 ((Crc.iter Crc.step i (1#32 <<< k)).toNat : Int)) := by
            rw [cell_of_row _ _ _ _ _ _ hb1, hM'.get k hlt]; simp
          have hf := frozen_of_row _ _ k _ _ hb1
          go_wp2_with (go_at_call 19; refine (step_any _ _).mono ?_; rintro e w' ⟨rfl, rfl⟩)
          go_roundw
          case rel =>
            refine ⟨i + 1, _, by omega, by go_num, by simp [World.setCell, hsz], by rw [heap_setCell_other _ _ _ _ (by simp)]; exact hb0, heap_setCell_same _ _ _ _ _ _ hb1, (hM'.set k (Crc.step (Crc.iter Crc.step i (1#32 <<< k))) hlt).congr (fun j hj => ?_), hbl.setCell (by simp) _⟩
            by_cases e : j = k
            · subst e; simp [Crc.iter]
            · simp [e]
          case measure => simp [intOf]; omega
        · obtain rfl : i = 8 := by omega
          go_wp2
          go_roundw
          case rel =>
            refine ⟨k + 1, M', by omega, by go_num, hsz, hb0, hb1, hM'.congr (fun j hj => ?_), hbl⟩
            by_cases e : j = k
            · subst e; simp
            · have : (j < k + 1) ↔ (j < k) := by omega
              simp [e, this]
          case measure => simp [intOf]; omega
    · have hd : decide ((k:Int) < 32) = false := by simp; omega
      have hM1 : IsMat M (fun j => Crc.iter Crc.step 8 (1#32 <<< j)) := hM.congr (fun j hj => by rw [if_pos (by omega)])
      clear hM hz
      obtain ⟨wo, rfl⟩ : ∃ wo : World, wo = wr := ⟨_, rfl⟩
      have hun := Lib.hid (Try.underlying44)
      have HF : Hid (Crc.iter Crc.step (8 * n) s = Crc.iter Crc.step (8 * n) s) := rfl
      clear HF
      go_wp2
      go_loopw [0] (fun x wr => ∃ (nn : Nat) (q : Nat) (y : BitVec 32) (M : Array Value), nn < 18446744073709551616 ∧ x = .int .u32 y.toNat ∧ wr.heap[w.heap.size]? = some (.cells #[.int .u64 (nn : Int)] 34) ∧ wr.heap[w.heap.size+1]? = some (.cells M 44) ∧ IsMat M (fun j => Crc.iter Crc.step q (1#32 <<< j)) ∧ Hid (Crc.iter Crc.step (q * nn) y = Crc.iter Crc.step (8 * n) s) ∧ Below w.heap.size w wr ∧ w.heap.size + 2 ≤ wr.heap.size) (fun _ wr => (intOf (cellOr wr ⟨w.heap.size, 0, none⟩)).toNat)
      case atStart => exact ⟨n, 8, s, M, hn, rfl, hb0, hb1, hM1, rfl, hbl, by omega⟩
      case round =>
        clear hb0 hb1 hbl hsz hM1
        obtain ⟨nn, q, y, M', hnn, rfl, hb0, hb1, hM', heq, hbl, hsz⟩ := hrel
        have hc0 := cell_of_one hb0
        have hco : cellOr wr ⟨w.heap.size, 0, none⟩ = .int .u64 (nn : Int) := by unfold cellOr; rw [hc0]; rfl
        rw [hco]
        clear hco
        by_cases hpos : 0 < nn
        · have hd : decide ((0 : Int) < nn) = true := by simp; omega
          have HB0 := Lib.hid hb0
          have HB1 := Lib.hid hb1
          have HM' := Lib.hid hM'
          have HBL := Lib.hid hbl
          clear hb0 hb1 hM' hbl
          have hy := lt32 y
          go_wp2_with fail
          refine (halve_any _ _ hnn _ HB0.out).mono ?_
          rintro e w1 ⟨rfl, hw1⟩
          have hs1 : w1.heap.size = wr.heap.size := by rw [← hw1]; simp [World.setCell]
          have HC0 : Hid (w1.heap[w.heap.size]? = some (.cells #[.int .u64 ((nn / 2 : Nat) : Int)] 34)) := by rw [← hw1]; exact one_setCell HB0.out
          have HC1 : Hid (w1.heap[w.heap.size+1]? = some (.cells M' 44)) := by rw [← hw1]; show _ = _; rw [heap_setCell_other _ _ _ _ (by simp)]; exact HB1.out
          have HCL : Hid (Below w.heap.size w w1) := by rw [← hw1]; exact HBL.out.setCell (by simp) _
          clear hw1 hc0
          by_cases hodd : nn % 2 = 1
          · have ho : decide (nn % 2 = 1) = true := by simp [hodd]
            rw [ho]
            clear ho
            have hsM : (Try.prog.info? 44).map (·.size) = some M'.size := by rw [sizeM, HM'.out.size]
            go_wp2_with (refine wpList_load_row rfl 44 _ rfl _ rfl _ _ _ _ HC1.out hun.out rfl hsM ?_)
            refine (times_any M' _ HM'.out y _).mono ?_
            rintro e w2 ⟨rfl, hb2⟩
            have HD0 := Lib.hid (Below.keepOld hb2 HC0.out)
            have HD1 := Lib.hid (Below.keepOld hb2 HC1.out)
            have HDL : Hid (Below w.heap.size w w2) := HCL.out.trans (hb2.mono HCL.out.size)
            have hs2 := hb2.size
            rw [Crc.tm_all (Crc.lin_iter q)]
            clear hb2
            go_wp2_with (refine wpList_load_row rfl 44 _ rfl _ rfl _ _ _ _ HD1.out hun.out rfl hsM ?_)
            refine (square_any M' _ HM'.out _).mono ?_
            rintro e w3 ⟨⟨N, hN, rfl⟩, hb3⟩
            have HE0 := Lib.hid (Below.keepOld hb3 HD0.out)
            have HE1 := Lib.hid (Below.keepOld hb3 HD1.out)
            have HEL : Hid (Below w.heap.size w w3) := HDL.out.trans (hb3.mono HDL.out.size)
            have hs3 := hb3.size
            have HN := Lib.hid hN
            have hTs : (Try.prog.info? 44).map (·.size) = some N.size := by rw [sizeM, hN.size]
            have hTz : M'.size = N.size := by rw [hN.size, HM'.out.size]
            have hT1 := hN.one
            clear hb3 hN
            go_wp2_with (refine wpList_store_row rfl 44 _ _ rfl _ _ rfl rfl _ _ HE1.out hTs hTz hT1 ?_; simp only [Act.put])
            go_roundw
            case rel =>
              refine ⟨nn / 2, 2 * q, _, N, by omega, rfl, ?_, setRow_heap _ _ _ _ _ _ HE1.out, HN.out.congr (fun j hj => sq_mat q j), ?_, ?_, ?_⟩
              · rw [setRow_other _ _ _ _ (by omega)]; exact HE0.out
              · show _ = _
                rw [← heq.out, ← Crc.iter_add]
                congr 1
                have : nn = 2 * (nn / 2) + 1 := by omega
                generalize nn / 2 = h at *
                rw [this, Nat.mul_add, ← Nat.mul_assoc, Nat.mul_comm q 2, Nat.mul_one]
              · exact HEL.out.trans ⟨rfl, rfl, rfl, by simp, fun k hk => setRow_other _ _ _ _ (by omega)⟩
              · simp; omega
            case measure =>
              have e0 : (w3.setRow (w.heap.size + 1) N).heap[w.heap.size]? = some (.cells #[.int .u64 ((nn / 2 : Nat) : Int)] 34) := by
                rw [setRow_other _ _ _ _ (by omega)]; exact HE0.out
              have e1 : cellOr (w3.setRow (w.heap.size + 1) N) ⟨w.heap.size, 0, none⟩ = .int .u64 ((nn / 2 : Nat) : Int) := by unfold cellOr; rw [cell_of_one e0]; rfl
              rw [e1]; simp only [intOf, Int.toNat_natCast]; omega
          · have ho : decide (nn % 2 = 1) = false := by simp [hodd]
            rw [ho]
            clear ho
            have hsM : (Try.prog.info? 44).map (·.size) = some M'.size := by rw [sizeM, HM'.out.size]
            go_wp2_with (refine wpList_load_row rfl 44 _ rfl _ rfl _ _ _ _ HC1.out hun.out rfl hsM ?_)
            refine (square_any M' _ HM'.out _).mono ?_
            rintro e w3 ⟨⟨N, hN, rfl⟩, hb3⟩
            have HE0 := Lib.hid (Below.keepOld hb3 HC0.out)
            have HE1 := Lib.hid (Below.keepOld hb3 HC1.out)
            have HEL : Hid (Below w.heap.size w w3) := HCL.out.trans (hb3.mono HCL.out.size)
            have hs3 := hb3.size
            have HN := Lib.hid hN
            have hTs : (Try.prog.info? 44).map (·.size) = some N.size := by rw [sizeM, hN.size]
            have hTz : M'.size = N.size := by rw [hN.size, HM'.out.size]
            have hT1 := hN.one
            clear hb3 hN
            go_wp2_with (refine wpList_store_row rfl 44 _ _ rfl _ _ rfl rfl _ _ HE1.out hTs hTz hT1 ?_; simp only [Act.put])
            go_roundw
            case rel =>
              refine ⟨nn / 2, 2 * q, _, N, by omega, rfl, ?_, setRow_heap _ _ _ _ _ _ HE1.out, HN.out.congr (fun j hj => sq_mat q j), ?_, ?_, ?_⟩
              · rw [setRow_other _ _ _ _ (by omega)]; exact HE0.out
              · show _ = _
                rw [← heq.out]
                congr 1
                have : nn = 2 * (nn / 2) := by omega
                generalize nn / 2 = h at *
                rw [this, ← Nat.mul_assoc, Nat.mul_comm q 2]
              · exact HEL.out.trans ⟨rfl, rfl, rfl, by simp, fun k hk => setRow_other _ _ _ _ (by omega)⟩
              · simp; omega
            case measure =>
              have e0 : (w3.setRow (w.heap.size + 1) N).heap[w.heap.size]? = some (.cells #[.int .u64 ((nn / 2 : Nat) : Int)] 34) := by
                rw [setRow_other _ _ _ _ (by omega)]; exact HE0.out
              have e1 : cellOr (w3.setRow (w.heap.size + 1) N) ⟨w.heap.size, 0, none⟩ = .int .u64 ((nn / 2 : Nat) : Int) := by unfold cellOr; rw [cell_of_one e0]; rfl
              rw [e1]; simp only [intOf, Int.toNat_natCast]; omega
        · obtain rfl : nn = 0 := by omega
          have HE := heq
          have HBL := Lib.hid hbl
          clear heq hbl hb0 hb1 hM'
          go_wp2
          go_ret
          refine ⟨?_, HBL.out⟩
          have := HE.out
          rw [Nat.mul_zero] at this
          exact congrArg (fun n : BitVec 32 => Ending.returned (.int .u32 (n.toNat : Int))) this

theorem join_any (a b : BitVec 32) (n : Nat) (hn : n < 18446744073709551616) (w : World) :
    Calls Try.prog 15 #[.int .u32 (a.toNat : Int), .int .u32 (b.toNat : Int), .int .u64 (n : Int)] w fun e w' => e = .returned (.int .u32 ((Crc.iter Crc.step (8 * n) a ^^^ b).toNat : Int)) ∧ Below w.heap.size w w' := by
  have hb := lt32 b
  have hx := Lib.hid (xor32 (Crc.iter Crc.step (8 * n) a) b)
  go_enter Try.func15, Try.ntmps15
  go_wp2_with fail
  refine (moved_any a n hn _).mono ?_
  rintro e w1 ⟨rfl, hb1⟩
  have hl := lt32 (Crc.iter Crc.step (8 * n) a)
  go_wp2_with fail
  go_ret
  exact ⟨congrArg (fun n => Ending.returned (.int .u32 n)) hx.out, hb1⟩

end Go.Proofs.Ytipmjhlhjnbhoaa.CrcW
