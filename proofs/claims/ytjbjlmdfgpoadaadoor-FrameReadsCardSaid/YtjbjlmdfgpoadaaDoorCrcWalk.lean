/- THE WALKS OF CRC: what each function of the package crc, and of its reference, computes. Conditions: slices read as lists of bytes. -/
import Derived.Test.YtjbjlmdfgpoadaaDoorLib
import Derived.Test.YtjbjlmdfgpoadaaDoorCrcPlain
import Derived.Test.YtjbjlmdfgpoadaaDoorProg
namespace Go.Proofs.YtjbjlmdfgpoadaaDoor.CrcW
open Go.RowKit Go.Mir

def w32 (x : BitVec 32) : Value := .int .u32 (x.toNat : Int)
theorem lt32 (x : BitVec 32) : x.toNat < 4294967296 := x.isLt
theorem xor32 (x y : BitVec 32) : bits .xor .u32 (x.toNat : Int) (y.toNat : Int) = ((x ^^^ y).toNat : Int) := by
  rw [u32_xor_nat _ _ x.isLt y.isLt, BitVec.toNat_xor]
theorem shr32 (x : BitVec 32) (k : Nat) : ((x.toNat : Int) / ((2 ^ k : Nat) : Int)) = ((x >>> k).toNat : Int) := by
  rw [BitVec.toNat_ushiftRight, Nat.shiftRight_eq_div_pow]; rfl
theorem odd32 (x : BitVec 32) : x.getLsbD 0 = decide (x.toNat % 2 = 1) := by
  simp only [BitVec.getLsbD, Nat.testBit_zero]
theorem step_int (x : BitVec 32) : bits BinOp.xor IntKind.u32 ((x.toNat : Int) / 2) (2197175160 * bits BinOp.and IntKind.u32 (x.toNat : Int) 1 % 4294967296) = ((Crc.step x).toNat : Int) := by
  have h1 : bits BinOp.and IntKind.u32 (x.toNat : Int) 1 = ((x.toNat % 2 : Nat) : Int) := by
    have := u32_and_nat x.toNat 1 x.isLt (by omega)
    rw [show ((1 : Nat) : Int) = 1 from rfl] at this
    rw [this, Nat.and_one_is_mod]
  rw [h1]
  have h2 := shr32 x 1
  rw [show ((2 ^ 1 : Nat) : Int) = 2 from rfl] at h2
  rw [h2]
  unfold Crc.step
  rw [odd32]
  by_cases h : x.toNat % 2 = 1
  · rw [h]
    simp only [decide_true, if_true]
    rw [← xor32]; rfl
  · have h0 : x.toNat % 2 = 0 := by omega
    rw [h0]
    simp only [show (0 = 1) = False from by simp, decide_false, Bool.false_eq_true, if_false]
    rw [← xor32]; rfl

theorem step_any (x : BitVec 32) (w : World) :
    Calls Tryd.prog 50 #[.int .u32 (x.toNat : Int)] w fun e w' => e = .returned (.int .u32 ((Crc.step x).toNat : Int)) ∧ w = w' := by
  have hx := lt32 x
  have hs := Lib.hid (step_int x)
  go_enter Tryd.func50, Tryd.ntmps50
  go_wp2
  go_ret
  exact ⟨congrArg (fun n => Ending.returned (.int .u32 n)) hs.out, rfl⟩

theorem move_any (x : BitVec 32) (w : World) :
    Calls Tryd.prog 51 #[.int .u32 (x.toNat : Int)] w fun e w' => e = .returned (.int .u32 ((Crc.step x).toNat : Int)) ∧ w = w' := by
  have hx := lt32 x
  have h2 := shr32 x 1
  rw [show ((2 ^ 1 : Nat) : Int) = 2 from rfl] at h2
  have hs : Hid (Crc.step x = x >>> 1 ^^^ if x.toNat % 2 = 1 then Crc.poly else 0#32) := by
    show Crc.step x = _
    unfold Crc.step; rw [odd32]; simp
  have H2 := Lib.hid h2
  have hx2 := Lib.hid (xor32 (x >>> 1) Crc.poly)
  clear h2
  by_cases h : x.toNat % 2 = 1
  · have hb : ((x.toNat : Int) % 2 == 1) = true := by rw [beq_iff_eq]; omega
    go_enter Tryd.func51, Tryd.ntmps51
    go_wp2
    go_ret
    refine ⟨congrArg (fun n => Ending.returned (.int .u32 n)) ?_, rfl⟩
    rw [hs.out, if_pos h, ← hx2.out, H2.out.symm]; rfl
  · have hb : ((x.toNat : Int) % 2 == 1) = false := by rw [beq_eq_false_iff_ne]; omega
    go_enter Tryd.func51, Tryd.ntmps51
    go_wp2
    go_ret
    refine ⟨congrArg (fun n => Ending.returned (.int .u32 n)) ?_, rfl⟩
    rw [hs.out, if_neg h, BitVec.xor_zero, H2.out.symm]

/-! ### the table -/
def tabArr (k : Nat) : Array Value := ((List.range 256).map fun j => Value.int .u32 (if j < k then ((Crc.tab j).toNat : Int) else 0)).toArray
theorem tabArr_size (k : Nat) : (tabArr k).size = 256 := by simp [tabArr]
theorem tabArr_get (k j : Nat) (hj : j < 256) : (tabArr k)[j]? = some (Value.int .u32 (if j < k then ((Crc.tab j).toNat : Int) else 0)) := by
  simp [tabArr, hj]
theorem tabArr_set (k : Nat) (hk : k < 256) : (tabArr k).setIfInBounds k (.int .u32 ((Crc.tab k).toNat : Int)) = tabArr (k+1) := by
  apply Array.ext_getElem?
  intro j
  by_cases hj : j < 256
  · rw [Array.getElem?_setIfInBounds, tabArr_get _ _ hj, tabArr_get _ _ hj, tabArr_size]
    split
    · subst_vars; simp [hj]
    · have : (j < k) ↔ (j < k + 1) := by omega
      simp [this]
  · rw [Array.getElem?_eq_none, Array.getElem?_eq_none] <;> (simp [tabArr_size]; try omega)
def Z256 : Array Value := Array.replicate 256 (.int .u32 0)
theorem tabArr_0 : tabArr 0 = Z256 := by
  apply Array.ext_getElem?
  intro j
  by_cases hj : j < 256
  · rw [tabArr_get _ _ hj]; simp [Z256, hj]
  · rw [Array.getElem?_eq_none, Array.getElem?_eq_none] <;> simp [tabArr_size, Z256] <;> omega
theorem zeroT (w : World) : (zeroValue 79).run Tryd.prog w = .ok (.agg Z256) w := by kernel_rfl
theorem sizeT : (Tryd.prog.info? 79).map (·.size) = some 256 := by kernel_rfl

/-- what is known of the whole table, under a name of its own -/
structure IsTab (T : Array Value) : Prop where
  size : T.size = 256
  get : ∀ j, j < 256 → T[j]? = some (.int .u32 ((Crc.tab j).toNat : Int))
  one : T.all (·.oneCell') = true
theorem isTab : IsTab (tabArr 256) := ⟨tabArr_size _, fun j hj => by rw [tabArr_get _ _ hj, if_pos hj], by simp [tabArr, Value.oneCell']⟩

set_option maxRecDepth 100000 in
set_option maxHeartbeats 400000 in
theorem table_any (w : World) :
    Calls Tryd.prog 42 #[] w fun e w' => (∃ T, IsTab T ∧ e = .returned (.agg T)) ∧ Below w.heap.size w w' := by
  have hz := zeroT
  go_enter Tryd.func42, Tryd.ntmps42
  go_wp2
  go_loopw [4] (fun i wr => ∃ k : Nat, k ≤ 256 ∧ i = .int .i64 k ∧ wr.heap.size = w.heap.size + 2 ∧ wr.heap[w.heap.size]? = some (.cells Z256 79 (0,0)) ∧ wr.heap[w.heap.size+1]? = some (.cells (tabArr k) 79 (0,0)) ∧ Below w.heap.size w wr) (fun i _ => 256 - (intOf i).toNat)
  case atStart =>
    refine ⟨0, by omega, rfl, by simp, ?_, ?_, ((Below.refl _ _).alloc (Nat.le_refl _) _).alloc (by simp) _⟩
    · exact heap_alloc2_old _ _ _
    · rw [tabArr_0]; exact heap_alloc2_new _ _ _
  case round =>
    obtain ⟨k, hk, rfl, hsz, hb0, hb1, hbl⟩ := hrel
    by_cases hlt : k < 256
    · have hd : decide ((k:Int) < 256) = true := by simp; omega
      have hkk : (BitVec.ofNat 32 k).toNat = k := by rw [BitVec.toNat_ofNat]; omega
      go_wp2
      go_loop [3, 9] (fun x j => ∃ m : Nat, m ≤ 8 ∧ j = .int .i64 m ∧ x = .int .u32 (Crc.iter Crc.step m (BitVec.ofNat 32 k)).toNat) (fun _ j => 8 - (intOf j).toNat)
      case atStart => exact ⟨0, by omega, rfl, by rw [Crc.iter, hkk]⟩
      case round =>
        obtain ⟨m, hm, rfl, rfl⟩ := hrel
        clear hkk
        by_cases hlt' : m < 8
        · go_wp2_with (go_at_call 50; refine (step_any _ _).mono ?_; rintro e w' ⟨rfl, rfl⟩)
          go_round
          case rel => exact ⟨m + 1, by omega, by go_num, rfl⟩
          case measure => simp [intOf]; omega
        · have hc : wr.cell? ⟨w.heap.size + 1, k, none⟩ = some (.int .u32 0) := by
            rw [cell_of_row _ _ _ _ _ _ hb1, tabArr_get _ _ hlt]; simp
          have hf := frozen_of_row _ _ k _ _ hb1
          have hm8 : m = 8 := by omega
          subst hm8
          go_wp2
          go_roundw
          case rel =>
            refine ⟨k + 1, by omega, by go_num, by simp [World.setCell, hsz], ?_, ?_, hbl.setCell (by simp) _⟩
            · rw [heap_setCell_other _ _ _ _ (by simp)]; exact hb0
            · rw [heap_setCell_same _ _ _ _ _ _ hb1]; exact congrArg (fun c => some (Obj.cells c 79)) (tabArr_set k hlt)
          case measure => simp [intOf]; omega
    · have hk : k = 256 := by omega
      subst hk
      obtain ⟨T, hT, hT2⟩ : ∃ T, T = tabArr 256 ∧ IsTab T := ⟨_, rfl, isTab⟩
      rw [← hT] at hb1
      have hTs : (Tryd.prog.info? 79).map (·.size) = some T.size := by rw [sizeT, hT2.size]
      have hTz : Z256.size = T.size := by rw [hT2.size]; simp [Z256]
      have hT1 := hT2.one
      have HT : Hid (IsTab T) := hT2
      clear hT hz hT2
      go_wp2_with (first | (refine wpList_load_row rfl 79 _ rfl _ rfl _ _ _ _ hb1 Tryd.underlying79 rfl hTs ?_) | (refine wpList_store_row rfl 79 _ _ rfl _ _ rfl rfl _ _ hb0 hTs hTz hT1 ?_))
      refine bodyPost_ret (results_cell_row rfl _ _ _ _ _ _ _ rfl (setRow_heap _ _ _ _ _ _ hb0) Tryd.underlying79 rfl hTs) rfl ⟨⟨T, HT.out, rfl⟩, ?_⟩
      exact hbl.trans ⟨rfl, rfl, rfl, by simp, fun k hk => setRow_other _ _ _ _ (by omega)⟩

theorem idx_int (s : BitVec 32) (b : UInt8) : bits BinOp.xor IntKind.u8 ((s.toNat : Int) % 256) (b.toNat : Int) = (((s.toNat % 256) ^^^ b.toNat : Nat) : Int) := by
  have hb := b.toNat_lt
  have := u8_xor_nat (s.toNat % 256) b.toNat (by omega) (by omega)
  rw [← this]; congr 1
theorem idx_lt (s : BitVec 32) (b : UInt8) : (s.toNat % 256) ^^^ b.toNat < 256 := Nat.xor_lt_two_pow (n := 8) (by omega) b.toNat_lt
theorem upd_int (s : BitVec 32) (b : UInt8) : bits BinOp.xor IntKind.u32 ((s.toNat : Int) / 256) ((Crc.tab ((s.toNat % 256) ^^^ b.toNat)).toNat : Int) = ((Crc.iter Crc.step 8 (s ^^^ Crc.byteW b)).toNat : Int) := by
  have h2 := shr32 s 8
  rw [show ((2 ^ 8 : Nat) : Int) = 256 from rfl] at h2
  rw [h2, xor32, Crc.tab_step]
theorem take_snoc {α : Type} (l : List α) (k : Nat) (h : k < l.length) : l.take (k + 1) = l.take k ++ [l[k]] := by
  rw [List.take_succ_eq_append_getElem h]

set_option maxRecDepth 100000 in
set_option maxHeartbeats 400000 in
theorem run_any (s : BitVec 32) (p : Option Addr) (n c : Nat) (ls : List (List UInt8)) (w : World) (h : Pts w p n c ls) :
    Calls Tryd.prog 33 #[.int .u32 (s.toNat : Int), .slice p n c] w fun e w' => e = .returned (.int .u32 ((Crc.more s ls.flatten).toNat : Int)) ∧ Below w.heap.size w w' := by
  have hz := zeroT
  have hs := lt32 s
  obtain ⟨s1, hs1⟩ : ∃ s1, s1 = s ^^^ Crc.ones := ⟨_, rfl⟩
  have hx : bits .xor .u32 (s.toNat : Int) 4294967295 = (s1.toNat : Int) := by rw [hs1]; exact xor32 s Crc.ones
  have HS1 := Lib.hid hs1
  clear hs1
  have hle := h.le
  have hmax := h.max
  have hn := h.len
  go_enter Tryd.func33, Tryd.ntmps33
  go_wp2_with (first | (go_at_call 42; refine (table_any _).mono ?_; rintro e w1 ⟨⟨T, hT, rfl⟩, hb1⟩; have hTs : (Tryd.prog.info? 79).map (·.size) = some T.size := (by rw [sizeT, hT.size]); have hTz : Z256.size = T.size := (by rw [hT.size]; simp [Z256]); have hT1 := hT.one; have HT := Lib.hid hT; have HB1 := Lib.hid hb1; clear hT hb1) | (refine wpList_store_row rfl 79 _ _ rfl _ _ rfl rfl _ _ (heap_alloc_last _ _) hTs hTz hT1 ?_; simp only [World.setRow_alloc_new]))
  clear hTs hTz hT1 hz hx
  have h1 := h.below HB1.out
  have hT3 : ∀ i, i < 256 → (w1.alloc (.cells T 79)).cell? ⟨w1.heap.size, i, none⟩ = some (.int .u32 ((Crc.tab i).toNat : Int)) := fun i hi => by
    rw [cell_of_row _ _ _ _ _ _ (heap_alloc_last _ _)]; exact HT.out.get i hi
  have h2 : Pts (w1.alloc (.cells T 79)) p n c ls := h1.below ((Below.refl _ _).alloc (Nat.le_refl _) _)
  have HT3 := Lib.hid hT3
  have HB2 : Hid (Below w.heap.size w (w1.alloc (.cells T 79))) := HB1.out.alloc HB1.out.size _
  clear hT3 h1
  generalize w1.alloc (.cells T 79) = w2 at *
  go_loop [0, 15] (fun x j => ∃ k : Nat, k ≤ n ∧ j = .int .i64 k ∧ x = .int .u32 (Crc.run s1 (ls.take k).flatten).toNat) (fun _ j => n - (intOf j).toNat)
  case atStart => exact ⟨0, by omega, rfl, rfl⟩
  case round =>
    obtain ⟨k, hk, rfl, rfl⟩ := hrel
    by_cases hlt : k < n
    · have hd : decide ((k:Int) < n) = true := by simp; omega
      obtain ⟨b, o, rfl⟩ := h2.addr (by omega)
      obtain ⟨q, m, d, hc, hB⟩ := h2.cell _ rfl k (by omega)
      rw [add_none] at hc
      have hmle := hB.le
      have hmmax := hB.max
      have hml := hB.length
      have htk := Lib.hid (take_snoc ls k (by omega))
      generalize hl : ls[k] = l at *
      go_wp2
      go_loop [0, 21] (fun x j => ∃ i : Nat, i ≤ m ∧ j = .int .i64 i ∧ x = .int .u32 (Crc.run (Crc.run s1 (ls.take k).flatten) (l.take i)).toNat) (fun _ j => m - (intOf j).toNat)
      case atStart => exact ⟨0, by omega, rfl, rfl⟩
      case round =>
        obtain ⟨i, hi, rfl, rfl⟩ := hrel
        by_cases hlt' : i < m
        · obtain ⟨b', o', rfl⟩ := hB.addr (by omega) (by omega)
          have hc' := hB.byte (j := i) (by omega)
          have hti := Lib.hid (take_snoc l i (by omega))
          have hll : l[i].toNat < 256 := l[i].toNat_lt
          generalize hly : l[i] = y at *
          clear hly
          have hid := idx_int (Crc.run (Crc.run s1 (ls.take k).flatten) (l.take i)) y
          have hil := idx_lt (Crc.run (Crc.run s1 (ls.take k).flatten) (l.take i)) y
          have hup := upd_int (Crc.run (Crc.run s1 (ls.take k).flatten) (l.take i)) y
          have hsn := Crc.run_snoc (Crc.run s1 (ls.take k).flatten) (l.take i) y
          rw [← hti.out] at hsn
          rw [← hsn] at hup
          have hct := HT3.out _ hil
          clear hsn
          generalize Crc.run (Crc.run s1 (ls.take k).flatten) (l.take i) = S at *
          generalize hS' : Crc.run (Crc.run s1 (ls.take k).flatten) (l.take (i+1)) = S' at *
          have HS' := Lib.hid hS'
          clear hS'
          have hS := lt32 S
          generalize (S.toNat % 256) ^^^ y.toNat = id at *
          go_wp2
          go_round
          case rel => exact ⟨i + 1, by omega, by go_num, by rw [HS'.out]⟩
          case measure => simp [intOf]; omega
        · have him : i = l.length := by omega
          rw [him, List.take_length]
          go_wp2
          go_round
          case rel => exact ⟨k + 1, by omega, by go_num, by rw [htk.out, List.flatten_append, Crc.run_append, List.flatten_singleton]⟩
          case measure => simp [intOf]; omega
    · have hk' : k = ls.length := by omega
      rw [hk', List.take_length]
      have hfin : Crc.more s ls.flatten = Crc.run s1 ls.flatten ^^^ Crc.ones := by rw [HS1.out]; rfl
      have hx := xor32 (Crc.run s1 ls.flatten) Crc.ones
      rw [← hfin] at hx
      have hx' : bits .xor .u32 ((Crc.run s1 ls.flatten).toNat : Int) 4294967295 = ((Crc.more s ls.flatten).toNat : Int) := hx
      have hS := lt32 (Crc.run s1 ls.flatten)
      clear hx hfin
      generalize Crc.run s1 ls.flatten = S at *
      generalize hR : Crc.more s ls.flatten = R at *
      have HR := Lib.hid hR
      clear hR
      go_wp2
      go_ret
      exact ⟨congrArg (fun n : BitVec 32 => Ending.returned (.int .u32 (n.toNat : Int))) HR.out.symm, HB2.out⟩

theorem of_any (p : Option Addr) (n c : Nat) (ls : List (List UInt8)) (w : World) (h : Pts w p n c ls) :
    Calls Tryd.prog 21 #[.slice p n c] w fun e w' => e = .returned (.int .u32 ((Crc.more 0#32 ls.flatten).toNat : Int)) ∧ Below w.heap.size w w' := by
  have hle := h.le
  have hmax := h.max
  have hr := run_any 0#32 p n c ls w h
  have HR := Lib.hid hr
  clear hr
  go_enter Tryd.func21, Tryd.ntmps21
  go_wp2_with (go_at_call 33; refine (HR.out).mono ?_; rintro e w1 ⟨rfl, hb1⟩)
  go_ret
  exact ⟨rfl, hb1⟩

set_option maxRecDepth 100000 in
set_option maxHeartbeats 400000 in
theorem refMore_any (s : BitVec 32) (p : Option Addr) (n c : Nat) (l : List UInt8) (w : World) (h : Bs w p n c l) :
    Calls Tryd.prog 43 #[.int .u32 (s.toNat : Int), .slice p n c] w fun e w' => e = .returned (.int .u32 ((Crc.more s l).toNat : Int)) ∧ w = w' := by
  have hs := lt32 s
  obtain ⟨s1, hs1⟩ : ∃ s1, s1 = s ^^^ Crc.ones := ⟨_, rfl⟩
  have hx : bits .xor .u32 (s.toNat : Int) 4294967295 = (s1.toNat : Int) := by rw [hs1]; exact xor32 s Crc.ones
  have HS1 := Lib.hid hs1
  clear hs1
  have hle := h.le
  have hmax := h.max
  have hn := h.length
  go_enter Tryd.func43, Tryd.ntmps43
  go_wp2
  clear hx
  go_loop [0, 5] (fun x j => ∃ k : Nat, k ≤ n ∧ j = .int .i64 k ∧ x = .int .u32 (Crc.run s1 (l.take k)).toNat) (fun _ j => n - (intOf j).toNat)
  case atStart => exact ⟨0, by omega, rfl, rfl⟩
  case round =>
    obtain ⟨k, hk, rfl, rfl⟩ := hrel
    by_cases hlt : k < n
    · have hd : decide ((k:Int) < n) = true := by simp; omega
      obtain ⟨b', o', rfl⟩ := h.addr (by omega) (by omega)
      have hc' := h.byte (j := k) (by omega)
      have hti := Lib.hid (take_snoc l k (by omega))
      have hll : l[k].toNat < 256 := l[k].toNat_lt
      generalize hly : l[k] = y at *
      clear hly
      have hsn := Lib.hid (Crc.run_snoc s1 (l.take k) y)
      have hup := xor32 (Crc.run s1 (l.take k)) (Crc.byteW y)
      rw [Crc.byteW_toNat] at hup
      have hS := lt32 (Crc.run s1 (l.take k))
      generalize hS0 : Crc.run s1 (l.take k) = S at *
      have HS0 := Lib.hid hS0
      clear hS0
      generalize hS1 : S ^^^ Crc.byteW y = S1 at *
      have HS1' := Lib.hid hS1
      clear hS1
      go_wp2
      go_loop [0, 6] (fun x j => ∃ i : Nat, i ≤ 8 ∧ j = .int .i64 i ∧ x = .int .u32 (Crc.iter Crc.step i S1).toNat) (fun _ j => 8 - (intOf j).toNat)
      case atStart => exact ⟨0, by omega, rfl, rfl⟩
      case round =>
        obtain ⟨i, hi, rfl, rfl⟩ := hrel
        by_cases hlt' : i < 8
        · go_wp2_with (go_at_call 51; refine (move_any _ _).mono ?_; rintro e w' ⟨rfl, rfl⟩)
          go_round
          case rel => exact ⟨i + 1, by omega, by go_num, rfl⟩
          case measure => simp [intOf]; omega
        · obtain rfl : i = 8 := by omega
          go_wp2
          go_round
          case rel => exact ⟨k + 1, by omega, by go_num, by rw [hti.out, hsn.out]⟩
          case measure => simp [intOf]; omega
    · have hk' : k = l.length := by omega
      rw [hk', List.take_length]
      have hfin : Crc.more s l = Crc.run s1 l ^^^ Crc.ones := by rw [HS1.out]; rfl
      have hx := xor32 (Crc.run s1 l) Crc.ones
      rw [← hfin] at hx
      have hx' : bits .xor .u32 ((Crc.run s1 l).toNat : Int) 4294967295 = ((Crc.more s l).toNat : Int) := hx
      have hS := lt32 (Crc.run s1 l)
      clear hx hfin
      generalize Crc.run s1 l = S at *
      generalize hR : Crc.more s l = R at *
      have HR := Lib.hid hR
      clear hR
      go_wp2
      go_ret
      exact ⟨congrArg (fun n : BitVec 32 => Ending.returned (.int .u32 (n.toNat : Int))) HR.out.symm, rfl⟩

theorem refOf_any (p : Option Addr) (n c : Nat) (l : List UInt8) (w : World) (h : Bs w p n c l) :
    Calls Tryd.prog 35 #[.slice p n c] w fun e w' => e = .returned (.int .u32 ((Crc.more 0#32 l).toNat : Int)) ∧ w = w' := by
  have hle := h.le
  have hmax := h.max
  have hr := Lib.hid (refMore_any 0#32 p n c l w h)
  go_enter Tryd.func35, Tryd.ntmps35
  go_wp2_with (go_at_call 43; refine (hr.out).mono ?_; rintro e w1 ⟨rfl, rfl⟩)
  go_ret
  exact ⟨rfl, rfl⟩

theorem alive1 : (Crc.more 0#32 [[49, 50, 51, 52, 53], [54, 55, 56, 57]].flatten).toNat = 3808858755 := by decide +kernel
theorem alive2 : (Crc.more 0#32 ([] : List (List UInt8)).flatten).toNat = 0 := by decide +kernel
end Go.Proofs.YtjbjlmdfgpoadaaDoor.CrcW
