/- MESSAGES: which may be, the program's and the reference's. Conditions: none. -/
import Derived.Test.YtmjdpfmofbbknaaDoorMsg2
import Derived.BigRegion
import Derived.Test.YtmjdpfmofbbknaaDoorRow
import Derived.Test.YtmjdpfmofbbknaaDoorTree
namespace Go.Proofs.YtmjdpfmofbbknaaDoor.Msg
open Go.RowKit Go.Mir Go.Mir.Parts Wr Cod

theorem zeroF (w : World) : (zeroValue 48).run Tryd.prog w = .ok (.agg (fldA 0 0 0 0 z16)) w := by kernel_rfl
theorem built_fld2 (k : Int) (s : Nat) : Tryd.prog.built 48 [(0, .int .i64 k), (1, .int .u32 (s : Int))] = some (fldA k s 0 0 z16) := by kernel_rfl
theorem sizeF (cs : Array Value) (h : cs.size = 20) : (Tryd.prog.info? 48).map (·.size) = some cs.size := by rw [h]; kernel_rfl
theorem fldA_one (k : Int) (s q o : Nat) (h : List UInt8) : (fldA k s q o h).all (·.oneCell') = true := by
  unfold fldA
  refine all_oneCell_toArray fun v hv => ?_
  simp only [fldL, List.mem_append, List.mem_cons, List.not_mem_nil, or_false] at hv
  rcases hv with (rfl | rfl | rfl | rfl) | hv <;> first | rfl | exact bytesV_one _ _ hv
theorem z16_len : z16.length = 16 := rfl
/-- the three rows of Right -/
structure RtW (w x : World) (m : MsgD) (p : Option Addr) (c : Nat) (k : Int) (s q o : Nat) (h : List UInt8) : Prop where
  r0 : x.heap[w.heap.size]? = some (.cells (msgA m p c) 28 (0, 0))
  r1 : x.heap[w.heap.size + 1]? = some (.cells (fldA m.kind m.ses m.seq m.quo m.hint) 48 (0, 0))
  r2 : x.heap[w.heap.size + 2]? = some (.cells (fldA k s q o h) 48 (0, 0))
  low : Below w.heap.size w x
theorem fld_cells {x : World} {g : Nat} {k : Int} {s q o : Nat} {h : List UInt8} {t : TypeId} (hr : x.heap[g]? = some (.cells (fldA k s q o h) t (0, 0))) :
    x.cell? ⟨g, 0, none⟩ = some (.int .i64 k) ∧ x.cell? ⟨g, 1, none⟩ = some (.int .u32 (s : Int)) ∧ x.cell? ⟨g, 2, none⟩ = some (.int .u32 (q : Int)) ∧ x.cell? ⟨g, 3, none⟩ = some (.int .u32 (o : Int)) :=
  ⟨by rw [cell_of_row _ _ _ _ _ _ hr]; rfl, by rw [cell_of_row _ _ _ _ _ _ hr]; rfl, by rw [cell_of_row _ _ _ _ _ _ hr]; rfl, by rw [cell_of_row _ _ _ _ _ _ hr]; rfl⟩
theorem turns_setCells {S : Nat → Prop} {w0 : World} {b : Nat} (hS : S b) : ∀ (vs : List Value) (o : Nat) (w : World), Turns S w0 w → Turns S w0 (w.setCells b o vs)
  | [], _, _, h => h
  | v :: r, o, _, h => turns_setCells hS r (o + 1) _ (h.setCell (p := ⟨b, o, none⟩) (fun _ => hS) v)
theorem RtW.drew {w x : World} {m : MsgD} {p : Option Addr} {c : Nat} {k : Int} {s q o : Nat} {h : List UInt8} (hh : RtW w x m p c k s q o h) : RtW w x.drew m p c k s q o h := ⟨hh.r0, hh.r1, hh.r2, hh.low.drew⟩
theorem RtW.set {w x : World} {m : MsgD} {p : Option Addr} {c : Nat} {k : Int} {s q o : Nat} {h : List UInt8} (hh : RtW w x m p c k s q o h) (i : Nat) (v : Value) {s' q' o' : Nat} (hv : (fldA k s q o h).setIfInBounds i v = fldA k s' q' o' h) :
    RtW w (x.setCell ⟨w.heap.size + 2, i, none⟩ v) m p c k s' q' o' h :=
  ⟨by rw [heap_setCell_other _ _ _ _ (by simp)]; exact hh.r0, by rw [heap_setCell_other _ _ _ _ (by simp)]; exact hh.r1, by rw [heap_setCell_same _ _ _ _ _ _ hh.r2, hv], hh.low.setCell (by simp) _⟩
theorem RtW.hint {w x : World} {m : MsgD} {p : Option Addr} {c : Nat} {k : Int} {s q o : Nat} {h : List UInt8} (hh : RtW w x m p c k s q o h) (hl : h.length = 16) (h' : List UInt8) (hl' : h'.length = 16) :
    RtW w (x.setCells (w.heap.size + 2) 4 (idA h').toList) m p c k s q o h' := by
  have hb := setCells_below (B := w.heap.size + 2) (b := w.heap.size + 2) (Nat.le_refl _) (idA h').toList 4 x (Below.refl _ _)
  obtain ⟨A', h1, h2, h3⟩ := setCells_row (w.heap.size + 2) _ (idA h').toList 4 x _ hh.r2 (by rw [fldA_size _ _ _ _ _ hl, Array.length_toList, idA_size]; omega)
  have hl20 := fldA_size k s q o h' hl'
  refine ⟨Below.keepBlock hb hh.r0 (by omega), Below.keepBlock hb hh.r1 (by omega), ?_, hh.low.trans (hb.mono (by omega))⟩
  rw [h1]
  have : A' = fldA k s q o h' := by
    apply Array.ext_getElem?
    intro i
    rw [h3 i, idA_toList, bytesV_length, hl']
    by_cases hi : 4 ≤ i ∧ i < 4 + 16
    · rw [if_pos hi]
      unfold fldA fldL
      rw [List.getElem?_toArray, List.getElem?_append_right (by simp; omega)]
      rfl
    · rw [if_neg hi]
      unfold fldA fldL
      rw [List.getElem?_toArray, List.getElem?_toArray]
      rcases Nat.lt_or_ge i 4 with h5 | h5
      · rw [List.getElem?_append_left (by simp; omega), List.getElem?_append_left (by simp; omega)]
      · rw [List.getElem?_eq_none (by simp [bytesV_length]; omega), List.getElem?_eq_none (by simp [bytesV_length]; omega)]
  rw [this]
set_option maxRecDepth 100000 in
set_option maxHeartbeats 3200000 in
theorem right_any (m : MsgD) (p : Option Addr) (c : Nat) (w : World) (hM : MsgAt w m p c) :
    Calls Tryd.prog 9 #[.agg (msgA m p c)] w fun e w' => e = .returned (.bool (decide m.right)) ∧ Below w.heap.size w w' := by
  have HWF := Lib.hid hM.wf
  have hble := hM.blob.le
  have hbmax := hM.blob.max
  clear hM
  have HHL : Hid (z16.length = 16) := rfl
  by_cases h1 : m.kind = 1
  · obtain ⟨FF, hFF⟩ : ∃ F, decide (m.kind = m.kind ∧ m.ses = 0 ∧ m.seq = 0 ∧ m.quo = m.quo ∧ m.hint = z16) = F := ⟨_, rfl⟩
    obtain ⟨BB, hBB⟩ : ∃ B, ((m.blob.length : Int) == 0) = B := ⟨_, rfl⟩
    obtain ⟨QQ, hQQ⟩ : ∃ Q, decide ((m.quo : Int) < 65536) = Q := ⟨_, rfl⟩
    have hQ2 : decide (m.quo < 65536) = QQ := by rw [← hQQ]; exact decide_eq_decide.2 (by omega)
    have t1 : (m.kind == 1) = true := by rw [beq_iff_eq]; exact h1
    have HRES : Hid (decide m.right = (FF && (BB && QQ))) := by
      show _ = _
      rw [← hFF, ← hBB, ← hQQ, Bool.eq_iff_iff]
      simp only [decide_eq_true_eq, Bool.and_eq_true, beq_iff_eq]
      unfold MsgD.right
      constructor
      · rintro (⟨_, h2, h3, h4, h5, h6⟩ | ⟨h, _⟩ | ⟨h, _⟩)
        · exact ⟨⟨trivial, h2, h3, trivial, h4⟩, by rw [h5]; rfl, by omega⟩
        · omega
        · omega
      · rintro ⟨⟨_, h2, h3, _, h4⟩, h5, h6⟩
        exact .inl ⟨h1, h2, h3, h4, List.length_eq_zero_iff.1 (by omega), by omega⟩
    have HFF := Lib.hid hFF
    clear hFF h1
    cases FF
    · skip
      go_enter Tryd.func9, Tryd.ntmps9
      have hz := zeroF
      go_upto_region 1 with fail
      generalize hw1 : w.alloc (.cells (msgA m p c) 28) = w1 at *
      have HR0 : Hid (w1.heap[w.heap.size]? = some (.cells (msgA m p c) 28 (0, 0))) := by rw [← hw1]; exact heap_alloc_last _ _
      have HB1 : Hid (Below w.heap.size w w1) := by rw [← hw1]; exact Below.allocs _ _
      have HS1 : Hid (w1.heap.size = w.heap.size + 1) := by show _ = _; rw [← hw1]; simp
      clear hw1
      obtain ⟨a0, a1, a2, a3, a4, a5⟩ := msg_cells HWF.out.hint HR0.out
      have HRG := Lib.hid a5
      clear a5
      go_upto_region 2 with (first
        | ((with_reducible refine wpAt 14 ?_); refine wpList_load_mid rfl 25 _ rfl w.heap.size 4 rfl (idA m.hint).toList _ HRG.out Tryd.underlying25 rfl (by rw [Array.length_toList]; exact sizeH _ HWF.out.hint) ?_)
        | ((with_reducible refine wpAt 15 ?_); refine Rdr.wpList_build rfl 48 _ rfl [(0, .int .i64 m.kind), (1, .int .u32 (m.ses : Int)), (2, .int .u32 (m.seq : Int)), (3, .int .u32 (m.quo : Int)), (4, .agg (idA m.hint))] rfl _ (built_fld _ _ _ _ _ HWF.out.hint) ?_)
        | ((with_reducible refine wpStoreAt 3 ?_); refine wpList_store_row rfl 48 _ _ rfl w1.heap.size (fldA m.kind m.ses m.seq m.quo m.hint) rfl rfl 48 (fldA 0 0 0 0 z16) (heap_alloc_last _ _) (sizeF _ (fldA_size _ _ _ _ _ HWF.out.hint)) (by rw [fldA_size _ _ _ _ _ HWF.out.hint]; rfl) (fldA_one _ _ _ _ _) ?_))
      simp only [Act.put]
      have hr1 : ((w1.alloc (.cells (fldA 0 0 0 0 z16) 48)).setRow w1.heap.size (fldA m.kind m.ses m.seq m.quo m.hint)).heap[w1.heap.size]? = some (.cells (fldA m.kind m.ses m.seq m.quo m.hint) 48 (0, 0)) := setRow_heap _ _ _ _ _ _ (heap_alloc_last _ _)
      have hb2 : Below w1.heap.size w1 ((w1.alloc (.cells (fldA 0 0 0 0 z16) 48)).setRow w1.heap.size (fldA m.kind m.ses m.seq m.quo m.hint)) := below_setRow (Below.allocs _ _) (Nat.le_refl _) _
      have hs2 : ((w1.alloc (.cells (fldA 0 0 0 0 z16) 48)).setRow w1.heap.size (fldA m.kind m.ses m.seq m.quo m.hint)).heap.size = w.heap.size + 2 := by have := HS1.out; simp [World.setRow]; omega
      generalize (w1.alloc (.cells (fldA 0 0 0 0 z16) 48)).setRow w1.heap.size (fldA m.kind m.ses m.seq m.quo m.hint) = w2 at *
      have hr0 := Below.keepOld hb2 HR0.out
      have hlow2 : Below w.heap.size w w2 := HB1.out.trans (hb2.mono HB1.out.size)
      have hs1 := HS1.out
      rw [hs1] at hr1 ⊢
      clear hs1 HS1 HR0 HB1 HRG hb2 a0 a1 a2 a3 a4
      have HR0 := Lib.hid hr0
      have HR1 := Lib.hid hr1
      have HL2 := Lib.hid hlow2
      have HS2 := Lib.hid hs2
      obtain ⟨a0, a1, a2, a3, a4, a5⟩ := msg_cells HWF.out.hint HR0.out
      clear hr0 hr1 hlow2 hs2 a5
      go_upto_region 3 with (first
        | ((with_reducible refine wpAt 20 ?_); refine Rdr.wpList_build rfl 48 _ rfl [(0, .int .i64 m.kind), (1, .int .u32 (m.ses : Int))] rfl _ (built_fld2 _ _) ?_)
        | ((with_reducible refine wpStoreAt 4 ?_); refine wpList_store_row rfl 48 _ _ rfl w2.heap.size (fldA m.kind m.ses 0 0 z16) rfl rfl 48 (fldA 0 0 0 0 z16) (heap_alloc_last _ _) (sizeF _ (fldA_size _ _ _ _ _ z16_len)) rfl (fldA_one _ _ _ _ _) ?_))
      simp only [Act.put]
      have hr2 : ((w2.alloc (.cells (fldA 0 0 0 0 z16) 48)).setRow w2.heap.size (fldA m.kind m.ses 0 0 z16)).heap[w2.heap.size]? = some (.cells (fldA m.kind m.ses 0 0 z16) 48 (0, 0)) := setRow_heap _ _ _ _ _ _ (heap_alloc_last _ _)
      have hb3 : Below w2.heap.size w2 ((w2.alloc (.cells (fldA 0 0 0 0 z16) 48)).setRow w2.heap.size (fldA m.kind m.ses 0 0 z16)) := below_setRow (Below.allocs _ _) (Nat.le_refl _) _
      generalize (w2.alloc (.cells (fldA 0 0 0 0 z16) 48)).setRow w2.heap.size (fldA m.kind m.ses 0 0 z16) = w3 at *
      have hs2 := HS2.out
      rw [hs2] at hr2 ⊢
      have HRT : Hid (RtW w w3 m p c m.kind m.ses 0 0 z16) := ⟨Below.keepOld hb3 HR0.out, Below.keepOld hb3 HR1.out, hr2, HL2.out.trans (hb3.mono HL2.out.size)⟩
      clear hs2 HS2 hr2 hb3 HR0 HR1 HL2 a0 a1 a2 a3 a4
      obtain ⟨a0, a1, a2, a3, a4, a5⟩ := msg_cells HWF.out.hint HRT.out.r0
      have HRG := Lib.hid a5
      clear a5
      obtain ⟨b0, b1, b2, b3⟩ := fld_cells HRT.out.r2
      have f1 := frozen_of_row _ _ 1 _ _ HRT.out.r2
      have f3 := frozen_of_row _ _ 3 _ _ HRT.out.r2
      go_upto_region 8 with fail
      go_region
      have hrt := ((HRT.out.set 1 (.int .u32 0) (s' := 0) (q' := 0) (o' := 0) rfl).set 3 (.int .u32 (m.quo : Int)) (s' := 0) (q' := 0) (o' := m.quo) rfl).drew
      generalize ((w3.setCell ⟨w.heap.size + 2, 1, none⟩ (.int .u32 0)).setCell ⟨w.heap.size + 2, 3, none⟩ (.int .u32 (m.quo : Int))).drew = w4 at *
      clear HRT HRG b0 b1 b2 b3 f1 f3 a0 a1 a2 a3 a4
      have HRT := Lib.hid hrt
      obtain ⟨a0, a1, a2, a3, a4, a5⟩ := msg_cells HWF.out.hint HRT.out.r0
      clear a5 hrt
      have hqf : ∀ w, (Op.equalIn 10000 48 (.agg (fldA m.kind m.ses m.seq m.quo m.hint)) (.agg (fldA m.kind 0 0 m.quo z16))).run Tryd.prog w = .ok false w := fun w => by rw [eq_fld w _ _ _ _ _ _ _ _ _ _ HWF.out.hint HHL.out]; rw [HFF.out]
      go_wp2_with (first
        | refine wpList_load_row rfl 48 _ rfl (w.heap.size + 1) rfl 48 (fldA m.kind m.ses m.seq m.quo m.hint) (0, 0) _ HRT.out.r1 Tryd.underlying48 rfl (sizeF _ (fldA_size _ _ _ _ _ HWF.out.hint)) ?_
        | refine wpList_load_row rfl 48 _ rfl (w.heap.size + 2) rfl 48 (fldA m.kind 0 0 m.quo z16) (0, 0) _ HRT.out.r2 Tryd.underlying48 rfl (sizeF _ (fldA_size _ _ _ _ _ HHL.out)) ?_)
      go_ret
      exact ⟨bret (by rw [HRES.out]; first | rfl | simp), HRT.out.low⟩
    · cases BB
      · skip
        go_enter Tryd.func9, Tryd.ntmps9
        have hz := zeroF
        go_upto_region 1 with fail
        generalize hw1 : w.alloc (.cells (msgA m p c) 28) = w1 at *
        have HR0 : Hid (w1.heap[w.heap.size]? = some (.cells (msgA m p c) 28 (0, 0))) := by rw [← hw1]; exact heap_alloc_last _ _
        have HB1 : Hid (Below w.heap.size w w1) := by rw [← hw1]; exact Below.allocs _ _
        have HS1 : Hid (w1.heap.size = w.heap.size + 1) := by show _ = _; rw [← hw1]; simp
        clear hw1
        obtain ⟨a0, a1, a2, a3, a4, a5⟩ := msg_cells HWF.out.hint HR0.out
        have HRG := Lib.hid a5
        clear a5
        go_upto_region 2 with (first
          | ((with_reducible refine wpAt 14 ?_); refine wpList_load_mid rfl 25 _ rfl w.heap.size 4 rfl (idA m.hint).toList _ HRG.out Tryd.underlying25 rfl (by rw [Array.length_toList]; exact sizeH _ HWF.out.hint) ?_)
          | ((with_reducible refine wpAt 15 ?_); refine Rdr.wpList_build rfl 48 _ rfl [(0, .int .i64 m.kind), (1, .int .u32 (m.ses : Int)), (2, .int .u32 (m.seq : Int)), (3, .int .u32 (m.quo : Int)), (4, .agg (idA m.hint))] rfl _ (built_fld _ _ _ _ _ HWF.out.hint) ?_)
          | ((with_reducible refine wpStoreAt 3 ?_); refine wpList_store_row rfl 48 _ _ rfl w1.heap.size (fldA m.kind m.ses m.seq m.quo m.hint) rfl rfl 48 (fldA 0 0 0 0 z16) (heap_alloc_last _ _) (sizeF _ (fldA_size _ _ _ _ _ HWF.out.hint)) (by rw [fldA_size _ _ _ _ _ HWF.out.hint]; rfl) (fldA_one _ _ _ _ _) ?_))
        simp only [Act.put]
        have hr1 : ((w1.alloc (.cells (fldA 0 0 0 0 z16) 48)).setRow w1.heap.size (fldA m.kind m.ses m.seq m.quo m.hint)).heap[w1.heap.size]? = some (.cells (fldA m.kind m.ses m.seq m.quo m.hint) 48 (0, 0)) := setRow_heap _ _ _ _ _ _ (heap_alloc_last _ _)
        have hb2 : Below w1.heap.size w1 ((w1.alloc (.cells (fldA 0 0 0 0 z16) 48)).setRow w1.heap.size (fldA m.kind m.ses m.seq m.quo m.hint)) := below_setRow (Below.allocs _ _) (Nat.le_refl _) _
        have hs2 : ((w1.alloc (.cells (fldA 0 0 0 0 z16) 48)).setRow w1.heap.size (fldA m.kind m.ses m.seq m.quo m.hint)).heap.size = w.heap.size + 2 := by have := HS1.out; simp [World.setRow]; omega
        generalize (w1.alloc (.cells (fldA 0 0 0 0 z16) 48)).setRow w1.heap.size (fldA m.kind m.ses m.seq m.quo m.hint) = w2 at *
        have hr0 := Below.keepOld hb2 HR0.out
        have hlow2 : Below w.heap.size w w2 := HB1.out.trans (hb2.mono HB1.out.size)
        have hs1 := HS1.out
        rw [hs1] at hr1 ⊢
        clear hs1 HS1 HR0 HB1 HRG hb2 a0 a1 a2 a3 a4
        have HR0 := Lib.hid hr0
        have HR1 := Lib.hid hr1
        have HL2 := Lib.hid hlow2
        have HS2 := Lib.hid hs2
        obtain ⟨a0, a1, a2, a3, a4, a5⟩ := msg_cells HWF.out.hint HR0.out
        clear hr0 hr1 hlow2 hs2 a5
        go_upto_region 3 with (first
          | ((with_reducible refine wpAt 20 ?_); refine Rdr.wpList_build rfl 48 _ rfl [(0, .int .i64 m.kind), (1, .int .u32 (m.ses : Int))] rfl _ (built_fld2 _ _) ?_)
          | ((with_reducible refine wpStoreAt 4 ?_); refine wpList_store_row rfl 48 _ _ rfl w2.heap.size (fldA m.kind m.ses 0 0 z16) rfl rfl 48 (fldA 0 0 0 0 z16) (heap_alloc_last _ _) (sizeF _ (fldA_size _ _ _ _ _ z16_len)) rfl (fldA_one _ _ _ _ _) ?_))
        simp only [Act.put]
        have hr2 : ((w2.alloc (.cells (fldA 0 0 0 0 z16) 48)).setRow w2.heap.size (fldA m.kind m.ses 0 0 z16)).heap[w2.heap.size]? = some (.cells (fldA m.kind m.ses 0 0 z16) 48 (0, 0)) := setRow_heap _ _ _ _ _ _ (heap_alloc_last _ _)
        have hb3 : Below w2.heap.size w2 ((w2.alloc (.cells (fldA 0 0 0 0 z16) 48)).setRow w2.heap.size (fldA m.kind m.ses 0 0 z16)) := below_setRow (Below.allocs _ _) (Nat.le_refl _) _
        generalize (w2.alloc (.cells (fldA 0 0 0 0 z16) 48)).setRow w2.heap.size (fldA m.kind m.ses 0 0 z16) = w3 at *
        have hs2 := HS2.out
        rw [hs2] at hr2 ⊢
        have HRT : Hid (RtW w w3 m p c m.kind m.ses 0 0 z16) := ⟨Below.keepOld hb3 HR0.out, Below.keepOld hb3 HR1.out, hr2, HL2.out.trans (hb3.mono HL2.out.size)⟩
        clear hs2 HS2 hr2 hb3 HR0 HR1 HL2 a0 a1 a2 a3 a4
        obtain ⟨a0, a1, a2, a3, a4, a5⟩ := msg_cells HWF.out.hint HRT.out.r0
        have HRG := Lib.hid a5
        clear a5
        obtain ⟨b0, b1, b2, b3⟩ := fld_cells HRT.out.r2
        have f1 := frozen_of_row _ _ 1 _ _ HRT.out.r2
        have f3 := frozen_of_row _ _ 3 _ _ HRT.out.r2
        go_upto_region 8 with fail
        go_region
        have hrt := ((HRT.out.set 1 (.int .u32 0) (s' := 0) (q' := 0) (o' := 0) rfl).set 3 (.int .u32 (m.quo : Int)) (s' := 0) (q' := 0) (o' := m.quo) rfl).drew
        generalize ((w3.setCell ⟨w.heap.size + 2, 1, none⟩ (.int .u32 0)).setCell ⟨w.heap.size + 2, 3, none⟩ (.int .u32 (m.quo : Int))).drew = w4 at *
        clear HRT HRG b0 b1 b2 b3 f1 f3 a0 a1 a2 a3 a4
        have HRT := Lib.hid hrt
        obtain ⟨a0, a1, a2, a3, a4, a5⟩ := msg_cells HWF.out.hint HRT.out.r0
        clear a5 hrt
        have hqf : ∀ w, (Op.equalIn 10000 48 (.agg (fldA m.kind m.ses m.seq m.quo m.hint)) (.agg (fldA m.kind 0 0 m.quo z16))).run Tryd.prog w = .ok true w := fun w => by rw [eq_fld w _ _ _ _ _ _ _ _ _ _ HWF.out.hint HHL.out]; rw [HFF.out]
        go_wp2_with (first
          | refine wpList_load_row rfl 48 _ rfl (w.heap.size + 1) rfl 48 (fldA m.kind m.ses m.seq m.quo m.hint) (0, 0) _ HRT.out.r1 Tryd.underlying48 rfl (sizeF _ (fldA_size _ _ _ _ _ HWF.out.hint)) ?_
          | refine wpList_load_row rfl 48 _ rfl (w.heap.size + 2) rfl 48 (fldA m.kind 0 0 m.quo z16) (0, 0) _ HRT.out.r2 Tryd.underlying48 rfl (sizeF _ (fldA_size _ _ _ _ _ HHL.out)) ?_)
        go_ret
        exact ⟨bret (by rw [HRES.out]; first | rfl | simp), HRT.out.low⟩
      · skip
        go_enter Tryd.func9, Tryd.ntmps9
        have hz := zeroF
        go_upto_region 1 with fail
        generalize hw1 : w.alloc (.cells (msgA m p c) 28) = w1 at *
        have HR0 : Hid (w1.heap[w.heap.size]? = some (.cells (msgA m p c) 28 (0, 0))) := by rw [← hw1]; exact heap_alloc_last _ _
        have HB1 : Hid (Below w.heap.size w w1) := by rw [← hw1]; exact Below.allocs _ _
        have HS1 : Hid (w1.heap.size = w.heap.size + 1) := by show _ = _; rw [← hw1]; simp
        clear hw1
        obtain ⟨a0, a1, a2, a3, a4, a5⟩ := msg_cells HWF.out.hint HR0.out
        have HRG := Lib.hid a5
        clear a5
        go_upto_region 2 with (first
          | ((with_reducible refine wpAt 14 ?_); refine wpList_load_mid rfl 25 _ rfl w.heap.size 4 rfl (idA m.hint).toList _ HRG.out Tryd.underlying25 rfl (by rw [Array.length_toList]; exact sizeH _ HWF.out.hint) ?_)
          | ((with_reducible refine wpAt 15 ?_); refine Rdr.wpList_build rfl 48 _ rfl [(0, .int .i64 m.kind), (1, .int .u32 (m.ses : Int)), (2, .int .u32 (m.seq : Int)), (3, .int .u32 (m.quo : Int)), (4, .agg (idA m.hint))] rfl _ (built_fld _ _ _ _ _ HWF.out.hint) ?_)
          | ((with_reducible refine wpStoreAt 3 ?_); refine wpList_store_row rfl 48 _ _ rfl w1.heap.size (fldA m.kind m.ses m.seq m.quo m.hint) rfl rfl 48 (fldA 0 0 0 0 z16) (heap_alloc_last _ _) (sizeF _ (fldA_size _ _ _ _ _ HWF.out.hint)) (by rw [fldA_size _ _ _ _ _ HWF.out.hint]; rfl) (fldA_one _ _ _ _ _) ?_))
        simp only [Act.put]
        have hr1 : ((w1.alloc (.cells (fldA 0 0 0 0 z16) 48)).setRow w1.heap.size (fldA m.kind m.ses m.seq m.quo m.hint)).heap[w1.heap.size]? = some (.cells (fldA m.kind m.ses m.seq m.quo m.hint) 48 (0, 0)) := setRow_heap _ _ _ _ _ _ (heap_alloc_last _ _)
        have hb2 : Below w1.heap.size w1 ((w1.alloc (.cells (fldA 0 0 0 0 z16) 48)).setRow w1.heap.size (fldA m.kind m.ses m.seq m.quo m.hint)) := below_setRow (Below.allocs _ _) (Nat.le_refl _) _
        have hs2 : ((w1.alloc (.cells (fldA 0 0 0 0 z16) 48)).setRow w1.heap.size (fldA m.kind m.ses m.seq m.quo m.hint)).heap.size = w.heap.size + 2 := by have := HS1.out; simp [World.setRow]; omega
        generalize (w1.alloc (.cells (fldA 0 0 0 0 z16) 48)).setRow w1.heap.size (fldA m.kind m.ses m.seq m.quo m.hint) = w2 at *
        have hr0 := Below.keepOld hb2 HR0.out
        have hlow2 : Below w.heap.size w w2 := HB1.out.trans (hb2.mono HB1.out.size)
        have hs1 := HS1.out
        rw [hs1] at hr1 ⊢
        clear hs1 HS1 HR0 HB1 HRG hb2 a0 a1 a2 a3 a4
        have HR0 := Lib.hid hr0
        have HR1 := Lib.hid hr1
        have HL2 := Lib.hid hlow2
        have HS2 := Lib.hid hs2
        obtain ⟨a0, a1, a2, a3, a4, a5⟩ := msg_cells HWF.out.hint HR0.out
        clear hr0 hr1 hlow2 hs2 a5
        go_upto_region 3 with (first
          | ((with_reducible refine wpAt 20 ?_); refine Rdr.wpList_build rfl 48 _ rfl [(0, .int .i64 m.kind), (1, .int .u32 (m.ses : Int))] rfl _ (built_fld2 _ _) ?_)
          | ((with_reducible refine wpStoreAt 4 ?_); refine wpList_store_row rfl 48 _ _ rfl w2.heap.size (fldA m.kind m.ses 0 0 z16) rfl rfl 48 (fldA 0 0 0 0 z16) (heap_alloc_last _ _) (sizeF _ (fldA_size _ _ _ _ _ z16_len)) rfl (fldA_one _ _ _ _ _) ?_))
        simp only [Act.put]
        have hr2 : ((w2.alloc (.cells (fldA 0 0 0 0 z16) 48)).setRow w2.heap.size (fldA m.kind m.ses 0 0 z16)).heap[w2.heap.size]? = some (.cells (fldA m.kind m.ses 0 0 z16) 48 (0, 0)) := setRow_heap _ _ _ _ _ _ (heap_alloc_last _ _)
        have hb3 : Below w2.heap.size w2 ((w2.alloc (.cells (fldA 0 0 0 0 z16) 48)).setRow w2.heap.size (fldA m.kind m.ses 0 0 z16)) := below_setRow (Below.allocs _ _) (Nat.le_refl _) _
        generalize (w2.alloc (.cells (fldA 0 0 0 0 z16) 48)).setRow w2.heap.size (fldA m.kind m.ses 0 0 z16) = w3 at *
        have hs2 := HS2.out
        rw [hs2] at hr2 ⊢
        have HRT : Hid (RtW w w3 m p c m.kind m.ses 0 0 z16) := ⟨Below.keepOld hb3 HR0.out, Below.keepOld hb3 HR1.out, hr2, HL2.out.trans (hb3.mono HL2.out.size)⟩
        clear hs2 HS2 hr2 hb3 HR0 HR1 HL2 a0 a1 a2 a3 a4
        obtain ⟨a0, a1, a2, a3, a4, a5⟩ := msg_cells HWF.out.hint HRT.out.r0
        have HRG := Lib.hid a5
        clear a5
        obtain ⟨b0, b1, b2, b3⟩ := fld_cells HRT.out.r2
        have f1 := frozen_of_row _ _ 1 _ _ HRT.out.r2
        have f3 := frozen_of_row _ _ 3 _ _ HRT.out.r2
        go_upto_region 8 with fail
        go_region
        have hrt := ((HRT.out.set 1 (.int .u32 0) (s' := 0) (q' := 0) (o' := 0) rfl).set 3 (.int .u32 (m.quo : Int)) (s' := 0) (q' := 0) (o' := m.quo) rfl).drew
        generalize ((w3.setCell ⟨w.heap.size + 2, 1, none⟩ (.int .u32 0)).setCell ⟨w.heap.size + 2, 3, none⟩ (.int .u32 (m.quo : Int))).drew = w4 at *
        clear HRT HRG b0 b1 b2 b3 f1 f3 a0 a1 a2 a3 a4
        have HRT := Lib.hid hrt
        obtain ⟨a0, a1, a2, a3, a4, a5⟩ := msg_cells HWF.out.hint HRT.out.r0
        clear a5 hrt
        have hqf : ∀ w, (Op.equalIn 10000 48 (.agg (fldA m.kind m.ses m.seq m.quo m.hint)) (.agg (fldA m.kind 0 0 m.quo z16))).run Tryd.prog w = .ok true w := fun w => by rw [eq_fld w _ _ _ _ _ _ _ _ _ _ HWF.out.hint HHL.out]; rw [HFF.out]
        go_wp2_with (first
          | refine wpList_load_row rfl 48 _ rfl (w.heap.size + 1) rfl 48 (fldA m.kind m.ses m.seq m.quo m.hint) (0, 0) _ HRT.out.r1 Tryd.underlying48 rfl (sizeF _ (fldA_size _ _ _ _ _ HWF.out.hint)) ?_
          | refine wpList_load_row rfl 48 _ rfl (w.heap.size + 2) rfl 48 (fldA m.kind 0 0 m.quo z16) (0, 0) _ HRT.out.r2 Tryd.underlying48 rfl (sizeF _ (fldA_size _ _ _ _ _ HHL.out)) ?_)
        go_ret
        exact ⟨bret (by rw [HRES.out]; first | rfl | simp), HRT.out.low⟩
  by_cases h2 : m.kind = 2
  · have t1 : (m.kind == 1) = false := by rw [beq_eq_false_iff_ne]; exact h1
    have t2 : (m.kind == 2) = true := by rw [beq_iff_eq]; exact h2
    obtain ⟨FF, hFF⟩ : ∃ F, decide (m.kind = m.kind ∧ m.ses = m.ses ∧ m.seq = m.seq ∧ m.quo = 0 ∧ m.hint = m.hint) = F := ⟨_, rfl⟩
    obtain ⟨BB, hBB⟩ : ∃ B, decide ((m.blob.length : Int) ≤ 1000) = B := ⟨_, rfl⟩
    have hB2 : decide (m.blob.length ≤ 1000) = BB := by rw [← hBB]; exact decide_eq_decide.2 (by omega)
    have HRES : Hid (decide m.right = (FF && BB)) := by
      show _ = _
      rw [← hFF, ← hBB, Bool.eq_iff_iff]
      simp only [decide_eq_true_eq, Bool.and_eq_true]
      unfold MsgD.right
      constructor
      · rintro (⟨h, _⟩ | ⟨_, h3, h4⟩ | ⟨h, _⟩)
        · exact absurd h h1
        · exact ⟨⟨trivial, trivial, trivial, h3, trivial⟩, by omega⟩
        · omega
      · rintro ⟨⟨_, _, _, h3, _⟩, h4⟩
        exact .inr (.inl ⟨h2, h3, by omega⟩)
    have HFF := Lib.hid hFF
    have HHL : Hid (m.hint.length = 16) := HWF.out.hint
    clear hFF h1 h2
    cases FF
    · skip
      go_enter Tryd.func9, Tryd.ntmps9
      have hz := zeroF
      go_upto_region 1 with fail
      generalize hw1 : w.alloc (.cells (msgA m p c) 28) = w1 at *
      have HR0 : Hid (w1.heap[w.heap.size]? = some (.cells (msgA m p c) 28 (0, 0))) := by rw [← hw1]; exact heap_alloc_last _ _
      have HB1 : Hid (Below w.heap.size w w1) := by rw [← hw1]; exact Below.allocs _ _
      have HS1 : Hid (w1.heap.size = w.heap.size + 1) := by show _ = _; rw [← hw1]; simp
      clear hw1
      obtain ⟨a0, a1, a2, a3, a4, a5⟩ := msg_cells HWF.out.hint HR0.out
      have HRG := Lib.hid a5
      clear a5
      go_upto_region 2 with (first
        | ((with_reducible refine wpAt 14 ?_); refine wpList_load_mid rfl 25 _ rfl w.heap.size 4 rfl (idA m.hint).toList _ HRG.out Tryd.underlying25 rfl (by rw [Array.length_toList]; exact sizeH _ HWF.out.hint) ?_)
        | ((with_reducible refine wpAt 15 ?_); refine Rdr.wpList_build rfl 48 _ rfl [(0, .int .i64 m.kind), (1, .int .u32 (m.ses : Int)), (2, .int .u32 (m.seq : Int)), (3, .int .u32 (m.quo : Int)), (4, .agg (idA m.hint))] rfl _ (built_fld _ _ _ _ _ HWF.out.hint) ?_)
        | ((with_reducible refine wpStoreAt 3 ?_); refine wpList_store_row rfl 48 _ _ rfl w1.heap.size (fldA m.kind m.ses m.seq m.quo m.hint) rfl rfl 48 (fldA 0 0 0 0 z16) (heap_alloc_last _ _) (sizeF _ (fldA_size _ _ _ _ _ HWF.out.hint)) (by rw [fldA_size _ _ _ _ _ HWF.out.hint]; rfl) (fldA_one _ _ _ _ _) ?_))
      simp only [Act.put]
      have hr1 : ((w1.alloc (.cells (fldA 0 0 0 0 z16) 48)).setRow w1.heap.size (fldA m.kind m.ses m.seq m.quo m.hint)).heap[w1.heap.size]? = some (.cells (fldA m.kind m.ses m.seq m.quo m.hint) 48 (0, 0)) := setRow_heap _ _ _ _ _ _ (heap_alloc_last _ _)
      have hb2 : Below w1.heap.size w1 ((w1.alloc (.cells (fldA 0 0 0 0 z16) 48)).setRow w1.heap.size (fldA m.kind m.ses m.seq m.quo m.hint)) := below_setRow (Below.allocs _ _) (Nat.le_refl _) _
      have hs2 : ((w1.alloc (.cells (fldA 0 0 0 0 z16) 48)).setRow w1.heap.size (fldA m.kind m.ses m.seq m.quo m.hint)).heap.size = w.heap.size + 2 := by have := HS1.out; simp [World.setRow]; omega
      generalize (w1.alloc (.cells (fldA 0 0 0 0 z16) 48)).setRow w1.heap.size (fldA m.kind m.ses m.seq m.quo m.hint) = w2 at *
      have hr0 := Below.keepOld hb2 HR0.out
      have hlow2 : Below w.heap.size w w2 := HB1.out.trans (hb2.mono HB1.out.size)
      have hs1 := HS1.out
      rw [hs1] at hr1 ⊢
      clear hs1 HS1 HR0 HB1 HRG hb2 a0 a1 a2 a3 a4
      have HR0 := Lib.hid hr0
      have HR1 := Lib.hid hr1
      have HL2 := Lib.hid hlow2
      have HS2 := Lib.hid hs2
      obtain ⟨a0, a1, a2, a3, a4, a5⟩ := msg_cells HWF.out.hint HR0.out
      clear hr0 hr1 hlow2 hs2 a5
      go_upto_region 3 with (first
        | ((with_reducible refine wpAt 20 ?_); refine Rdr.wpList_build rfl 48 _ rfl [(0, .int .i64 m.kind), (1, .int .u32 (m.ses : Int))] rfl _ (built_fld2 _ _) ?_)
        | ((with_reducible refine wpStoreAt 4 ?_); refine wpList_store_row rfl 48 _ _ rfl w2.heap.size (fldA m.kind m.ses 0 0 z16) rfl rfl 48 (fldA 0 0 0 0 z16) (heap_alloc_last _ _) (sizeF _ (fldA_size _ _ _ _ _ z16_len)) rfl (fldA_one _ _ _ _ _) ?_))
      simp only [Act.put]
      have hr2 : ((w2.alloc (.cells (fldA 0 0 0 0 z16) 48)).setRow w2.heap.size (fldA m.kind m.ses 0 0 z16)).heap[w2.heap.size]? = some (.cells (fldA m.kind m.ses 0 0 z16) 48 (0, 0)) := setRow_heap _ _ _ _ _ _ (heap_alloc_last _ _)
      have hb3 : Below w2.heap.size w2 ((w2.alloc (.cells (fldA 0 0 0 0 z16) 48)).setRow w2.heap.size (fldA m.kind m.ses 0 0 z16)) := below_setRow (Below.allocs _ _) (Nat.le_refl _) _
      generalize (w2.alloc (.cells (fldA 0 0 0 0 z16) 48)).setRow w2.heap.size (fldA m.kind m.ses 0 0 z16) = w3 at *
      have hs2 := HS2.out
      rw [hs2] at hr2 ⊢
      have HRT : Hid (RtW w w3 m p c m.kind m.ses 0 0 z16) := ⟨Below.keepOld hb3 HR0.out, Below.keepOld hb3 HR1.out, hr2, HL2.out.trans (hb3.mono HL2.out.size)⟩
      clear hs2 HS2 hr2 hb3 HR0 HR1 HL2 a0 a1 a2 a3 a4
      obtain ⟨a0, a1, a2, a3, a4, a5⟩ := msg_cells HWF.out.hint HRT.out.r0
      have HRG := Lib.hid a5
      clear a5
      obtain ⟨b0, b1, b2, b3⟩ := fld_cells HRT.out.r2
      go_upto_region 9 with fail
      have HK : Hid (∀ w', Turns (fun k => k = w.heap.size + 2) w3 w' → w'.cell? ⟨w.heap.size, 2, none⟩ = some (.int .u32 (m.seq : Int))) := fun w' ht => (msg_cells HWF.out.hint (ht.keep HRT.out.r0 (by omega))).2.2.1
      have HKR : Hid (∀ w', Turns (fun k => k = w.heap.size + 2) w3 w' → w'.rangeAt w.heap.size 4 (idA m.hint).toList) := fun w' ht => (msg_cells HWF.out.hint (ht.keep HRT.out.r0 (by omega))).2.2.2.2.2
      refine wp_region_eager_in (Turns (fun k => k = w.heap.size + 2) w3) [(0, true), (1, true), (2, true), (3, true), (4, true), (5, false), (6, true), (7, false)] (by kernel_rfl) (by kernel_rfl) ?_ (eagerOpen rfl ?_)
      · exact (Turns.refl _ _).drew
      have hrt0 := HRT.out.drew
      have hy0 : Turns (fun k => k = w.heap.size + 2) w3 w3.drew := (Turns.refl _ _).drew
      have b2' : w3.drew.cell? ⟨w.heap.size + 2, 2, none⟩ = some (.int .u32 0) := b2
      have f2' := frozen_of_row _ _ 2 _ _ hrt0.r2
      generalize w3.drew = wd at *
      repeat (first
        | ((with_reducible refine eagerLoadAt 37 ?_); refine wpEager_load (by rfl) 25 _ rfl w.heap.size 4 rfl (idA m.hint) _ (fun w' hb => HKR.out w' hb) Tryd.underlying25 rfl (sizeH _ HWF.out.hint) ?_; (try simp only [Act.put, List.setIfInBounds_toArray, List.set_cons_zero, List.set_cons_succ]); (try refine eagerOpen rfl ?_))
        | (first | (apply wpEager_take; (· rfl); (· (intro w' hb'; go_simp; try with_reducible rfl)); (try simp only [Act.put, List.setIfInBounds_toArray, List.set_cons_zero, List.set_cons_succ]); (try refine eagerOpen rfl ?_)) | (refine wpEager_skip (by rfl) ?_; (try simp only [Act.put, List.setIfInBounds_toArray, List.set_cons_zero, List.set_cons_succ]); (try refine eagerOpen rfl ?_)) | (refine wpEager_off (by rfl) ?_; (try simp only [Act.put, List.setIfInBounds_toArray, List.set_cons_zero, List.set_cons_succ]); (try refine eagerOpen rfl ?_)))
        | (apply wpEager_take; (· rfl); (· (intro w' hb'; have hk' := (HK.out) w' hb'; go_split_ands; go_simp; try with_reducible rfl)); (try simp only [Act.put, List.setIfInBounds_toArray, List.set_cons_zero, List.set_cons_succ]); (try refine eagerOpen rfl ?_)))
      have hrt1 := hrt0.set 2 (.int .u32 (m.seq : Int)) (s' := m.ses) (q' := m.seq) (o' := 0) rfl
      have hy1 := hy0.setCell (p := ⟨w.heap.size + 2, 2, none⟩) (fun _ => rfl) (.int .u32 (m.seq : Int))
      refine wpEager_op (by rfl) (fun K hK => ?_)
      go_simp
      refine Shut.out hK _ _ hy1 ?_
      clear hK K
      (try simp only [Act.put, List.setIfInBounds_toArray, List.set_cons_zero, List.set_cons_succ]); (try refine eagerOpen rfl ?_)
      generalize wd.setCell ⟨w.heap.size + 2, 2, none⟩ (.int .u32 (m.seq : Int)) = we at *
      (first | (apply wpEager_take; (· rfl); (· (intro w' hb'; go_simp; try with_reducible rfl)); (try simp only [Act.put, List.setIfInBounds_toArray, List.set_cons_zero, List.set_cons_succ]); (try refine eagerOpen rfl ?_)) | (refine wpEager_skip (by rfl) ?_; (try simp only [Act.put, List.setIfInBounds_toArray, List.set_cons_zero, List.set_cons_succ]); (try refine eagerOpen rfl ?_)) | (refine wpEager_off (by rfl) ?_; (try simp only [Act.put, List.setIfInBounds_toArray, List.set_cons_zero, List.set_cons_succ]); (try refine eagerOpen rfl ?_)))
      have hrt2 := hrt1.hint z16_len m.hint HWF.out.hint
      have HTH : Hid (we.there (w.heap.size + 2) 4 (idA m.hint).size) := fun j hj => by
        rw [idA_size, HWF.out.hint] at hj
        refine ⟨?_, frozen_of_row _ _ _ _ _ hrt1.r2⟩
        rw [cell_of_row _ _ _ _ _ _ hrt1.r2, Array.getElem?_eq_getElem (by rw [fldA_size _ _ _ _ _ z16_len]; omega)]
        rfl
      refine wpEager_op (by rfl) (fun K hK => oper_of_list rfl ?_)
      refine wpList_store_mid rfl 25 _ _ rfl (w.heap.size + 2) 4 (idA m.hint) rfl rfl HTH.out (sizeH _ HWF.out.hint) (idA_one _) ?_
      refine only_end (Shut.out hK _ _ (turns_setCells (S := fun k => k = w.heap.size + 2) rfl _ _ _ hy1) ?_)
      clear hK K
      (try simp only [Act.put, List.setIfInBounds_toArray, List.set_cons_zero, List.set_cons_succ]); (try refine eagerOpen rfl ?_)
      refine eagerEnd ?_
      have hrt := hrt2
      generalize we.setCells (w.heap.size + 2) 4 (idA m.hint).toList = w4 at *
      clear HRT HRG b0 b1 b2 b3 a0 a1 a2 a3 a4 hrt0 hrt1 hrt2 hy0 hy1 b2' f2'
      have HRT := Lib.hid hrt
      obtain ⟨a0, a1, a2, a3, a4, a5⟩ := msg_cells HWF.out.hint HRT.out.r0
      clear a5 hrt
      have hqf : ∀ w, (Op.equalIn 10000 48 (.agg (fldA m.kind m.ses m.seq m.quo m.hint)) (.agg (fldA m.kind m.ses m.seq 0 m.hint))).run Tryd.prog w = .ok false w := fun w => by rw [eq_fld w _ _ _ _ _ _ _ _ _ _ HWF.out.hint HHL.out]; rw [HFF.out]
      go_wp2_with (first
        | refine wpList_load_row rfl 48 _ rfl (w.heap.size + 1) rfl 48 (fldA m.kind m.ses m.seq m.quo m.hint) (0, 0) _ HRT.out.r1 Tryd.underlying48 rfl (sizeF _ (fldA_size _ _ _ _ _ HWF.out.hint)) ?_
        | refine wpList_load_row rfl 48 _ rfl (w.heap.size + 2) rfl 48 (fldA m.kind m.ses m.seq 0 m.hint) (0, 0) _ HRT.out.r2 Tryd.underlying48 rfl (sizeF _ (fldA_size _ _ _ _ _ HHL.out)) ?_)
      go_ret
      exact ⟨bret (by rw [HRES.out]; first | rfl | simp), HRT.out.low⟩
    · skip
      go_enter Tryd.func9, Tryd.ntmps9
      have hz := zeroF
      go_upto_region 1 with fail
      generalize hw1 : w.alloc (.cells (msgA m p c) 28) = w1 at *
      have HR0 : Hid (w1.heap[w.heap.size]? = some (.cells (msgA m p c) 28 (0, 0))) := by rw [← hw1]; exact heap_alloc_last _ _
      have HB1 : Hid (Below w.heap.size w w1) := by rw [← hw1]; exact Below.allocs _ _
      have HS1 : Hid (w1.heap.size = w.heap.size + 1) := by show _ = _; rw [← hw1]; simp
      clear hw1
      obtain ⟨a0, a1, a2, a3, a4, a5⟩ := msg_cells HWF.out.hint HR0.out
      have HRG := Lib.hid a5
      clear a5
      go_upto_region 2 with (first
        | ((with_reducible refine wpAt 14 ?_); refine wpList_load_mid rfl 25 _ rfl w.heap.size 4 rfl (idA m.hint).toList _ HRG.out Tryd.underlying25 rfl (by rw [Array.length_toList]; exact sizeH _ HWF.out.hint) ?_)
        | ((with_reducible refine wpAt 15 ?_); refine Rdr.wpList_build rfl 48 _ rfl [(0, .int .i64 m.kind), (1, .int .u32 (m.ses : Int)), (2, .int .u32 (m.seq : Int)), (3, .int .u32 (m.quo : Int)), (4, .agg (idA m.hint))] rfl _ (built_fld _ _ _ _ _ HWF.out.hint) ?_)
        | ((with_reducible refine wpStoreAt 3 ?_); refine wpList_store_row rfl 48 _ _ rfl w1.heap.size (fldA m.kind m.ses m.seq m.quo m.hint) rfl rfl 48 (fldA 0 0 0 0 z16) (heap_alloc_last _ _) (sizeF _ (fldA_size _ _ _ _ _ HWF.out.hint)) (by rw [fldA_size _ _ _ _ _ HWF.out.hint]; rfl) (fldA_one _ _ _ _ _) ?_))
      simp only [Act.put]
      have hr1 : ((w1.alloc (.cells (fldA 0 0 0 0 z16) 48)).setRow w1.heap.size (fldA m.kind m.ses m.seq m.quo m.hint)).heap[w1.heap.size]? = some (.cells (fldA m.kind m.ses m.seq m.quo m.hint) 48 (0, 0)) := setRow_heap _ _ _ _ _ _ (heap_alloc_last _ _)
      have hb2 : Below w1.heap.size w1 ((w1.alloc (.cells (fldA 0 0 0 0 z16) 48)).setRow w1.heap.size (fldA m.kind m.ses m.seq m.quo m.hint)) := below_setRow (Below.allocs _ _) (Nat.le_refl _) _
      have hs2 : ((w1.alloc (.cells (fldA 0 0 0 0 z16) 48)).setRow w1.heap.size (fldA m.kind m.ses m.seq m.quo m.hint)).heap.size = w.heap.size + 2 := by have := HS1.out; simp [World.setRow]; omega
      generalize (w1.alloc (.cells (fldA 0 0 0 0 z16) 48)).setRow w1.heap.size (fldA m.kind m.ses m.seq m.quo m.hint) = w2 at *
      have hr0 := Below.keepOld hb2 HR0.out
      have hlow2 : Below w.heap.size w w2 := HB1.out.trans (hb2.mono HB1.out.size)
      have hs1 := HS1.out
      rw [hs1] at hr1 ⊢
      clear hs1 HS1 HR0 HB1 HRG hb2 a0 a1 a2 a3 a4
      have HR0 := Lib.hid hr0
      have HR1 := Lib.hid hr1
      have HL2 := Lib.hid hlow2
      have HS2 := Lib.hid hs2
      obtain ⟨a0, a1, a2, a3, a4, a5⟩ := msg_cells HWF.out.hint HR0.out
      clear hr0 hr1 hlow2 hs2 a5
      go_upto_region 3 with (first
        | ((with_reducible refine wpAt 20 ?_); refine Rdr.wpList_build rfl 48 _ rfl [(0, .int .i64 m.kind), (1, .int .u32 (m.ses : Int))] rfl _ (built_fld2 _ _) ?_)
        | ((with_reducible refine wpStoreAt 4 ?_); refine wpList_store_row rfl 48 _ _ rfl w2.heap.size (fldA m.kind m.ses 0 0 z16) rfl rfl 48 (fldA 0 0 0 0 z16) (heap_alloc_last _ _) (sizeF _ (fldA_size _ _ _ _ _ z16_len)) rfl (fldA_one _ _ _ _ _) ?_))
      simp only [Act.put]
      have hr2 : ((w2.alloc (.cells (fldA 0 0 0 0 z16) 48)).setRow w2.heap.size (fldA m.kind m.ses 0 0 z16)).heap[w2.heap.size]? = some (.cells (fldA m.kind m.ses 0 0 z16) 48 (0, 0)) := setRow_heap _ _ _ _ _ _ (heap_alloc_last _ _)
      have hb3 : Below w2.heap.size w2 ((w2.alloc (.cells (fldA 0 0 0 0 z16) 48)).setRow w2.heap.size (fldA m.kind m.ses 0 0 z16)) := below_setRow (Below.allocs _ _) (Nat.le_refl _) _
      generalize (w2.alloc (.cells (fldA 0 0 0 0 z16) 48)).setRow w2.heap.size (fldA m.kind m.ses 0 0 z16) = w3 at *
      have hs2 := HS2.out
      rw [hs2] at hr2 ⊢
      have HRT : Hid (RtW w w3 m p c m.kind m.ses 0 0 z16) := ⟨Below.keepOld hb3 HR0.out, Below.keepOld hb3 HR1.out, hr2, HL2.out.trans (hb3.mono HL2.out.size)⟩
      clear hs2 HS2 hr2 hb3 HR0 HR1 HL2 a0 a1 a2 a3 a4
      obtain ⟨a0, a1, a2, a3, a4, a5⟩ := msg_cells HWF.out.hint HRT.out.r0
      have HRG := Lib.hid a5
      clear a5
      obtain ⟨b0, b1, b2, b3⟩ := fld_cells HRT.out.r2
      go_upto_region 9 with fail
      have HK : Hid (∀ w', Turns (fun k => k = w.heap.size + 2) w3 w' → w'.cell? ⟨w.heap.size, 2, none⟩ = some (.int .u32 (m.seq : Int))) := fun w' ht => (msg_cells HWF.out.hint (ht.keep HRT.out.r0 (by omega))).2.2.1
      have HKR : Hid (∀ w', Turns (fun k => k = w.heap.size + 2) w3 w' → w'.rangeAt w.heap.size 4 (idA m.hint).toList) := fun w' ht => (msg_cells HWF.out.hint (ht.keep HRT.out.r0 (by omega))).2.2.2.2.2
      refine wp_region_eager_in (Turns (fun k => k = w.heap.size + 2) w3) [(0, true), (1, true), (2, true), (3, true), (4, true), (5, false), (6, true), (7, false)] (by kernel_rfl) (by kernel_rfl) ?_ (eagerOpen rfl ?_)
      · exact (Turns.refl _ _).drew
      have hrt0 := HRT.out.drew
      have hy0 : Turns (fun k => k = w.heap.size + 2) w3 w3.drew := (Turns.refl _ _).drew
      have b2' : w3.drew.cell? ⟨w.heap.size + 2, 2, none⟩ = some (.int .u32 0) := b2
      have f2' := frozen_of_row _ _ 2 _ _ hrt0.r2
      generalize w3.drew = wd at *
      repeat (first
        | ((with_reducible refine eagerLoadAt 37 ?_); refine wpEager_load (by rfl) 25 _ rfl w.heap.size 4 rfl (idA m.hint) _ (fun w' hb => HKR.out w' hb) Tryd.underlying25 rfl (sizeH _ HWF.out.hint) ?_; (try simp only [Act.put, List.setIfInBounds_toArray, List.set_cons_zero, List.set_cons_succ]); (try refine eagerOpen rfl ?_))
        | (first | (apply wpEager_take; (· rfl); (· (intro w' hb'; go_simp; try with_reducible rfl)); (try simp only [Act.put, List.setIfInBounds_toArray, List.set_cons_zero, List.set_cons_succ]); (try refine eagerOpen rfl ?_)) | (refine wpEager_skip (by rfl) ?_; (try simp only [Act.put, List.setIfInBounds_toArray, List.set_cons_zero, List.set_cons_succ]); (try refine eagerOpen rfl ?_)) | (refine wpEager_off (by rfl) ?_; (try simp only [Act.put, List.setIfInBounds_toArray, List.set_cons_zero, List.set_cons_succ]); (try refine eagerOpen rfl ?_)))
        | (apply wpEager_take; (· rfl); (· (intro w' hb'; have hk' := (HK.out) w' hb'; go_split_ands; go_simp; try with_reducible rfl)); (try simp only [Act.put, List.setIfInBounds_toArray, List.set_cons_zero, List.set_cons_succ]); (try refine eagerOpen rfl ?_)))
      have hrt1 := hrt0.set 2 (.int .u32 (m.seq : Int)) (s' := m.ses) (q' := m.seq) (o' := 0) rfl
      have hy1 := hy0.setCell (p := ⟨w.heap.size + 2, 2, none⟩) (fun _ => rfl) (.int .u32 (m.seq : Int))
      refine wpEager_op (by rfl) (fun K hK => ?_)
      go_simp
      refine Shut.out hK _ _ hy1 ?_
      clear hK K
      (try simp only [Act.put, List.setIfInBounds_toArray, List.set_cons_zero, List.set_cons_succ]); (try refine eagerOpen rfl ?_)
      generalize wd.setCell ⟨w.heap.size + 2, 2, none⟩ (.int .u32 (m.seq : Int)) = we at *
      (first | (apply wpEager_take; (· rfl); (· (intro w' hb'; go_simp; try with_reducible rfl)); (try simp only [Act.put, List.setIfInBounds_toArray, List.set_cons_zero, List.set_cons_succ]); (try refine eagerOpen rfl ?_)) | (refine wpEager_skip (by rfl) ?_; (try simp only [Act.put, List.setIfInBounds_toArray, List.set_cons_zero, List.set_cons_succ]); (try refine eagerOpen rfl ?_)) | (refine wpEager_off (by rfl) ?_; (try simp only [Act.put, List.setIfInBounds_toArray, List.set_cons_zero, List.set_cons_succ]); (try refine eagerOpen rfl ?_)))
      have hrt2 := hrt1.hint z16_len m.hint HWF.out.hint
      have HTH : Hid (we.there (w.heap.size + 2) 4 (idA m.hint).size) := fun j hj => by
        rw [idA_size, HWF.out.hint] at hj
        refine ⟨?_, frozen_of_row _ _ _ _ _ hrt1.r2⟩
        rw [cell_of_row _ _ _ _ _ _ hrt1.r2, Array.getElem?_eq_getElem (by rw [fldA_size _ _ _ _ _ z16_len]; omega)]
        rfl
      refine wpEager_op (by rfl) (fun K hK => oper_of_list rfl ?_)
      refine wpList_store_mid rfl 25 _ _ rfl (w.heap.size + 2) 4 (idA m.hint) rfl rfl HTH.out (sizeH _ HWF.out.hint) (idA_one _) ?_
      refine only_end (Shut.out hK _ _ (turns_setCells (S := fun k => k = w.heap.size + 2) rfl _ _ _ hy1) ?_)
      clear hK K
      (try simp only [Act.put, List.setIfInBounds_toArray, List.set_cons_zero, List.set_cons_succ]); (try refine eagerOpen rfl ?_)
      refine eagerEnd ?_
      have hrt := hrt2
      generalize we.setCells (w.heap.size + 2) 4 (idA m.hint).toList = w4 at *
      clear HRT HRG b0 b1 b2 b3 a0 a1 a2 a3 a4 hrt0 hrt1 hrt2 hy0 hy1 b2' f2'
      have HRT := Lib.hid hrt
      obtain ⟨a0, a1, a2, a3, a4, a5⟩ := msg_cells HWF.out.hint HRT.out.r0
      clear a5 hrt
      have hqf : ∀ w, (Op.equalIn 10000 48 (.agg (fldA m.kind m.ses m.seq m.quo m.hint)) (.agg (fldA m.kind m.ses m.seq 0 m.hint))).run Tryd.prog w = .ok true w := fun w => by rw [eq_fld w _ _ _ _ _ _ _ _ _ _ HWF.out.hint HHL.out]; rw [HFF.out]
      go_wp2_with (first
        | refine wpList_load_row rfl 48 _ rfl (w.heap.size + 1) rfl 48 (fldA m.kind m.ses m.seq m.quo m.hint) (0, 0) _ HRT.out.r1 Tryd.underlying48 rfl (sizeF _ (fldA_size _ _ _ _ _ HWF.out.hint)) ?_
        | refine wpList_load_row rfl 48 _ rfl (w.heap.size + 2) rfl 48 (fldA m.kind m.ses m.seq 0 m.hint) (0, 0) _ HRT.out.r2 Tryd.underlying48 rfl (sizeF _ (fldA_size _ _ _ _ _ HHL.out)) ?_)
      go_ret
      exact ⟨bret (by rw [HRES.out]; first | rfl | simp), HRT.out.low⟩
  by_cases h34 : m.kind = 3 ∨ m.kind = 4
  · obtain ⟨FF, hFF⟩ : ∃ F, decide (m.kind = m.kind ∧ m.ses = m.ses ∧ m.seq = 0 ∧ m.quo = 0 ∧ m.hint = z16) = F := ⟨_, rfl⟩
    obtain ⟨BB, hBB⟩ : ∃ B, ((m.blob.length : Int) == 0) = B := ⟨_, rfl⟩
    obtain ⟨QQ, hQQ⟩ : ∃ Q, decide ((m.quo : Int) < 65536) = Q := ⟨_, rfl⟩
    have hQ2 : decide (m.quo < 65536) = QQ := by rw [← hQQ]; exact decide_eq_decide.2 (by omega)
    have t1 : (m.kind == 1) = false := by rw [beq_eq_false_iff_ne]; exact h1
    have t2 : (m.kind == 2) = false := by rw [beq_eq_false_iff_ne]; exact h2
    have HRES : Hid (decide m.right = (FF && (BB && QQ))) := by
      show _ = _
      rw [← hFF, ← hBB, ← hQQ, Bool.eq_iff_iff]
      simp only [decide_eq_true_eq, Bool.and_eq_true, beq_iff_eq]
      unfold MsgD.right
      constructor
      · rintro (⟨h, _⟩ | ⟨h, _⟩ | ⟨_, h3, h4, h5, h6⟩)
        · exact absurd h h1
        · exact absurd h h2
        · exact ⟨⟨trivial, trivial, h3, h4, h5⟩, by rw [h6]; rfl, by rw [h4]; decide⟩
      · rintro ⟨⟨_, _, h3, h4, h5⟩, h6, _⟩
        exact .inr (.inr ⟨h34, h3, h4, h5, List.length_eq_zero_iff.1 (by omega)⟩)
    have HFF := Lib.hid hFF
    clear hFF
    rcases h34 with h3 | h4
    · have t3 : (m.kind == 3) = true := by rw [beq_iff_eq]; exact h3
      clear h1 h2 h3
      cases FF
      · skip
        go_enter Tryd.func9, Tryd.ntmps9
        have hz := zeroF
        go_upto_region 1 with fail
        generalize hw1 : w.alloc (.cells (msgA m p c) 28) = w1 at *
        have HR0 : Hid (w1.heap[w.heap.size]? = some (.cells (msgA m p c) 28 (0, 0))) := by rw [← hw1]; exact heap_alloc_last _ _
        have HB1 : Hid (Below w.heap.size w w1) := by rw [← hw1]; exact Below.allocs _ _
        have HS1 : Hid (w1.heap.size = w.heap.size + 1) := by show _ = _; rw [← hw1]; simp
        clear hw1
        obtain ⟨a0, a1, a2, a3, a4, a5⟩ := msg_cells HWF.out.hint HR0.out
        have HRG := Lib.hid a5
        clear a5
        go_upto_region 2 with (first
          | ((with_reducible refine wpAt 14 ?_); refine wpList_load_mid rfl 25 _ rfl w.heap.size 4 rfl (idA m.hint).toList _ HRG.out Tryd.underlying25 rfl (by rw [Array.length_toList]; exact sizeH _ HWF.out.hint) ?_)
          | ((with_reducible refine wpAt 15 ?_); refine Rdr.wpList_build rfl 48 _ rfl [(0, .int .i64 m.kind), (1, .int .u32 (m.ses : Int)), (2, .int .u32 (m.seq : Int)), (3, .int .u32 (m.quo : Int)), (4, .agg (idA m.hint))] rfl _ (built_fld _ _ _ _ _ HWF.out.hint) ?_)
          | ((with_reducible refine wpStoreAt 3 ?_); refine wpList_store_row rfl 48 _ _ rfl w1.heap.size (fldA m.kind m.ses m.seq m.quo m.hint) rfl rfl 48 (fldA 0 0 0 0 z16) (heap_alloc_last _ _) (sizeF _ (fldA_size _ _ _ _ _ HWF.out.hint)) (by rw [fldA_size _ _ _ _ _ HWF.out.hint]; rfl) (fldA_one _ _ _ _ _) ?_))
        simp only [Act.put]
        have hr1 : ((w1.alloc (.cells (fldA 0 0 0 0 z16) 48)).setRow w1.heap.size (fldA m.kind m.ses m.seq m.quo m.hint)).heap[w1.heap.size]? = some (.cells (fldA m.kind m.ses m.seq m.quo m.hint) 48 (0, 0)) := setRow_heap _ _ _ _ _ _ (heap_alloc_last _ _)
        have hb2 : Below w1.heap.size w1 ((w1.alloc (.cells (fldA 0 0 0 0 z16) 48)).setRow w1.heap.size (fldA m.kind m.ses m.seq m.quo m.hint)) := below_setRow (Below.allocs _ _) (Nat.le_refl _) _
        have hs2 : ((w1.alloc (.cells (fldA 0 0 0 0 z16) 48)).setRow w1.heap.size (fldA m.kind m.ses m.seq m.quo m.hint)).heap.size = w.heap.size + 2 := by have := HS1.out; simp [World.setRow]; omega
        generalize (w1.alloc (.cells (fldA 0 0 0 0 z16) 48)).setRow w1.heap.size (fldA m.kind m.ses m.seq m.quo m.hint) = w2 at *
        have hr0 := Below.keepOld hb2 HR0.out
        have hlow2 : Below w.heap.size w w2 := HB1.out.trans (hb2.mono HB1.out.size)
        have hs1 := HS1.out
        rw [hs1] at hr1 ⊢
        clear hs1 HS1 HR0 HB1 HRG hb2 a0 a1 a2 a3 a4
        have HR0 := Lib.hid hr0
        have HR1 := Lib.hid hr1
        have HL2 := Lib.hid hlow2
        have HS2 := Lib.hid hs2
        obtain ⟨a0, a1, a2, a3, a4, a5⟩ := msg_cells HWF.out.hint HR0.out
        clear hr0 hr1 hlow2 hs2 a5
        go_upto_region 3 with (first
          | ((with_reducible refine wpAt 20 ?_); refine Rdr.wpList_build rfl 48 _ rfl [(0, .int .i64 m.kind), (1, .int .u32 (m.ses : Int))] rfl _ (built_fld2 _ _) ?_)
          | ((with_reducible refine wpStoreAt 4 ?_); refine wpList_store_row rfl 48 _ _ rfl w2.heap.size (fldA m.kind m.ses 0 0 z16) rfl rfl 48 (fldA 0 0 0 0 z16) (heap_alloc_last _ _) (sizeF _ (fldA_size _ _ _ _ _ z16_len)) rfl (fldA_one _ _ _ _ _) ?_))
        simp only [Act.put]
        have hr2 : ((w2.alloc (.cells (fldA 0 0 0 0 z16) 48)).setRow w2.heap.size (fldA m.kind m.ses 0 0 z16)).heap[w2.heap.size]? = some (.cells (fldA m.kind m.ses 0 0 z16) 48 (0, 0)) := setRow_heap _ _ _ _ _ _ (heap_alloc_last _ _)
        have hb3 : Below w2.heap.size w2 ((w2.alloc (.cells (fldA 0 0 0 0 z16) 48)).setRow w2.heap.size (fldA m.kind m.ses 0 0 z16)) := below_setRow (Below.allocs _ _) (Nat.le_refl _) _
        generalize (w2.alloc (.cells (fldA 0 0 0 0 z16) 48)).setRow w2.heap.size (fldA m.kind m.ses 0 0 z16) = w3 at *
        have hs2 := HS2.out
        rw [hs2] at hr2 ⊢
        have HRT : Hid (RtW w w3 m p c m.kind m.ses 0 0 z16) := ⟨Below.keepOld hb3 HR0.out, Below.keepOld hb3 HR1.out, hr2, HL2.out.trans (hb3.mono HL2.out.size)⟩
        clear hs2 HS2 hr2 hb3 HR0 HR1 HL2 a0 a1 a2 a3 a4
        obtain ⟨a0, a1, a2, a3, a4, a5⟩ := msg_cells HWF.out.hint HRT.out.r0
        have HRG := Lib.hid a5
        clear a5
        have hqf : ∀ w, (Op.equalIn 10000 48 (.agg (fldA m.kind m.ses m.seq m.quo m.hint)) (.agg (fldA m.kind m.ses 0 0 z16))).run Tryd.prog w = .ok false w := fun w => by rw [eq_fld w _ _ _ _ _ _ _ _ _ _ HWF.out.hint HHL.out]; rw [HFF.out]
        go_wp2_with (first
          | refine wpList_load_row rfl 48 _ rfl (w.heap.size + 1) rfl 48 (fldA m.kind m.ses m.seq m.quo m.hint) (0, 0) _ HRT.out.r1 Tryd.underlying48 rfl (sizeF _ (fldA_size _ _ _ _ _ HWF.out.hint)) ?_
          | refine wpList_load_row rfl 48 _ rfl (w.heap.size + 2) rfl 48 (fldA m.kind m.ses 0 0 z16) (0, 0) _ HRT.out.r2 Tryd.underlying48 rfl (sizeF _ (fldA_size _ _ _ _ _ HHL.out)) ?_)
        go_ret
        exact ⟨bret (by rw [HRES.out]; first | rfl | simp), HRT.out.low⟩
      · cases BB
        · skip
          go_enter Tryd.func9, Tryd.ntmps9
          have hz := zeroF
          go_upto_region 1 with fail
          generalize hw1 : w.alloc (.cells (msgA m p c) 28) = w1 at *
          have HR0 : Hid (w1.heap[w.heap.size]? = some (.cells (msgA m p c) 28 (0, 0))) := by rw [← hw1]; exact heap_alloc_last _ _
          have HB1 : Hid (Below w.heap.size w w1) := by rw [← hw1]; exact Below.allocs _ _
          have HS1 : Hid (w1.heap.size = w.heap.size + 1) := by show _ = _; rw [← hw1]; simp
          clear hw1
          obtain ⟨a0, a1, a2, a3, a4, a5⟩ := msg_cells HWF.out.hint HR0.out
          have HRG := Lib.hid a5
          clear a5
          go_upto_region 2 with (first
            | ((with_reducible refine wpAt 14 ?_); refine wpList_load_mid rfl 25 _ rfl w.heap.size 4 rfl (idA m.hint).toList _ HRG.out Tryd.underlying25 rfl (by rw [Array.length_toList]; exact sizeH _ HWF.out.hint) ?_)
            | ((with_reducible refine wpAt 15 ?_); refine Rdr.wpList_build rfl 48 _ rfl [(0, .int .i64 m.kind), (1, .int .u32 (m.ses : Int)), (2, .int .u32 (m.seq : Int)), (3, .int .u32 (m.quo : Int)), (4, .agg (idA m.hint))] rfl _ (built_fld _ _ _ _ _ HWF.out.hint) ?_)
            | ((with_reducible refine wpStoreAt 3 ?_); refine wpList_store_row rfl 48 _ _ rfl w1.heap.size (fldA m.kind m.ses m.seq m.quo m.hint) rfl rfl 48 (fldA 0 0 0 0 z16) (heap_alloc_last _ _) (sizeF _ (fldA_size _ _ _ _ _ HWF.out.hint)) (by rw [fldA_size _ _ _ _ _ HWF.out.hint]; rfl) (fldA_one _ _ _ _ _) ?_))
          simp only [Act.put]
          have hr1 : ((w1.alloc (.cells (fldA 0 0 0 0 z16) 48)).setRow w1.heap.size (fldA m.kind m.ses m.seq m.quo m.hint)).heap[w1.heap.size]? = some (.cells (fldA m.kind m.ses m.seq m.quo m.hint) 48 (0, 0)) := setRow_heap _ _ _ _ _ _ (heap_alloc_last _ _)
          have hb2 : Below w1.heap.size w1 ((w1.alloc (.cells (fldA 0 0 0 0 z16) 48)).setRow w1.heap.size (fldA m.kind m.ses m.seq m.quo m.hint)) := below_setRow (Below.allocs _ _) (Nat.le_refl _) _
          have hs2 : ((w1.alloc (.cells (fldA 0 0 0 0 z16) 48)).setRow w1.heap.size (fldA m.kind m.ses m.seq m.quo m.hint)).heap.size = w.heap.size + 2 := by have := HS1.out; simp [World.setRow]; omega
          generalize (w1.alloc (.cells (fldA 0 0 0 0 z16) 48)).setRow w1.heap.size (fldA m.kind m.ses m.seq m.quo m.hint) = w2 at *
          have hr0 := Below.keepOld hb2 HR0.out
          have hlow2 : Below w.heap.size w w2 := HB1.out.trans (hb2.mono HB1.out.size)
          have hs1 := HS1.out
          rw [hs1] at hr1 ⊢
          clear hs1 HS1 HR0 HB1 HRG hb2 a0 a1 a2 a3 a4
          have HR0 := Lib.hid hr0
          have HR1 := Lib.hid hr1
          have HL2 := Lib.hid hlow2
          have HS2 := Lib.hid hs2
          obtain ⟨a0, a1, a2, a3, a4, a5⟩ := msg_cells HWF.out.hint HR0.out
          clear hr0 hr1 hlow2 hs2 a5
          go_upto_region 3 with (first
            | ((with_reducible refine wpAt 20 ?_); refine Rdr.wpList_build rfl 48 _ rfl [(0, .int .i64 m.kind), (1, .int .u32 (m.ses : Int))] rfl _ (built_fld2 _ _) ?_)
            | ((with_reducible refine wpStoreAt 4 ?_); refine wpList_store_row rfl 48 _ _ rfl w2.heap.size (fldA m.kind m.ses 0 0 z16) rfl rfl 48 (fldA 0 0 0 0 z16) (heap_alloc_last _ _) (sizeF _ (fldA_size _ _ _ _ _ z16_len)) rfl (fldA_one _ _ _ _ _) ?_))
          simp only [Act.put]
          have hr2 : ((w2.alloc (.cells (fldA 0 0 0 0 z16) 48)).setRow w2.heap.size (fldA m.kind m.ses 0 0 z16)).heap[w2.heap.size]? = some (.cells (fldA m.kind m.ses 0 0 z16) 48 (0, 0)) := setRow_heap _ _ _ _ _ _ (heap_alloc_last _ _)
          have hb3 : Below w2.heap.size w2 ((w2.alloc (.cells (fldA 0 0 0 0 z16) 48)).setRow w2.heap.size (fldA m.kind m.ses 0 0 z16)) := below_setRow (Below.allocs _ _) (Nat.le_refl _) _
          generalize (w2.alloc (.cells (fldA 0 0 0 0 z16) 48)).setRow w2.heap.size (fldA m.kind m.ses 0 0 z16) = w3 at *
          have hs2 := HS2.out
          rw [hs2] at hr2 ⊢
          have HRT : Hid (RtW w w3 m p c m.kind m.ses 0 0 z16) := ⟨Below.keepOld hb3 HR0.out, Below.keepOld hb3 HR1.out, hr2, HL2.out.trans (hb3.mono HL2.out.size)⟩
          clear hs2 HS2 hr2 hb3 HR0 HR1 HL2 a0 a1 a2 a3 a4
          obtain ⟨a0, a1, a2, a3, a4, a5⟩ := msg_cells HWF.out.hint HRT.out.r0
          have HRG := Lib.hid a5
          clear a5
          have hqf : ∀ w, (Op.equalIn 10000 48 (.agg (fldA m.kind m.ses m.seq m.quo m.hint)) (.agg (fldA m.kind m.ses 0 0 z16))).run Tryd.prog w = .ok true w := fun w => by rw [eq_fld w _ _ _ _ _ _ _ _ _ _ HWF.out.hint HHL.out]; rw [HFF.out]
          go_wp2_with (first
            | refine wpList_load_row rfl 48 _ rfl (w.heap.size + 1) rfl 48 (fldA m.kind m.ses m.seq m.quo m.hint) (0, 0) _ HRT.out.r1 Tryd.underlying48 rfl (sizeF _ (fldA_size _ _ _ _ _ HWF.out.hint)) ?_
            | refine wpList_load_row rfl 48 _ rfl (w.heap.size + 2) rfl 48 (fldA m.kind m.ses 0 0 z16) (0, 0) _ HRT.out.r2 Tryd.underlying48 rfl (sizeF _ (fldA_size _ _ _ _ _ HHL.out)) ?_)
          go_ret
          exact ⟨bret (by rw [HRES.out]; first | rfl | simp), HRT.out.low⟩
        · skip
          go_enter Tryd.func9, Tryd.ntmps9
          have hz := zeroF
          go_upto_region 1 with fail
          generalize hw1 : w.alloc (.cells (msgA m p c) 28) = w1 at *
          have HR0 : Hid (w1.heap[w.heap.size]? = some (.cells (msgA m p c) 28 (0, 0))) := by rw [← hw1]; exact heap_alloc_last _ _
          have HB1 : Hid (Below w.heap.size w w1) := by rw [← hw1]; exact Below.allocs _ _
          have HS1 : Hid (w1.heap.size = w.heap.size + 1) := by show _ = _; rw [← hw1]; simp
          clear hw1
          obtain ⟨a0, a1, a2, a3, a4, a5⟩ := msg_cells HWF.out.hint HR0.out
          have HRG := Lib.hid a5
          clear a5
          go_upto_region 2 with (first
            | ((with_reducible refine wpAt 14 ?_); refine wpList_load_mid rfl 25 _ rfl w.heap.size 4 rfl (idA m.hint).toList _ HRG.out Tryd.underlying25 rfl (by rw [Array.length_toList]; exact sizeH _ HWF.out.hint) ?_)
            | ((with_reducible refine wpAt 15 ?_); refine Rdr.wpList_build rfl 48 _ rfl [(0, .int .i64 m.kind), (1, .int .u32 (m.ses : Int)), (2, .int .u32 (m.seq : Int)), (3, .int .u32 (m.quo : Int)), (4, .agg (idA m.hint))] rfl _ (built_fld _ _ _ _ _ HWF.out.hint) ?_)
            | ((with_reducible refine wpStoreAt 3 ?_); refine wpList_store_row rfl 48 _ _ rfl w1.heap.size (fldA m.kind m.ses m.seq m.quo m.hint) rfl rfl 48 (fldA 0 0 0 0 z16) (heap_alloc_last _ _) (sizeF _ (fldA_size _ _ _ _ _ HWF.out.hint)) (by rw [fldA_size _ _ _ _ _ HWF.out.hint]; rfl) (fldA_one _ _ _ _ _) ?_))
          simp only [Act.put]
          have hr1 : ((w1.alloc (.cells (fldA 0 0 0 0 z16) 48)).setRow w1.heap.size (fldA m.kind m.ses m.seq m.quo m.hint)).heap[w1.heap.size]? = some (.cells (fldA m.kind m.ses m.seq m.quo m.hint) 48 (0, 0)) := setRow_heap _ _ _ _ _ _ (heap_alloc_last _ _)
          have hb2 : Below w1.heap.size w1 ((w1.alloc (.cells (fldA 0 0 0 0 z16) 48)).setRow w1.heap.size (fldA m.kind m.ses m.seq m.quo m.hint)) := below_setRow (Below.allocs _ _) (Nat.le_refl _) _
          have hs2 : ((w1.alloc (.cells (fldA 0 0 0 0 z16) 48)).setRow w1.heap.size (fldA m.kind m.ses m.seq m.quo m.hint)).heap.size = w.heap.size + 2 := by have := HS1.out; simp [World.setRow]; omega
          generalize (w1.alloc (.cells (fldA 0 0 0 0 z16) 48)).setRow w1.heap.size (fldA m.kind m.ses m.seq m.quo m.hint) = w2 at *
          have hr0 := Below.keepOld hb2 HR0.out
          have hlow2 : Below w.heap.size w w2 := HB1.out.trans (hb2.mono HB1.out.size)
          have hs1 := HS1.out
          rw [hs1] at hr1 ⊢
          clear hs1 HS1 HR0 HB1 HRG hb2 a0 a1 a2 a3 a4
          have HR0 := Lib.hid hr0
          have HR1 := Lib.hid hr1
          have HL2 := Lib.hid hlow2
          have HS2 := Lib.hid hs2
          obtain ⟨a0, a1, a2, a3, a4, a5⟩ := msg_cells HWF.out.hint HR0.out
          clear hr0 hr1 hlow2 hs2 a5
          go_upto_region 3 with (first
            | ((with_reducible refine wpAt 20 ?_); refine Rdr.wpList_build rfl 48 _ rfl [(0, .int .i64 m.kind), (1, .int .u32 (m.ses : Int))] rfl _ (built_fld2 _ _) ?_)
            | ((with_reducible refine wpStoreAt 4 ?_); refine wpList_store_row rfl 48 _ _ rfl w2.heap.size (fldA m.kind m.ses 0 0 z16) rfl rfl 48 (fldA 0 0 0 0 z16) (heap_alloc_last _ _) (sizeF _ (fldA_size _ _ _ _ _ z16_len)) rfl (fldA_one _ _ _ _ _) ?_))
          simp only [Act.put]
          have hr2 : ((w2.alloc (.cells (fldA 0 0 0 0 z16) 48)).setRow w2.heap.size (fldA m.kind m.ses 0 0 z16)).heap[w2.heap.size]? = some (.cells (fldA m.kind m.ses 0 0 z16) 48 (0, 0)) := setRow_heap _ _ _ _ _ _ (heap_alloc_last _ _)
          have hb3 : Below w2.heap.size w2 ((w2.alloc (.cells (fldA 0 0 0 0 z16) 48)).setRow w2.heap.size (fldA m.kind m.ses 0 0 z16)) := below_setRow (Below.allocs _ _) (Nat.le_refl _) _
          generalize (w2.alloc (.cells (fldA 0 0 0 0 z16) 48)).setRow w2.heap.size (fldA m.kind m.ses 0 0 z16) = w3 at *
          have hs2 := HS2.out
          rw [hs2] at hr2 ⊢
          have HRT : Hid (RtW w w3 m p c m.kind m.ses 0 0 z16) := ⟨Below.keepOld hb3 HR0.out, Below.keepOld hb3 HR1.out, hr2, HL2.out.trans (hb3.mono HL2.out.size)⟩
          clear hs2 HS2 hr2 hb3 HR0 HR1 HL2 a0 a1 a2 a3 a4
          obtain ⟨a0, a1, a2, a3, a4, a5⟩ := msg_cells HWF.out.hint HRT.out.r0
          have HRG := Lib.hid a5
          clear a5
          have hqf : ∀ w, (Op.equalIn 10000 48 (.agg (fldA m.kind m.ses m.seq m.quo m.hint)) (.agg (fldA m.kind m.ses 0 0 z16))).run Tryd.prog w = .ok true w := fun w => by rw [eq_fld w _ _ _ _ _ _ _ _ _ _ HWF.out.hint HHL.out]; rw [HFF.out]
          go_wp2_with (first
            | refine wpList_load_row rfl 48 _ rfl (w.heap.size + 1) rfl 48 (fldA m.kind m.ses m.seq m.quo m.hint) (0, 0) _ HRT.out.r1 Tryd.underlying48 rfl (sizeF _ (fldA_size _ _ _ _ _ HWF.out.hint)) ?_
            | refine wpList_load_row rfl 48 _ rfl (w.heap.size + 2) rfl 48 (fldA m.kind m.ses 0 0 z16) (0, 0) _ HRT.out.r2 Tryd.underlying48 rfl (sizeF _ (fldA_size _ _ _ _ _ HHL.out)) ?_)
          go_ret
          exact ⟨bret (by rw [HRES.out]; first | rfl | simp), HRT.out.low⟩
    · have t3 : (m.kind == 3) = false := by rw [beq_eq_false_iff_ne]; omega
      have t4 : (m.kind == 4) = true := by rw [beq_iff_eq]; exact h4
      clear h1 h2 h4
      cases FF
      · skip
        go_enter Tryd.func9, Tryd.ntmps9
        have hz := zeroF
        go_upto_region 1 with fail
        generalize hw1 : w.alloc (.cells (msgA m p c) 28) = w1 at *
        have HR0 : Hid (w1.heap[w.heap.size]? = some (.cells (msgA m p c) 28 (0, 0))) := by rw [← hw1]; exact heap_alloc_last _ _
        have HB1 : Hid (Below w.heap.size w w1) := by rw [← hw1]; exact Below.allocs _ _
        have HS1 : Hid (w1.heap.size = w.heap.size + 1) := by show _ = _; rw [← hw1]; simp
        clear hw1
        obtain ⟨a0, a1, a2, a3, a4, a5⟩ := msg_cells HWF.out.hint HR0.out
        have HRG := Lib.hid a5
        clear a5
        go_upto_region 2 with (first
          | ((with_reducible refine wpAt 14 ?_); refine wpList_load_mid rfl 25 _ rfl w.heap.size 4 rfl (idA m.hint).toList _ HRG.out Tryd.underlying25 rfl (by rw [Array.length_toList]; exact sizeH _ HWF.out.hint) ?_)
          | ((with_reducible refine wpAt 15 ?_); refine Rdr.wpList_build rfl 48 _ rfl [(0, .int .i64 m.kind), (1, .int .u32 (m.ses : Int)), (2, .int .u32 (m.seq : Int)), (3, .int .u32 (m.quo : Int)), (4, .agg (idA m.hint))] rfl _ (built_fld _ _ _ _ _ HWF.out.hint) ?_)
          | ((with_reducible refine wpStoreAt 3 ?_); refine wpList_store_row rfl 48 _ _ rfl w1.heap.size (fldA m.kind m.ses m.seq m.quo m.hint) rfl rfl 48 (fldA 0 0 0 0 z16) (heap_alloc_last _ _) (sizeF _ (fldA_size _ _ _ _ _ HWF.out.hint)) (by rw [fldA_size _ _ _ _ _ HWF.out.hint]; rfl) (fldA_one _ _ _ _ _) ?_))
        simp only [Act.put]
        have hr1 : ((w1.alloc (.cells (fldA 0 0 0 0 z16) 48)).setRow w1.heap.size (fldA m.kind m.ses m.seq m.quo m.hint)).heap[w1.heap.size]? = some (.cells (fldA m.kind m.ses m.seq m.quo m.hint) 48 (0, 0)) := setRow_heap _ _ _ _ _ _ (heap_alloc_last _ _)
        have hb2 : Below w1.heap.size w1 ((w1.alloc (.cells (fldA 0 0 0 0 z16) 48)).setRow w1.heap.size (fldA m.kind m.ses m.seq m.quo m.hint)) := below_setRow (Below.allocs _ _) (Nat.le_refl _) _
        have hs2 : ((w1.alloc (.cells (fldA 0 0 0 0 z16) 48)).setRow w1.heap.size (fldA m.kind m.ses m.seq m.quo m.hint)).heap.size = w.heap.size + 2 := by have := HS1.out; simp [World.setRow]; omega
        generalize (w1.alloc (.cells (fldA 0 0 0 0 z16) 48)).setRow w1.heap.size (fldA m.kind m.ses m.seq m.quo m.hint) = w2 at *
        have hr0 := Below.keepOld hb2 HR0.out
        have hlow2 : Below w.heap.size w w2 := HB1.out.trans (hb2.mono HB1.out.size)
        have hs1 := HS1.out
        rw [hs1] at hr1 ⊢
        clear hs1 HS1 HR0 HB1 HRG hb2 a0 a1 a2 a3 a4
        have HR0 := Lib.hid hr0
        have HR1 := Lib.hid hr1
        have HL2 := Lib.hid hlow2
        have HS2 := Lib.hid hs2
        obtain ⟨a0, a1, a2, a3, a4, a5⟩ := msg_cells HWF.out.hint HR0.out
        clear hr0 hr1 hlow2 hs2 a5
        go_upto_region 3 with (first
          | ((with_reducible refine wpAt 20 ?_); refine Rdr.wpList_build rfl 48 _ rfl [(0, .int .i64 m.kind), (1, .int .u32 (m.ses : Int))] rfl _ (built_fld2 _ _) ?_)
          | ((with_reducible refine wpStoreAt 4 ?_); refine wpList_store_row rfl 48 _ _ rfl w2.heap.size (fldA m.kind m.ses 0 0 z16) rfl rfl 48 (fldA 0 0 0 0 z16) (heap_alloc_last _ _) (sizeF _ (fldA_size _ _ _ _ _ z16_len)) rfl (fldA_one _ _ _ _ _) ?_))
        simp only [Act.put]
        have hr2 : ((w2.alloc (.cells (fldA 0 0 0 0 z16) 48)).setRow w2.heap.size (fldA m.kind m.ses 0 0 z16)).heap[w2.heap.size]? = some (.cells (fldA m.kind m.ses 0 0 z16) 48 (0, 0)) := setRow_heap _ _ _ _ _ _ (heap_alloc_last _ _)
        have hb3 : Below w2.heap.size w2 ((w2.alloc (.cells (fldA 0 0 0 0 z16) 48)).setRow w2.heap.size (fldA m.kind m.ses 0 0 z16)) := below_setRow (Below.allocs _ _) (Nat.le_refl _) _
        generalize (w2.alloc (.cells (fldA 0 0 0 0 z16) 48)).setRow w2.heap.size (fldA m.kind m.ses 0 0 z16) = w3 at *
        have hs2 := HS2.out
        rw [hs2] at hr2 ⊢
        have HRT : Hid (RtW w w3 m p c m.kind m.ses 0 0 z16) := ⟨Below.keepOld hb3 HR0.out, Below.keepOld hb3 HR1.out, hr2, HL2.out.trans (hb3.mono HL2.out.size)⟩
        clear hs2 HS2 hr2 hb3 HR0 HR1 HL2 a0 a1 a2 a3 a4
        obtain ⟨a0, a1, a2, a3, a4, a5⟩ := msg_cells HWF.out.hint HRT.out.r0
        have HRG := Lib.hid a5
        clear a5
        have hqf : ∀ w, (Op.equalIn 10000 48 (.agg (fldA m.kind m.ses m.seq m.quo m.hint)) (.agg (fldA m.kind m.ses 0 0 z16))).run Tryd.prog w = .ok false w := fun w => by rw [eq_fld w _ _ _ _ _ _ _ _ _ _ HWF.out.hint HHL.out]; rw [HFF.out]
        go_wp2_with (first
          | refine wpList_load_row rfl 48 _ rfl (w.heap.size + 1) rfl 48 (fldA m.kind m.ses m.seq m.quo m.hint) (0, 0) _ HRT.out.r1 Tryd.underlying48 rfl (sizeF _ (fldA_size _ _ _ _ _ HWF.out.hint)) ?_
          | refine wpList_load_row rfl 48 _ rfl (w.heap.size + 2) rfl 48 (fldA m.kind m.ses 0 0 z16) (0, 0) _ HRT.out.r2 Tryd.underlying48 rfl (sizeF _ (fldA_size _ _ _ _ _ HHL.out)) ?_)
        go_ret
        exact ⟨bret (by rw [HRES.out]; first | rfl | simp), HRT.out.low⟩
      · cases BB
        · skip
          go_enter Tryd.func9, Tryd.ntmps9
          have hz := zeroF
          go_upto_region 1 with fail
          generalize hw1 : w.alloc (.cells (msgA m p c) 28) = w1 at *
          have HR0 : Hid (w1.heap[w.heap.size]? = some (.cells (msgA m p c) 28 (0, 0))) := by rw [← hw1]; exact heap_alloc_last _ _
          have HB1 : Hid (Below w.heap.size w w1) := by rw [← hw1]; exact Below.allocs _ _
          have HS1 : Hid (w1.heap.size = w.heap.size + 1) := by show _ = _; rw [← hw1]; simp
          clear hw1
          obtain ⟨a0, a1, a2, a3, a4, a5⟩ := msg_cells HWF.out.hint HR0.out
          have HRG := Lib.hid a5
          clear a5
          go_upto_region 2 with (first
            | ((with_reducible refine wpAt 14 ?_); refine wpList_load_mid rfl 25 _ rfl w.heap.size 4 rfl (idA m.hint).toList _ HRG.out Tryd.underlying25 rfl (by rw [Array.length_toList]; exact sizeH _ HWF.out.hint) ?_)
            | ((with_reducible refine wpAt 15 ?_); refine Rdr.wpList_build rfl 48 _ rfl [(0, .int .i64 m.kind), (1, .int .u32 (m.ses : Int)), (2, .int .u32 (m.seq : Int)), (3, .int .u32 (m.quo : Int)), (4, .agg (idA m.hint))] rfl _ (built_fld _ _ _ _ _ HWF.out.hint) ?_)
            | ((with_reducible refine wpStoreAt 3 ?_); refine wpList_store_row rfl 48 _ _ rfl w1.heap.size (fldA m.kind m.ses m.seq m.quo m.hint) rfl rfl 48 (fldA 0 0 0 0 z16) (heap_alloc_last _ _) (sizeF _ (fldA_size _ _ _ _ _ HWF.out.hint)) (by rw [fldA_size _ _ _ _ _ HWF.out.hint]; rfl) (fldA_one _ _ _ _ _) ?_))
          simp only [Act.put]
          have hr1 : ((w1.alloc (.cells (fldA 0 0 0 0 z16) 48)).setRow w1.heap.size (fldA m.kind m.ses m.seq m.quo m.hint)).heap[w1.heap.size]? = some (.cells (fldA m.kind m.ses m.seq m.quo m.hint) 48 (0, 0)) := setRow_heap _ _ _ _ _ _ (heap_alloc_last _ _)
          have hb2 : Below w1.heap.size w1 ((w1.alloc (.cells (fldA 0 0 0 0 z16) 48)).setRow w1.heap.size (fldA m.kind m.ses m.seq m.quo m.hint)) := below_setRow (Below.allocs _ _) (Nat.le_refl _) _
          have hs2 : ((w1.alloc (.cells (fldA 0 0 0 0 z16) 48)).setRow w1.heap.size (fldA m.kind m.ses m.seq m.quo m.hint)).heap.size = w.heap.size + 2 := by have := HS1.out; simp [World.setRow]; omega
          generalize (w1.alloc (.cells (fldA 0 0 0 0 z16) 48)).setRow w1.heap.size (fldA m.kind m.ses m.seq m.quo m.hint) = w2 at *
          have hr0 := Below.keepOld hb2 HR0.out
          have hlow2 : Below w.heap.size w w2 := HB1.out.trans (hb2.mono HB1.out.size)
          have hs1 := HS1.out
          rw [hs1] at hr1 ⊢
          clear hs1 HS1 HR0 HB1 HRG hb2 a0 a1 a2 a3 a4
          have HR0 := Lib.hid hr0
          have HR1 := Lib.hid hr1
          have HL2 := Lib.hid hlow2
          have HS2 := Lib.hid hs2
          obtain ⟨a0, a1, a2, a3, a4, a5⟩ := msg_cells HWF.out.hint HR0.out
          clear hr0 hr1 hlow2 hs2 a5
          go_upto_region 3 with (first
            | ((with_reducible refine wpAt 20 ?_); refine Rdr.wpList_build rfl 48 _ rfl [(0, .int .i64 m.kind), (1, .int .u32 (m.ses : Int))] rfl _ (built_fld2 _ _) ?_)
            | ((with_reducible refine wpStoreAt 4 ?_); refine wpList_store_row rfl 48 _ _ rfl w2.heap.size (fldA m.kind m.ses 0 0 z16) rfl rfl 48 (fldA 0 0 0 0 z16) (heap_alloc_last _ _) (sizeF _ (fldA_size _ _ _ _ _ z16_len)) rfl (fldA_one _ _ _ _ _) ?_))
          simp only [Act.put]
          have hr2 : ((w2.alloc (.cells (fldA 0 0 0 0 z16) 48)).setRow w2.heap.size (fldA m.kind m.ses 0 0 z16)).heap[w2.heap.size]? = some (.cells (fldA m.kind m.ses 0 0 z16) 48 (0, 0)) := setRow_heap _ _ _ _ _ _ (heap_alloc_last _ _)
          have hb3 : Below w2.heap.size w2 ((w2.alloc (.cells (fldA 0 0 0 0 z16) 48)).setRow w2.heap.size (fldA m.kind m.ses 0 0 z16)) := below_setRow (Below.allocs _ _) (Nat.le_refl _) _
          generalize (w2.alloc (.cells (fldA 0 0 0 0 z16) 48)).setRow w2.heap.size (fldA m.kind m.ses 0 0 z16) = w3 at *
          have hs2 := HS2.out
          rw [hs2] at hr2 ⊢
          have HRT : Hid (RtW w w3 m p c m.kind m.ses 0 0 z16) := ⟨Below.keepOld hb3 HR0.out, Below.keepOld hb3 HR1.out, hr2, HL2.out.trans (hb3.mono HL2.out.size)⟩
          clear hs2 HS2 hr2 hb3 HR0 HR1 HL2 a0 a1 a2 a3 a4
          obtain ⟨a0, a1, a2, a3, a4, a5⟩ := msg_cells HWF.out.hint HRT.out.r0
          have HRG := Lib.hid a5
          clear a5
          have hqf : ∀ w, (Op.equalIn 10000 48 (.agg (fldA m.kind m.ses m.seq m.quo m.hint)) (.agg (fldA m.kind m.ses 0 0 z16))).run Tryd.prog w = .ok true w := fun w => by rw [eq_fld w _ _ _ _ _ _ _ _ _ _ HWF.out.hint HHL.out]; rw [HFF.out]
          go_wp2_with (first
            | refine wpList_load_row rfl 48 _ rfl (w.heap.size + 1) rfl 48 (fldA m.kind m.ses m.seq m.quo m.hint) (0, 0) _ HRT.out.r1 Tryd.underlying48 rfl (sizeF _ (fldA_size _ _ _ _ _ HWF.out.hint)) ?_
            | refine wpList_load_row rfl 48 _ rfl (w.heap.size + 2) rfl 48 (fldA m.kind m.ses 0 0 z16) (0, 0) _ HRT.out.r2 Tryd.underlying48 rfl (sizeF _ (fldA_size _ _ _ _ _ HHL.out)) ?_)
          go_ret
          exact ⟨bret (by rw [HRES.out]; first | rfl | simp), HRT.out.low⟩
        · skip
          go_enter Tryd.func9, Tryd.ntmps9
          have hz := zeroF
          go_upto_region 1 with fail
          generalize hw1 : w.alloc (.cells (msgA m p c) 28) = w1 at *
          have HR0 : Hid (w1.heap[w.heap.size]? = some (.cells (msgA m p c) 28 (0, 0))) := by rw [← hw1]; exact heap_alloc_last _ _
          have HB1 : Hid (Below w.heap.size w w1) := by rw [← hw1]; exact Below.allocs _ _
          have HS1 : Hid (w1.heap.size = w.heap.size + 1) := by show _ = _; rw [← hw1]; simp
          clear hw1
          obtain ⟨a0, a1, a2, a3, a4, a5⟩ := msg_cells HWF.out.hint HR0.out
          have HRG := Lib.hid a5
          clear a5
          go_upto_region 2 with (first
            | ((with_reducible refine wpAt 14 ?_); refine wpList_load_mid rfl 25 _ rfl w.heap.size 4 rfl (idA m.hint).toList _ HRG.out Tryd.underlying25 rfl (by rw [Array.length_toList]; exact sizeH _ HWF.out.hint) ?_)
            | ((with_reducible refine wpAt 15 ?_); refine Rdr.wpList_build rfl 48 _ rfl [(0, .int .i64 m.kind), (1, .int .u32 (m.ses : Int)), (2, .int .u32 (m.seq : Int)), (3, .int .u32 (m.quo : Int)), (4, .agg (idA m.hint))] rfl _ (built_fld _ _ _ _ _ HWF.out.hint) ?_)
            | ((with_reducible refine wpStoreAt 3 ?_); refine wpList_store_row rfl 48 _ _ rfl w1.heap.size (fldA m.kind m.ses m.seq m.quo m.hint) rfl rfl 48 (fldA 0 0 0 0 z16) (heap_alloc_last _ _) (sizeF _ (fldA_size _ _ _ _ _ HWF.out.hint)) (by rw [fldA_size _ _ _ _ _ HWF.out.hint]; rfl) (fldA_one _ _ _ _ _) ?_))
          simp only [Act.put]
          have hr1 : ((w1.alloc (.cells (fldA 0 0 0 0 z16) 48)).setRow w1.heap.size (fldA m.kind m.ses m.seq m.quo m.hint)).heap[w1.heap.size]? = some (.cells (fldA m.kind m.ses m.seq m.quo m.hint) 48 (0, 0)) := setRow_heap _ _ _ _ _ _ (heap_alloc_last _ _)
          have hb2 : Below w1.heap.size w1 ((w1.alloc (.cells (fldA 0 0 0 0 z16) 48)).setRow w1.heap.size (fldA m.kind m.ses m.seq m.quo m.hint)) := below_setRow (Below.allocs _ _) (Nat.le_refl _) _
          have hs2 : ((w1.alloc (.cells (fldA 0 0 0 0 z16) 48)).setRow w1.heap.size (fldA m.kind m.ses m.seq m.quo m.hint)).heap.size = w.heap.size + 2 := by have := HS1.out; simp [World.setRow]; omega
          generalize (w1.alloc (.cells (fldA 0 0 0 0 z16) 48)).setRow w1.heap.size (fldA m.kind m.ses m.seq m.quo m.hint) = w2 at *
          have hr0 := Below.keepOld hb2 HR0.out
          have hlow2 : Below w.heap.size w w2 := HB1.out.trans (hb2.mono HB1.out.size)
          have hs1 := HS1.out
          rw [hs1] at hr1 ⊢
          clear hs1 HS1 HR0 HB1 HRG hb2 a0 a1 a2 a3 a4
          have HR0 := Lib.hid hr0
          have HR1 := Lib.hid hr1
          have HL2 := Lib.hid hlow2
          have HS2 := Lib.hid hs2
          obtain ⟨a0, a1, a2, a3, a4, a5⟩ := msg_cells HWF.out.hint HR0.out
          clear hr0 hr1 hlow2 hs2 a5
          go_upto_region 3 with (first
            | ((with_reducible refine wpAt 20 ?_); refine Rdr.wpList_build rfl 48 _ rfl [(0, .int .i64 m.kind), (1, .int .u32 (m.ses : Int))] rfl _ (built_fld2 _ _) ?_)
            | ((with_reducible refine wpStoreAt 4 ?_); refine wpList_store_row rfl 48 _ _ rfl w2.heap.size (fldA m.kind m.ses 0 0 z16) rfl rfl 48 (fldA 0 0 0 0 z16) (heap_alloc_last _ _) (sizeF _ (fldA_size _ _ _ _ _ z16_len)) rfl (fldA_one _ _ _ _ _) ?_))
          simp only [Act.put]
          have hr2 : ((w2.alloc (.cells (fldA 0 0 0 0 z16) 48)).setRow w2.heap.size (fldA m.kind m.ses 0 0 z16)).heap[w2.heap.size]? = some (.cells (fldA m.kind m.ses 0 0 z16) 48 (0, 0)) := setRow_heap _ _ _ _ _ _ (heap_alloc_last _ _)
          have hb3 : Below w2.heap.size w2 ((w2.alloc (.cells (fldA 0 0 0 0 z16) 48)).setRow w2.heap.size (fldA m.kind m.ses 0 0 z16)) := below_setRow (Below.allocs _ _) (Nat.le_refl _) _
          generalize (w2.alloc (.cells (fldA 0 0 0 0 z16) 48)).setRow w2.heap.size (fldA m.kind m.ses 0 0 z16) = w3 at *
          have hs2 := HS2.out
          rw [hs2] at hr2 ⊢
          have HRT : Hid (RtW w w3 m p c m.kind m.ses 0 0 z16) := ⟨Below.keepOld hb3 HR0.out, Below.keepOld hb3 HR1.out, hr2, HL2.out.trans (hb3.mono HL2.out.size)⟩
          clear hs2 HS2 hr2 hb3 HR0 HR1 HL2 a0 a1 a2 a3 a4
          obtain ⟨a0, a1, a2, a3, a4, a5⟩ := msg_cells HWF.out.hint HRT.out.r0
          have HRG := Lib.hid a5
          clear a5
          have hqf : ∀ w, (Op.equalIn 10000 48 (.agg (fldA m.kind m.ses m.seq m.quo m.hint)) (.agg (fldA m.kind m.ses 0 0 z16))).run Tryd.prog w = .ok true w := fun w => by rw [eq_fld w _ _ _ _ _ _ _ _ _ _ HWF.out.hint HHL.out]; rw [HFF.out]
          go_wp2_with (first
            | refine wpList_load_row rfl 48 _ rfl (w.heap.size + 1) rfl 48 (fldA m.kind m.ses m.seq m.quo m.hint) (0, 0) _ HRT.out.r1 Tryd.underlying48 rfl (sizeF _ (fldA_size _ _ _ _ _ HWF.out.hint)) ?_
            | refine wpList_load_row rfl 48 _ rfl (w.heap.size + 2) rfl 48 (fldA m.kind m.ses 0 0 z16) (0, 0) _ HRT.out.r2 Tryd.underlying48 rfl (sizeF _ (fldA_size _ _ _ _ _ HHL.out)) ?_)
          go_ret
          exact ⟨bret (by rw [HRES.out]; first | rfl | simp), HRT.out.low⟩
  · have t1 : (m.kind == 1) = false := by rw [beq_eq_false_iff_ne]; exact h1
    have t2 : (m.kind == 2) = false := by rw [beq_eq_false_iff_ne]; exact h2
    have t3 : (m.kind == 3) = false := by rw [beq_eq_false_iff_ne]; omega
    have t4 : (m.kind == 4) = false := by rw [beq_eq_false_iff_ne]; omega
    have HRES : Hid (decide m.right = false) := decide_eq_false (by unfold MsgD.right; omega)
    clear h1 h2 h34
    go_enter Tryd.func9, Tryd.ntmps9
    have hz := zeroF
    go_upto_region 1 with fail
    generalize hw1 : w.alloc (.cells (msgA m p c) 28) = w1 at *
    have HR0 : Hid (w1.heap[w.heap.size]? = some (.cells (msgA m p c) 28 (0, 0))) := by rw [← hw1]; exact heap_alloc_last _ _
    have HB1 : Hid (Below w.heap.size w w1) := by rw [← hw1]; exact Below.allocs _ _
    have HS1 : Hid (w1.heap.size = w.heap.size + 1) := by show _ = _; rw [← hw1]; simp
    clear hw1
    obtain ⟨a0, a1, a2, a3, a4, a5⟩ := msg_cells HWF.out.hint HR0.out
    have HRG := Lib.hid a5
    clear a5
    go_upto_region 2 with (first
      | ((with_reducible refine wpAt 14 ?_); refine wpList_load_mid rfl 25 _ rfl w.heap.size 4 rfl (idA m.hint).toList _ HRG.out Tryd.underlying25 rfl (by rw [Array.length_toList]; exact sizeH _ HWF.out.hint) ?_)
      | ((with_reducible refine wpAt 15 ?_); refine Rdr.wpList_build rfl 48 _ rfl [(0, .int .i64 m.kind), (1, .int .u32 (m.ses : Int)), (2, .int .u32 (m.seq : Int)), (3, .int .u32 (m.quo : Int)), (4, .agg (idA m.hint))] rfl _ (built_fld _ _ _ _ _ HWF.out.hint) ?_)
      | ((with_reducible refine wpStoreAt 3 ?_); refine wpList_store_row rfl 48 _ _ rfl w1.heap.size (fldA m.kind m.ses m.seq m.quo m.hint) rfl rfl 48 (fldA 0 0 0 0 z16) (heap_alloc_last _ _) (sizeF _ (fldA_size _ _ _ _ _ HWF.out.hint)) (by rw [fldA_size _ _ _ _ _ HWF.out.hint]; rfl) (fldA_one _ _ _ _ _) ?_))
    simp only [Act.put]
    have hr1 : ((w1.alloc (.cells (fldA 0 0 0 0 z16) 48)).setRow w1.heap.size (fldA m.kind m.ses m.seq m.quo m.hint)).heap[w1.heap.size]? = some (.cells (fldA m.kind m.ses m.seq m.quo m.hint) 48 (0, 0)) := setRow_heap _ _ _ _ _ _ (heap_alloc_last _ _)
    have hb2 : Below w1.heap.size w1 ((w1.alloc (.cells (fldA 0 0 0 0 z16) 48)).setRow w1.heap.size (fldA m.kind m.ses m.seq m.quo m.hint)) := below_setRow (Below.allocs _ _) (Nat.le_refl _) _
    have hs2 : ((w1.alloc (.cells (fldA 0 0 0 0 z16) 48)).setRow w1.heap.size (fldA m.kind m.ses m.seq m.quo m.hint)).heap.size = w.heap.size + 2 := by have := HS1.out; simp [World.setRow]; omega
    generalize (w1.alloc (.cells (fldA 0 0 0 0 z16) 48)).setRow w1.heap.size (fldA m.kind m.ses m.seq m.quo m.hint) = w2 at *
    have hr0 := Below.keepOld hb2 HR0.out
    have hlow2 : Below w.heap.size w w2 := HB1.out.trans (hb2.mono HB1.out.size)
    have hs1 := HS1.out
    rw [hs1] at hr1 ⊢
    clear hs1 HS1 HR0 HB1 HRG hb2 a0 a1 a2 a3 a4
    have HR0 := Lib.hid hr0
    have HR1 := Lib.hid hr1
    have HL2 := Lib.hid hlow2
    have HS2 := Lib.hid hs2
    obtain ⟨a0, a1, a2, a3, a4, a5⟩ := msg_cells HWF.out.hint HR0.out
    clear hr0 hr1 hlow2 hs2 a5
    go_upto_region 3 with (first
      | ((with_reducible refine wpAt 20 ?_); refine Rdr.wpList_build rfl 48 _ rfl [(0, .int .i64 m.kind), (1, .int .u32 (m.ses : Int))] rfl _ (built_fld2 _ _) ?_)
      | ((with_reducible refine wpStoreAt 4 ?_); refine wpList_store_row rfl 48 _ _ rfl w2.heap.size (fldA m.kind m.ses 0 0 z16) rfl rfl 48 (fldA 0 0 0 0 z16) (heap_alloc_last _ _) (sizeF _ (fldA_size _ _ _ _ _ z16_len)) rfl (fldA_one _ _ _ _ _) ?_))
    simp only [Act.put]
    have hr2 : ((w2.alloc (.cells (fldA 0 0 0 0 z16) 48)).setRow w2.heap.size (fldA m.kind m.ses 0 0 z16)).heap[w2.heap.size]? = some (.cells (fldA m.kind m.ses 0 0 z16) 48 (0, 0)) := setRow_heap _ _ _ _ _ _ (heap_alloc_last _ _)
    have hb3 : Below w2.heap.size w2 ((w2.alloc (.cells (fldA 0 0 0 0 z16) 48)).setRow w2.heap.size (fldA m.kind m.ses 0 0 z16)) := below_setRow (Below.allocs _ _) (Nat.le_refl _) _
    generalize (w2.alloc (.cells (fldA 0 0 0 0 z16) 48)).setRow w2.heap.size (fldA m.kind m.ses 0 0 z16) = w3 at *
    have hs2 := HS2.out
    rw [hs2] at hr2 ⊢
    have HRT : Hid (RtW w w3 m p c m.kind m.ses 0 0 z16) := ⟨Below.keepOld hb3 HR0.out, Below.keepOld hb3 HR1.out, hr2, HL2.out.trans (hb3.mono HL2.out.size)⟩
    clear hs2 HS2 hr2 hb3 HR0 HR1 HL2 a0 a1 a2 a3 a4
    obtain ⟨a0, a1, a2, a3, a4, a5⟩ := msg_cells HWF.out.hint HRT.out.r0
    have HRG := Lib.hid a5
    clear a5
    go_wp2_with fail
    go_ret
    exact ⟨bret HRES.out.symm, HRT.out.low⟩
end Go.Proofs.YtmjdpfmofbbknaaDoor.Msg
