/- MESSAGES IN MEMORY: their cells, and whether fields are the same. Conditions: none. -/
import Derived.Test.YtmjdpfmofbbknaaDoorMsgP
import Derived.Laws.StructEq
namespace Go.Proofs.YtmjdpfmofbbknaaDoor.Msg
open Go.RowKit Go.Mir Go.Mir.Parts Wr Cod

def msgL (m : MsgD) (p : Option Addr) (c : Nat) : List Value := [.int .i64 m.kind, .int .u32 (m.ses : Int), .int .u32 (m.seq : Int), .int .u32 (m.quo : Int)] ++ (bytesV m.hint ++ [.slice p m.blob.length c])
def msgA (m : MsgD) (p : Option Addr) (c : Nat) : Array Value := (msgL m p c).toArray
structure MsgAt (w : World) (m : MsgD) (p : Option Addr) (c : Nat) : Prop where
  wf : m.wf
  blob : Bs w p m.blob.length c m.blob
theorem MsgAt.below {w w' : World} {m : MsgD} {p : Option Addr} {c : Nat} (h : MsgAt w m p c) (hb : Below w.heap.size w w') : MsgAt w' m p c := ⟨h.wf, h.blob.below hb⟩
theorem msgL_len {m : MsgD} (h : m.hint.length = 16) (p : Option Addr) (c : Nat) : (msgL m p c).length = 21 := by simp [msgL, bytesV_length, h]
theorem msgA_size {m : MsgD} (h : m.hint.length = 16) (p : Option Addr) (c : Nat) : (msgA m p c).size = 21 := by simp [msgA, msgL_len h]
theorem sizeM (cs : Array Value) (h : cs.size = 21) : (Tryd.prog.info? 28).map (·.size) = some cs.size := by rw [h]; kernel_rfl
theorem sizeH (h : List UInt8) (hl : h.length = 16) : (Tryd.prog.info? 25).map (·.size) = some (idA h).size := by rw [idA_size, hl]; kernel_rfl
theorem msgA_one (m : MsgD) (p : Option Addr) (c : Nat) : (msgA m p c).all (·.oneCell') = true := by
  unfold msgA
  refine all_oneCell_toArray fun v hv => ?_
  simp only [msgL, List.mem_append, List.mem_cons, List.not_mem_nil, or_false] at hv
  rcases hv with ((rfl | rfl | rfl | rfl) | hv | rfl) <;> first | rfl | exact bytesV_one _ _ hv
/-- a message in a block -/
theorem msg_cells {w : World} {g : Nat} {m : MsgD} {p : Option Addr} {c : Nat} {t : TypeId} (hh : m.hint.length = 16) (hr : w.heap[g]? = some (.cells (msgA m p c) t (0, 0))) :
    w.cell? ⟨g, 0, none⟩ = some (.int .i64 m.kind) ∧ w.cell? ⟨g, 1, none⟩ = some (.int .u32 (m.ses : Int)) ∧ w.cell? ⟨g, 2, none⟩ = some (.int .u32 (m.seq : Int)) ∧ w.cell? ⟨g, 3, none⟩ = some (.int .u32 (m.quo : Int)) ∧
      w.cell? ⟨g, 20, none⟩ = some (.slice p m.blob.length c) ∧ w.rangeAt g 4 (idA m.hint).toList := by
  have hl := bytesV_length m.hint
  have cell : ∀ i v, (msgL m p c)[i]? = some v → w.cell? ⟨g, i, none⟩ = some v := fun i v hi => by rw [cell_of_row _ _ _ _ _ _ hr]; simpa [msgA] using hi
  refine ⟨cell 0 _ rfl, cell 1 _ rfl, cell 2 _ rfl, cell 3 _ rfl, cell 20 _ ?_, fun j v hv => cell (4 + j) v ?_⟩
  · unfold msgL
    rw [List.getElem?_append_right (by simp), List.getElem?_append_right (by simp [hl, hh])]; simp [hl, hh]
  · rw [idA_toList] at hv
    have hj := (List.getElem?_eq_some_iff.1 hv).1
    unfold msgL
    rw [List.getElem?_append_right (by simp), List.getElem?_append_left (by simp [hl] at hj ⊢; omega)]
    simpa using hv
/-! ### fields -/
def fldL (k : Int) (s q o : Nat) (h : List UInt8) : List Value := [.int .i64 k, .int .u32 (s : Int), .int .u32 (q : Int), .int .u32 (o : Int)] ++ bytesV h
def fldA (k : Int) (s q o : Nat) (h : List UInt8) : Array Value := (fldL k s q o h).toArray
theorem fldA_size (k : Int) (s q o : Nat) (h : List UInt8) (hl : h.length = 16) : (fldA k s q o h).size = 20 := by simp [fldA, fldL, bytesV_length, hl]
theorem fld_part (k : Int) (s q o : Nat) (h : List UInt8) (hl : h.length = 16) : (fldA k s q o h).extract 4 (4 + 16) = idA h := by
  unfold fldA idA fldL
  simp only [List.extract_toArray, List.extract_eq_take_drop]
  congr 1
  show List.take 16 (bytesV h) = bytesV h
  exact List.take_of_length_le (by rw [bytesV_length]; omega)
theorem part_int {P : Program} {t : TypeId} {k : IntKind} (hu : P.underlying t = some (.int k)) (cs : Array Value) (off : Nat) (v : Value) (h : cs[off]? = some v) (w : World) : (part t cs off).run P w = .ok v w := by
  simp [part, isAgg, run_underlying hu, h]
theorem part_arr {P : Program} {t e : TypeId} {n size : Nat} (hu : P.underlying t = some (.array n e)) (hs : (P.info? t).map (·.size) = some size) (cs : Array Value) (off : Nat) (w : World) : (part t cs off).run P w = .ok (.agg (cs.extract off (off + size))) w := by
  obtain ⟨i, hi, hi1⟩ := Option.map_eq_some_iff.1 hs
  simp [part, isAgg, run_underlying hu, sizeOf, typeInfo, hi, hi1]
theorem eq_fld (w : World) (k k' : Int) (s q o s' q' o' : Nat) (h h' : List UInt8) (hl : h.length = 16) (hl' : h'.length = 16) :
    (Op.equalIn 10000 48 (.agg (fldA k s q o h)) (.agg (fldA k' s' q' o' h'))).run Tryd.prog w = .ok (decide (k = k' ∧ s = s' ∧ q = q' ∧ o = o' ∧ h = h')) w := by
  rw [run_equalIn_struct w 9999 48 _ _ (by kernel_rfl) (by kernel_rfl)]
  simp only [Program.fieldsOf, Tryd.underlying48]
  have g0 : ∀ (k : Int) (s q o : Nat) (h : List UInt8), (fldA k s q o h)[0]? = some (.int .i64 k) ∧ (fldA k s q o h)[1]? = some (.int .u32 (s : Int)) ∧ (fldA k s q o h)[2]? = some (.int .u32 (q : Int)) ∧ (fldA k s q o h)[3]? = some (.int .u32 (o : Int)) := fun k s q o h => ⟨rfl, rfl, rfl, rfl⟩
  have e0 := fun (k : Int) (s q o : Nat) (h : List UInt8) => part_int (P := Tryd.prog) Tryd.underlying22 _ 0 _ (g0 k s q o h).1
  have e1 := fun (k : Int) (s q o : Nat) (h : List UInt8) => part_int (P := Tryd.prog) Tryd.underlying23 _ 1 _ (g0 k s q o h).2.1
  have e2 := fun (k : Int) (s q o : Nat) (h : List UInt8) => part_int (P := Tryd.prog) Tryd.underlying23 _ 2 _ (g0 k s q o h).2.2.1
  have e3 := fun (k : Int) (s q o : Nat) (h : List UInt8) => part_int (P := Tryd.prog) Tryd.underlying23 _ 3 _ (g0 k s q o h).2.2.2
  have e4 : ∀ (k : Int) (s q o : Nat) (h : List UInt8), h.length = 16 → ∀ w, (part 25 (fldA k s q o h) 4).run Tryd.prog w = .ok (.agg (idA h)) w := fun k s q o h hl w => by
    rw [part_arr (P := Tryd.prog) (size := 16) Tryd.underlying25 (by kernel_rfl) _ 4 w, fld_part _ _ _ _ _ hl]
  have q0 := fun (a b : Int) (w : World) => run_equalIn_int (P := Tryd.prog) w 9998 22 .i64 .i64 a b Tryd.underlying22
  have q1 := fun (a b : Int) (w : World) => run_equalIn_int (P := Tryd.prog) w 9998 23 .u32 .u32 a b Tryd.underlying23
  have q4 := fun (w : World) => run_equal_ids (P := Tryd.prog) w 9997 Tryd.underlying25 Tryd.underlying5 (by kernel_rfl) (by kernel_rfl) (by kernel_rfl) h h' hl hl'
  simp only [Nat.reduceAdd] at q0 q1 q4
  simp only [Op.eqFields, Sem.run_bind, e0, e1, e2, e3, e4 _ _ _ _ _ hl, e4 _ _ _ _ _ hl', q0, q1, q4, Result.andThen_ok, Sem.run_ite, Sem.run_pure, if_true, ne_eq]
  simp only [show ("kind" = "_") = False from eq_false (by decide), show ("session" = "_") = False from eq_false (by decide), show ("seq" = "_") = False from eq_false (by decide), show ("quota" = "_") = False from eq_false (by decide), show ("hint" = "_") = False from eq_false (by decide), not_false_eq_true, if_true]
  by_cases h1 : k = k'
  · by_cases h2 : s = s'
    · by_cases h3 : q = q'
      · by_cases h4 : o = o'
        · by_cases h5 : h = h'
          · simp [h1, h2, h3, h4, h5]
          · simp [h1, h2, h3, h4, h5]
        · have : ¬ (o : Int) = (o' : Int) := by omega
          simp [h1, h2, h3, h4, this]
      · have : ¬ (q : Int) = (q' : Int) := by omega
        simp [h1, h2, h3, this]
    · have : ¬ (s : Int) = (s' : Int) := by omega
      simp [h1, h2, this]
  · simp [h1]

/-! ### are two the same? -/
def MsgD.same (a b : MsgD) : Prop := a.kind = b.kind ∧ a.ses = b.ses ∧ a.seq = b.seq ∧ a.quo = b.quo ∧ a.hint = b.hint ∧ a.blob = b.blob
instance (a b : MsgD) : Decidable (a.same b) := by unfold MsgD.same; infer_instance
theorem bret {a b : Bool} (h : a = b) : Ending.returned (.bool a) = .returned (.bool b) := by rw [h]
theorem list16 (h : List UInt8) (hl : h.length = 16) : ∃ a0 a1 a2 a3 a4 a5 a6 a7 a8 a9 a10 a11 a12 a13 a14 a15, h = [a0, a1, a2, a3, a4, a5, a6, a7, a8, a9, a10, a11, a12, a13, a14, a15] := by
  match h, hl with
  | [a0, a1, a2, a3, a4, a5, a6, a7, a8, a9, a10, a11, a12, a13, a14, a15], _ => exact ⟨_, _, _, _, _, _, _, _, _, _, _, _, _, _, _, _, rfl⟩
theorem built_fld (k : Int) (s q o : Nat) (h : List UInt8) (hl : h.length = 16) : Tryd.prog.built 48 [(0, .int .i64 k), (1, .int .u32 (s : Int)), (2, .int .u32 (q : Int)), (3, .int .u32 (o : Int)), (4, .agg (idA h))] = some (fldA k s q o h) := by
  obtain ⟨a0, a1, a2, a3, a4, a5, a6, a7, a8, a9, a10, a11, a12, a13, a14, a15, rfl⟩ := list16 h hl
  kernel_rfl
set_option maxRecDepth 100000 in
set_option maxHeartbeats 1600000 in
theorem same_any (a b : MsgD) (p p2 : Option Addr) (c c2 : Nat) (w : World) (hA : MsgAt w a p c) (hB : MsgAt w b p2 c2) :
    Calls Tryd.prog 15 #[.agg (msgA a p c), .agg (msgA b p2 c2)] w fun e w' => e = .returned (.bool (decide (a.same b))) ∧ Below w.heap.size w w' := by
  have H2 := two_allocs w (.cells (msgA a p c) 28) (.cells (msgA b p2 c2) 28)
  have hA2 := hA.below H2.2.2.2
  have hB2 := hB.below H2.2.2.2
  obtain ⟨a0, a1, a2, a3, a4, a5⟩ := msg_cells hA.wf.hint H2.1
  obtain ⟨b0, b1, b2, b3, b4, b5⟩ := msg_cells hB.wf.hint H2.2.1
  have HA := Lib.hid hA2
  have HB := Lib.hid hB2
  have HAH := Lib.hid hA.wf.hint
  have HBH := Lib.hid hB.wf.hint
  have HRA := Lib.hid a5
  have HRB := Lib.hid b5
  have HBL := Lib.hid H2.2.2.2
  have hq : ∀ w, (Op.equalIn 10000 48 (.agg (fldA a.kind a.ses a.seq a.quo a.hint)) (.agg (fldA b.kind b.ses b.seq b.quo b.hint))).run Tryd.prog w = .ok (decide (a.kind = b.kind ∧ a.ses = b.ses ∧ a.seq = b.seq ∧ a.quo = b.quo ∧ a.hint = b.hint)) w := fun w => eq_fld w _ _ _ _ _ _ _ _ _ _ HAH.out HBH.out
  have hres : decide (a.same b) = (decide (a.kind = b.kind ∧ a.ses = b.ses ∧ a.seq = b.seq ∧ a.quo = b.quo ∧ a.hint = b.hint) && (a.blob == b.blob)) := by
    have hi : a.same b ↔ (a.kind = b.kind ∧ a.ses = b.ses ∧ a.seq = b.seq ∧ a.quo = b.quo ∧ a.hint = b.hint) ∧ a.blob = b.blob := ⟨fun ⟨h1, h2, h3, h4, h5, h6⟩ => ⟨⟨h1, h2, h3, h4, h5⟩, h6⟩, fun ⟨⟨h1, h2, h3, h4, h5⟩, h6⟩ => ⟨h1, h2, h3, h4, h5, h6⟩⟩
    rw [Bool.eq_iff_iff]
    simp only [decide_eq_true_eq, Bool.and_eq_true, beq_iff_eq, hi]
  have HRES := Lib.hid hres
  obtain ⟨F, hF⟩ : ∃ F, decide (a.kind = b.kind ∧ a.ses = b.ses ∧ a.seq = b.seq ∧ a.quo = b.quo ∧ a.hint = b.hint) = F := ⟨_, rfl⟩
  rw [hF] at hq
  have HFF := Lib.hid hF
  clear H2 hA hB a5 b5 hA2 hB2 hres hF
  cases F <;>
  (go_enter Tryd.func15, Tryd.ntmps15
   go_upto_region 1 with fail
   generalize (w.alloc (.cells (msgA a p c) 28)).alloc (.cells (msgA b p2 c2) 28) = w2 at *
   have hcv := run_conv (P := Tryd.prog) 26 9 5 Tryd.underlying26 Tryd.underlying5 Tryd.underlying9 HA.out.blob
   have hcv2 := run_conv (P := Tryd.prog) 26 9 5 Tryd.underlying26 Tryd.underlying5 Tryd.underlying9 HB.out.blob
   go_wp2_with (first
     | ((with_reducible refine wpAt 14 ?_); refine wpList_load_mid rfl 25 _ rfl w.heap.size 4 rfl (idA a.hint).toList _ HRA.out Tryd.underlying25 rfl (by rw [Array.length_toList]; exact sizeH _ HAH.out) ?_)
     | ((with_reducible refine wpAt 25 ?_); refine wpList_load_mid rfl 25 _ rfl (w.heap.size + 1) 4 rfl (idA b.hint).toList _ HRB.out Tryd.underlying25 rfl (by rw [Array.length_toList]; exact sizeH _ HBH.out) ?_)
     | ((with_reducible refine wpAt 15 ?_); refine Rdr.wpList_build rfl 48 _ rfl [(0, .int .i64 a.kind), (1, .int .u32 (a.ses : Int)), (2, .int .u32 (a.seq : Int)), (3, .int .u32 (a.quo : Int)), (4, .agg (idA a.hint))] rfl _ (built_fld _ _ _ _ _ HAH.out) ?_)
     | ((with_reducible refine wpAt 26 ?_); refine Rdr.wpList_build rfl 48 _ rfl [(0, .int .i64 b.kind), (1, .int .u32 (b.ses : Int)), (2, .int .u32 (b.seq : Int)), (3, .int .u32 (b.quo : Int)), (4, .agg (idA b.hint))] rfl _ (built_fld _ _ _ _ _ HBH.out) ?_))
   go_ret
   refine ⟨bret ?_, HBL.out⟩
   rw [HRES.out, HFF.out]
   first | rfl | simp)
end Go.Proofs.YtmjdpfmofbbknaaDoor.Msg
