/- LAYER 10: slices of asks; small. Conditions: the total fits an int. -/
import Derived.Test.YtbfddfmglkhimaaDoorW10
import Derived.Test.YtbfddfmglkhimaaDoorRow
namespace Go.Proofs.YtbfddfmglkhimaaDoor.W10
open Go.RowKit Go.Mir Go.Mir.Parts Wr

/-- a slice of asks -/
structure OpsAt (w : World) (p : Option Addr) (n c : Nat) (L : List (List Value × OpD)) : Prop where
  rs : Rs w p n c 37 (L.map (·.1))
  each : ∀ x ∈ L, OpAt w x.1 x.2
theorem OpsAt.below {w w' : World} {p : Option Addr} {n c : Nat} {L : List (List Value × OpD)} (h : OpsAt w p n c L) (hb : Below w.heap.size w w') : OpsAt w' p n c L :=
  ⟨h.rs.below hb, fun x hx => (h.each x hx).below hb⟩
def OpD.weight (o : OpD) : Nat := o.b.length + 32 * o.ids.length
def weights (L : List (List Value × OpD)) : Nat := (L.map (·.2.weight)).sum
theorem weights_succ (L : List (List Value × OpD)) (k : Nat) (h : k < L.length) : weights (L.take (k + 1)) = weights (L.take k) + L[k].2.weight := by
  unfold weights
  rw [List.take_succ_eq_append_getElem h, List.map_append, List.sum_append]
  simp only [List.map_cons, List.map_nil, List.sum_cons, List.sum_nil, Nat.add_zero]
theorem weights_le (L : List (List Value × OpD)) (k : Nat) : weights (L.take k) ≤ weights L := by
  have : weights L = weights (L.take k) + weights (L.drop k) := by
    unfold weights
    rw [← List.sum_append, ← List.map_append, List.take_append_drop]
  omega

def Z37 : Array Value := #[.int .i64 0, .int .i64 0, .int .u64 0, .slice none 0 0] ++ (Array.replicate 32 (.int .u8 0)) ++ #[.slice none 0 0]
theorem zeroOp (w : World) : (zeroValue 66).run Tryd.prog w = .ok (.agg Z37) w := by kernel_rfl
theorem Z37_size : Z37.size = 37 := by decide
/-- each of its cells is one cell -/
theorem OpAt.one {w : World} {cs : List Value} {o : OpD} (h : OpAt w cs o) : ∀ v ∈ cs, v.oneCell' = true := by
  obtain ⟨pb, nb, cb, pl, nl, cl, rfl, _, _⟩ := h.form
  intro v hv
  simp only [List.mem_append, List.mem_cons, List.not_mem_nil, or_false] at hv
  rcases hv with (((rfl | rfl | rfl | rfl) | hv) | rfl) <;> first | rfl | exact bytesV_one _ _ hv
/-- an ask in a block -/
theorem op_cells {w wk : World} {g : Nat} {cs : List Value} {o : OpD} (h : OpAt w cs o) (hr : wk.heap[g]? = some (.cells cs.toArray 66 (0, 0))) :
    ∃ pb nb cb pl nl cl, wk.cell? ⟨g, 0, none⟩ = some (.int .i64 o.kind) ∧ wk.cell? ⟨g, 1, none⟩ = some (.int .i64 o.a) ∧ wk.cell? ⟨g, 2, none⟩ = some (.int .u64 (o.n : Int)) ∧ wk.cell? ⟨g, 3, none⟩ = some (.slice pb nb cb) ∧ wk.cell? ⟨g, 36, none⟩ = some (.slice pl nl cl) ∧
      wk.rangeAt g 4 (bytesV o.id) ∧ wk.rangeAt g 0 cs ∧ cs.length = 37 ∧ Bs w pb nb cb o.b ∧ Is w pl nl cl 32 o.ids := by
  obtain ⟨pb, nb, cb, pl, nl, cl, hlen, h0, h1, h2, h3, h36, hid, hB, hI⟩ := h.row
  have cell : ∀ i v, cs[i]? = some v → wk.cell? ⟨g, i, none⟩ = some v := fun i v hi => by rw [cell_of_row _ _ _ _ _ _ hr]; simpa using hi
  refine ⟨pb, nb, cb, pl, nl, cl, cell 0 _ h0, cell 1 _ h1, cell 2 _ h2, cell 3 _ h3, cell 36 _ h36, ?_, fun j v hj => by rw [Nat.zero_add]; exact cell j v hj, hlen, hB, hI⟩
  intro j v hj
  refine cell (4 + j) v ?_
  rw [← hid] at hj
  rw [← hj]
  have : j < 32 := by have h32 := (List.getElem?_eq_some_iff.1 hj).1; rw [List.length_take] at h32; omega
  rw [List.getElem?_take, if_pos this, List.getElem?_drop]

set_option maxRecDepth 100000 in
set_option maxHeartbeats 400000 in
theorem small_any (p : Option Addr) (n c : Nat) (L : List (List Value × OpD)) (w : World) (h : OpsAt w p n c L) (hs : n + weights L ≤ 4611686018427387904) :
    Calls Tryd.prog 24 #[.slice p n c] w fun e w' => e = .returned (.bool (decide (n + weights L ≤ 5000))) ∧ Below w.heap.size w w' := by
  have hle := h.rs.sl.le
  have hmax := h.rs.sl.max
  have hcnt : L.length = n := by simpa using h.rs.count
  have hz := zeroOp
  have H := Lib.hid h
  clear h
  go_enter Tryd.func24, Tryd.ntmps24
  go_wp2
  go_loopw [3, 10] (fun x j wr => ∃ k : Nat, k ≤ n ∧ j = .int .i64 k ∧ x = .int .i64 ((n + weights (L.take k) : Nat) : Int) ∧ Below w.heap.size w wr) (fun _ j _ => n - (intOf j).toNat)
  case atStart => exact ⟨0, by omega, rfl, by simp [weights], Below.refl _ _⟩
  case round =>
    obtain ⟨k, hk, rfl, rfl, hbl⟩ := hrel
    have HB := Lib.hid hbl
    clear hbl
    by_cases hlt : k < n
    · obtain ⟨b, o, rfl⟩ := H.out.rs.sl.addr (by omega) (by omega)
      have hop : OpAt w (L[k]'(by omega)).1 (L[k]'(by omega)).2 := H.out.each _ (List.getElem_mem _)
      have hrow : wr.rangeAt b (o + k * 37) (L[k]'(by omega)).1 := by
        have := (H.out.rs.below HB.out).row k (by simpa using (by omega))
        simpa using this
      have hw := weights_succ L k (by omega)
      have hwl := weights_le L (k + 1)
      generalize hW1 : weights (L.take (k + 1)) = W1 at *
      have HW1 := Lib.hid hW1
      clear hW1
      generalize weights (L.take k) = W0 at *
      generalize L[k]'(by omega) = x at *
      obtain ⟨cs, op⟩ := x
      have hlen : cs.length = 37 := by obtain ⟨_, _, _, _, _, _, h, _⟩ := hop.row; exact h
      have hone := all_oneCell_toArray hop.one
      have HOP := Lib.hid (hop.below HB.out)
      have HR := Lib.hid hrow
      have HL := Lib.hid hlen
      clear hop hrow hlen
      have hd : decide ((k : Int) < (n : Int)) = true := by simp; omega
      go_wp2_with (first
        | refine wpList_load_mid rfl 66 _ rfl b (o + k * 37) rfl _ _ HR.out Tryd.underlying66 rfl (by rw [HL.out]; kernel_rfl) ?_
        | (refine wpList_store_mid rfl 66 _ _ rfl wr.heap.size 0 cs.toArray rfl rfl (there_alloc_new _ _ _ _ (by rw [Z37_size]; exact HL.out.symm)) (by show _ = some cs.length; rw [HL.out]; kernel_rfl) hone ?_
           have hst : ((wr.alloc (.cells Z37 66)).setCells wr.heap.size 0 cs.toArray.toList).heap[wr.heap.size]? = some (.cells cs.toArray 66 (0, 0)) ∧ Below wr.heap.size wr ((wr.alloc (.cells Z37 66)).setCells wr.heap.size 0 cs.toArray.toList) := alloc_stored wr Z37 _ cs wr.heap.size rfl (by rw [Z37_size]; exact HL.out.symm)
           generalize (wr.alloc (.cells Z37 66)).setCells wr.heap.size 0 cs.toArray.toList = w2 at *
           obtain ⟨hr2, hb2⟩ := hst
           have HB2 := Lib.hid (HB.out.trans (hb2.mono HB.out.size))
           obtain ⟨pb, nb, cb, pl, nl, cl, c0, c1, c2, c3, c36, _, _, _, hBs, hIs⟩ := op_cells HOP.out hr2
           have hbl := hBs.length
           have hbc := hBs.le
           have hil := hIs.count
           have hic := hIs.sl.le
           have hwt : W1 = W0 + (nb + 32 * nl) := by rw [hw, ← hbl, ← hil]; rfl
           clear hr2 hb2 hBs hIs hw hbl hil))
      go_roundw
      case rel => exact ⟨k + 1, by omega, by go_num, by rw [HW1.out]; go_num, HB2.out⟩
      case measure => simp [intOf]; omega
    · have hd : decide ((k : Int) < (n : Int)) = false := by simp; omega
      have hkn : L.take k = L := List.take_of_length_le (by omega)
      rw [hkn]
      generalize hW1 : weights L = W1 at *
      have HW1 := Lib.hid hW1
      clear hW1
      go_wp2
      go_ret
      refine ⟨?_, HB.out⟩
      rw [HW1.out, show decide (n + W1 ≤ 5000) = decide ((n : Int) + (W1 : Int) ≤ 5000) from by congr 1; apply propext; omega]
      rfl

end Go.Proofs.YtbfddfmglkhimaaDoor.W10
