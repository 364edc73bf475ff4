/- MESSAGES: the reference's Decode. Conditions: sizes that fit. -/
import Derived.Test.YtmjdpfmofbbknaaDoorMsgR2
namespace Go.Proofs.YtmjdpfmofbbknaaDoor.Msg
open Go.RowKit Go.Mir Go.Mir.Parts Wr Cod

theorem cut3 {w : World} {p : Option Addr} {L c : Nat} (l : List UInt8) (h : Bs w p L c l) (k m : Nat) (lo hi : Int) (hlo : lo = (k : Int)) (hhi : hi = (k : Int) + (m : Int)) (hk : k + m ≤ L) :
    ∃ q, (∀ w0, (Instr.sliceAt 26 (.slice p L c) (some (.int .i64 lo)) (some (.int .i64 hi)) none).run Tryd.prog w0 = .ok (.slice q m (c - k)) w0) ∧
      ∀ w', Below w.heap.size w w' → Bs w' q m (c - k) ((l.drop k).take m) := by
  subst hlo hhi
  have hle := h.le
  have hmax := h.max
  have hsz : (Tryd.prog.info? 5).map (·.size) = some 1 := by kernel_rfl
  obtain ⟨i, hi, hi1⟩ := Option.map_eq_some_iff.1 hsz
  have e1 : ((k : Int) + (m : Int)).toNat = k + m := by omega
  have hrun : ∀ w0, (Instr.sliceAt 26 (.slice p L c) (some (.int .i64 (k : Int))) (some (.int .i64 ((k : Int) + (m : Int)))) none).run Tryd.prog w0 = .ok (.slice (if c = k then p else p.map (·.add k)) m (c - k)) w0 := fun w0 => by
    have hb1 : (0 : Int) ≤ (k : Int) + (m : Int) ∧ (k : Int) + (m : Int) ≤ (c : Int) := by omega
    have hb3 : (0 : Int) ≤ (k : Int) ∧ (k : Int) ≤ ((k + m : Nat) : Int) := by omega
    simp [Instr.sliceAt, Instr.slice, run_underlying Tryd.underlying26, Instr.sliceBounds, Instr.sliceBound, asIntOf, sizeOf, typeInfo, hi, hi1, e1, hb1, hb3]
    try omega
  refine ⟨_, hrun, fun w' hw => ?_⟩
  have hl := h.length
  by_cases hc : c = k
  · have hm : m = 0 := by omega
    subst hm
    rw [if_pos hc, hc, Nat.sub_self, List.take_zero]
    exact ⟨by simp [bytesV], Nat.le_refl _, by omega, fun _ => rfl, fun a ha j u hu => by simp [bytesV] at hu⟩
  · rw [if_neg hc]
    refine ⟨by rw [bytesV_length, List.length_take, List.length_drop, Nat.mul_one]; omega, by omega, by omega, fun hq => ?_, fun a ha j u hu => ?_⟩
    · cases p with
      | none => have := h.nil0 rfl; omega
      | some a => cases hq
    · cases p with
      | none => cases ha
      | some a0 =>
        have hj : j < m := by
          have := (List.getElem?_eq_some_iff.1 hu).1
          rw [bytesV_length, List.length_take] at this
          omega
        obtain ⟨b, o, hbo⟩ := h.addr (by omega) (by omega)
        obtain rfl := Option.some.inj hbo
        obtain rfl := Option.some.inj ha
        have h1 : (bytesV l)[k + j]? = some u := by
          rw [bytesV, List.getElem?_map] at hu ⊢
          rw [List.getElem?_take, if_pos hj, List.getElem?_drop] at hu
          exact hu
        have h2 := (h.below hw).cell _ rfl (k + j) u h1
        rw [add_none] at h2
        show w'.cell? (((⟨b, o, none⟩ : Addr).add k).add j) = some u
        rw [add_none, add_none, Nat.add_assoc]
        exact h2
set_option maxRecDepth 100000 in
theorem value_any (p : Option Addr) (n c : Nat) (l : List UInt8) (w : World) (hB : Bs w p n c l) (hn : n ≤ 4) :
    Calls Tryd.prog 29 #[.slice p n c] w fun e w' => e = .returned (.int .u32 (Rdr.beN l : Int)) ∧ w = w' := by
  have HB := Lib.hid hB
  have HN := Lib.hid hB.length
  have hle := hB.le
  have hmax := hB.max
  clear hB
  go_enter Tryd.func29, Tryd.ntmps29
  go_wp2_with fail
  go_loop [3, 4] (fun x j => ∃ k : Nat, k ≤ n ∧ j = .int .i64 k ∧ x = .int .u32 (Rdr.beN (l.take k) : Nat)) (fun _ j => n - (intOf j).toNat)
  case atStart => exact ⟨0, by omega, rfl, rfl⟩
  case round =>
    obtain ⟨k, hk, rfl, rfl⟩ := hrel
    by_cases hlt : k < n
    · have hd : decide ((k:Int) < n) = true := by simp; omega
      obtain ⟨b', o', rfl⟩ := HB.out.addr (by omega) (by omega)
      have hc' := Bs.byte HB.out (j := k) (by rw [HN.out]; omega)
      have hbe := Rdr.beN_snoc (l.take k) (l[k]'(by rw [HN.out]; omega))
      rw [← take_snoc l k (by rw [HN.out]; omega)] at hbe
      have hb1 := Rdr.beN_lt_pow (l.take (k + 1))
      have hb2 : 256 ^ (l.take (k + 1)).length ≤ 256 ^ 4 := Nat.pow_le_pow_right (by omega) (by rw [List.length_take, HN.out]; omega)
      have hb4 : (256 : Nat) ^ 4 = 4294967296 := by decide
      generalize l[k]'(by rw [HN.out]; omega) = y at *
      have hll : y.toNat < 256 := y.toNat_lt
      generalize hB0 : Rdr.beN (l.take k) = B at *
      generalize hB2 : Rdr.beN (l.take (k + 1)) = B2 at *
      have HB2 := Lib.hid hB2
      have q1 : IntKind.u32.wrap ((256 : Int) * (B : Int)) = ((256 * B : Nat) : Int) := by rw [IntKind.wrap_u32]; omega
      have q2 : IntKind.u32.wrap (((256 * B : Nat) : Int) + (y.toNat : Int)) = (B2 : Int) := by rw [IntKind.wrap_u32]; omega
      have q3 : IntKind.u32.wrap ((256 : Int) * (B : Int) + (y.toNat : Int)) = (B2 : Int) := by rw [IntKind.wrap_u32]; omega
      have HW := Lib.hid q1
      have HW2 := Lib.hid q2
      have HW3 := Lib.hid q3
      clear hB0 hB2 hbe hb1 hb2 hb4
      go_wp2_with fail
      go_round
      case rel =>
        exact ⟨k + 1, by omega, by go_num, by first | rw [HB2.out] | (rw [HW.out, HW2.out, HB2.out]) | (rw [HW3.out, HB2.out])⟩
      case measure => simp [intOf]; omega
    · obtain rfl : k = n := by omega
      have hd : decide ((k:Int) < (k : Int)) = false := by simp
      rw [List.take_of_length_le (by rw [HN.out]; omega)]
      go_wp2_with fail
      go_ret
      exact ⟨rfl, rfl⟩
/-- the rows of the reference's Decode -/
structure QW (w : World) (m : MsgD) (p : Option Addr) (c : Nat) (x : World) : Prop where
  r0 : x.heap[w.heap.size]? = some (.cells (msgA MsgD.zero none 0) 28 (0, 0))
  r1 : x.heap[w.heap.size + 1]? = some (.cells (msgA MsgD.zero none 0) 28 (0, 0))
  r2 : x.heap[w.heap.size + 2]? = some (.cells (msgA m p c) 28 (0, 0))
  rs : x.heap[w.heap.size + 3]? = some (.cells #[.int .i64 0, .int .i64 3, .int .i64 27, .int .i64 5, .int .i64 5] 3 (0, 0))
  low : Below w.heap.size w x
  hint : m.hint.length = 16
theorem QW.set {w x : World} {m m' : MsgD} {p p' : Option Addr} {c c' : Nat} (h : QW w m p c x) (i : Nat) (v : Value) (hv : (msgA m p c).setIfInBounds i v = msgA m' p' c') (hm : m'.hint.length = 16) : QW w m' p' c' (x.setCell ⟨w.heap.size + 2, i, none⟩ v) :=
  ⟨by rw [heap_setCell_other _ _ _ _ (by simp)]; exact h.r0, by rw [heap_setCell_other _ _ _ _ (by simp)]; exact h.r1, by rw [heap_setCell_same _ _ _ _ _ _ h.r2, hv], by rw [heap_setCell_other _ _ _ _ (by simp)]; exact h.rs, h.low.setCell (by simp) _, hm⟩
theorem QW.below {w x y : World} {m : MsgD} {p : Option Addr} {c : Nat} (h : QW w m p c x) (hb : Below x.heap.size x y) : QW w m p c y :=
  ⟨Below.keepOld hb h.r0, Below.keepOld hb h.r1, Below.keepOld hb h.r2, Below.keepOld hb h.rs, h.low.trans (hb.mono h.low.size), h.hint⟩
theorem QW.cells {w x : World} {m : MsgD} {p : Option Addr} {c : Nat} (h : QW w m p c x) :
    x.cell? ⟨w.heap.size + 2, 0, none⟩ = some (.int .i64 m.kind) ∧ x.cell? ⟨w.heap.size + 2, 1, none⟩ = some (.int .u32 (m.ses : Int)) ∧ x.cell? ⟨w.heap.size + 2, 2, none⟩ = some (.int .u32 (m.seq : Int)) ∧ x.cell? ⟨w.heap.size + 2, 3, none⟩ = some (.int .u32 (m.quo : Int)) ∧ x.cell? ⟨w.heap.size + 2, 20, none⟩ = some (.slice p m.blob.length c) ∧ (∀ i, x.frozen? ⟨w.heap.size + 2, i, none⟩ = false) ∧
      x.cell? ⟨w.heap.size + 3, 1, none⟩ = some (.int .i64 3) ∧ x.cell? ⟨w.heap.size + 3, 2, none⟩ = some (.int .i64 27) ∧ x.cell? ⟨w.heap.size + 3, 3, none⟩ = some (.int .i64 5) ∧ x.cell? ⟨w.heap.size + 3, 4, none⟩ = some (.int .i64 5) :=
  ⟨(msg_cells h.hint h.r2).1, (msg_cells h.hint h.r2).2.1, (msg_cells h.hint h.r2).2.2.1, (msg_cells h.hint h.r2).2.2.2.1, (msg_cells h.hint h.r2).2.2.2.2.1, fun i => frozen_of_row _ _ i _ _ h.r2,
    by rw [cell_of_row _ _ _ _ _ _ h.rs]; rfl, by rw [cell_of_row _ _ _ _ _ _ h.rs]; rfl, by rw [cell_of_row _ _ _ _ _ _ h.rs]; rfl, by rw [cell_of_row _ _ _ _ _ _ h.rs]; rfl⟩
def RDecP (l : List UInt8) (w : World) (e : Ending) (w' : World) : Prop :=
  ∃ p c, e = .returned (.tuple #[.agg (msgA (decM l).1 p c), .int .i64 (decM l).2]) ∧ MsgAt w' (decM l).1 p c ∧ Below w.heap.size w w'
end Go.Proofs.YtmjdpfmofbbknaaDoor.Msg
