/- THE WALKS OF A CHAIN: what it is in memory; none, at, Height. Conditions: none. -/
import Derived.Test.YtepemfgiigceoaaWin
import Derived.Test.YtepemfgiigceoaaEager
import Derived.Test.YtepemfgiigceoaaBlk11
namespace Go.Proofs.Ytepemfgiigceoaa.Chn
open Go.RowKit Go.Mir Go.Mir.Parts Go.Proofs.Ytepemfgiigceoaa.Blk

theorem own_blk {w : World} {d : BlkD} {p : Option Addr} {n c base : Nat} (hh : d.hash.length = 32) (hp : d.par.length = 32) (hl : ∀ x ∈ d.txs, x.length = 32) (hn : d.txs.length = n) (ho : w.ownsRow base 30 32 (.slice p n c) n (d.txs.flatMap bytesV)) : BlkAt w (blkA d.hash d.par p n c) d p n c := by
  obtain ⟨p', c', e, hs⟩ := own_sl ho
  cases e
  exact ⟨rfl, hh, hp, hs, hl, hn⟩
/-- a block of the window, by its cells -/
def ChB (w : World) (base : Nat) (r : List Value) (d : BlkD) : Prop := ∃ q c, r = (blkA d.hash d.par q d.txs.length c).toList ∧ d.hash.length = 32 ∧ d.par.length = 32 ∧ (∀ x ∈ d.txs, x.length = 32) ∧ w.ownsRow base 30 32 (.slice q d.txs.length c) d.txs.length (d.txs.flatMap bytesV)
theorem ChB.touch {S : Nat → Prop} {w w' : World} {base : Nat} {r : List Value} {d : BlkD} (h : ChB w base r d) (ht : Turns S w w') (hS : ∀ k M fr, w.heap[k]? = some (.cells M 30 fr) → ¬ S k) : ChB w' base r d := by
  obtain ⟨q, c, h1, h2, h3, h4, h5⟩ := h
  refine ⟨q, c, h1, h2, h3, h4, own_touch h5 ht fun k hk => ?_⟩
  rcases h5.2 with ⟨hv, _⟩ | ⟨g, cap, cur, hv, _, hg, _⟩
  · rw [hv] at hk; simp [Value.ownBlock] at hk
  · rw [hv] at hk; simp [Value.ownBlock] at hk; subst hk; exact hS _ _ _ hg
theorem ChB.below {w w' : World} {base : Nat} {r : List Value} {d : BlkD} (h : ChB w base r d) (hb : Below w.heap.size w w') : ChB w' base r d := h.touch (Turns.of_below (S := fun _ => False) hb) (fun _ _ _ _ h => h)
theorem ChB.blk {w : World} {base : Nat} {r : List Value} {d : BlkD} (h : ChB w base r d) : ∃ q c, r = (blkA d.hash d.par q d.txs.length c).toList ∧ BlkAt w (blkA d.hash d.par q d.txs.length c) d q d.txs.length c := by
  obtain ⟨q, c, h1, h2, h3, h4, h5⟩ := h
  exact ⟨q, c, h1, own_blk h2 h3 h4 rfl h5⟩
theorem ChB.len {w : World} {base : Nat} {r : List Value} {d : BlkD} (h : ChB w base r d) : r.length = 65 := by
  obtain ⟨q, c, h1, h2⟩ := h.blk
  rw [h1, Array.length_toList]; exact h2.size
/-- a chain's three cells -/
def chA (depth height : Nat) (p : Option Addr) (n c : Nat) : Array Value := #[.int .i64 (depth : Int), .int .u32 (height : Int), .slice p n c]
/-- a chain in memory -/
structure ChAt (w : World) (base cb depth height : Nat) (ds : List BlkD) (p : Option Addr) (c : Nat) (rows : List (List Value)) : Prop where
  row : w.heap[cb]? = some (.cells (chA depth height p ds.length c) 70 (0, 0))
  low : base ≤ cb
  keeps : World.keepsRow w base 33 65 (.slice p ds.length c) ds.length rows.flatten
  count : rows.length = ds.length
  each : ∀ (i : Nat) r d, rows[i]? = some r → ds[i]? = some d → ChB w base r d
  depth1 : 1 ≤ depth ∧ depth ≤ 16
  many : ds.length ≤ depth + 1 ∧ height ≤ 4294967295
  few : ∀ d ∈ ds, d.txs.length ≤ 1099511627776
def ChIs (w : World) (base cb depth height : Nat) (ds : List BlkD) : Prop := ∃ p c rows, ChAt w base cb depth height ds p c rows
theorem ChAt.below {w w' : World} {base cb depth height : Nat} {ds : List BlkD} {p : Option Addr} {c : Nat} {rows : List (List Value)} (h : ChAt w base cb depth height ds p c rows) (hb : Below w.heap.size w w') : ChAt w' base cb depth height ds p c rows :=
  ⟨Below.keepOld hb h.row, h.low, keeps_below h.keeps hb, h.count, fun i r d h1 h2 => (h.each i r d h1 h2).below hb, h.depth1, h.many, h.few⟩
theorem ChAt.cells {w : World} {base cb depth height : Nat} {ds : List BlkD} {p : Option Addr} {c : Nat} {rows : List (List Value)} (h : ChAt w base cb depth height ds p c rows) :
    w.cell? ⟨cb, 0, none⟩ = some (.int .i64 (depth : Int)) ∧ w.cell? ⟨cb, 1, none⟩ = some (.int .u32 (height : Int)) ∧ w.cell? ⟨cb, 2, none⟩ = some (.slice p ds.length c) ∧ ∀ j, w.frozen? ⟨cb, j, none⟩ = false :=
  ⟨by rw [cell_of_row _ _ _ _ _ _ h.row]; rfl, by rw [cell_of_row _ _ _ _ _ _ h.row]; rfl, by rw [cell_of_row _ _ _ _ _ _ h.row]; rfl, fun j => frozen_of_row _ _ _ _ _ h.row⟩
theorem ChAt.rs {w : World} {base cb depth height : Nat} {ds : List BlkD} {p : Option Addr} {c : Nat} {rows : List (List Value)} (h : ChAt w base cb depth height ds p c rows) : Rs w p ds.length c 65 rows := by
  obtain ⟨p', c', e, hs⟩ := keeps_sl h.keeps
  cases e
  refine ⟨hs, fun r hr => ?_, h.count⟩
  obtain ⟨i, hi⟩ := List.mem_iff_getElem?.1 hr
  have hlt : i < ds.length := by rw [← h.count]; exact (List.getElem?_eq_some_iff.1 hi).1
  exact (h.each i r _ hi (List.getElem?_eq_getElem hlt)).len

set_option maxRecDepth 100000 in
theorem none_any (cb depth : Nat) (w : World) (hc : w.cell? ⟨cb, 0, none⟩ = some (.int .i64 (depth : Int))) (hd : 1 ≤ depth) :
    Calls Try.prog 41 #[.pointer (some ⟨cb, 0, none⟩)] w fun e w' => e = .returned (.bool false) ∧ w' = w := by
  have h0 : ((depth : Int) == 0) = false := by rw [beq_eq_false_iff_ne]; omega
  go_enter Try.func41, Try.ntmps41
  go_wp2_with fail
  go_ret
  exact ⟨rfl, rfl⟩

set_option maxRecDepth 100000 in
/-- Height -/
theorem height_any {base cb depth height : Nat} {ds : List BlkD} {p : Option Addr} {c : Nat} {rows : List (List Value)} (w : World) (h : ChAt w base cb depth height ds p c rows) :
    Calls Try.prog 15 #[.pointer (some ⟨cb, 0, none⟩)] w fun e w' => e = .returned (.int .u32 (height : Int)) ∧ w' = w := by
  have hc := h.cells.2.1
  have HN := Lib.hid (none_any cb depth w h.cells.1 h.depth1.1)
  clear h
  go_enter Try.func15, Try.ntmps15
  go_wp2_with fail
  refine HN.out.mono ?_
  rintro e w' ⟨rfl, rfl⟩
  go_wp2_with fail
  go_ret
  exact ⟨rfl, rfl⟩

/-- the height of a place in the window: as a number of 32 bits -/
def atN (height n i : Nat) : Nat := (height + 4294967296 - (n - 1 - i)) % 4294967296
theorem atN_le {height n i : Nat} (h : n ≤ height) (hh : height ≤ 4294967295) : atN height n i = height - (n - 1 - i) := by unfold atN; omega

set_option maxRecDepth 100000 in
/-- the height of a place in the window -/
theorem at_any {base cb depth height : Nat} {ds : List BlkD} {p : Option Addr} {c : Nat} {rows : List (List Value)} (w : World) (h : ChAt w base cb depth height ds p c rows) (i : Nat) (hi : i < ds.length) :
    Calls Try.prog 52 #[.pointer (some ⟨cb, 0, none⟩), .int .i64 (i : Int)] w fun e w' => e = .returned (.int .u32 ((atN height ds.length i : Nat) : Int)) ∧ Below w.heap.size w w' := by
  have hc1 := h.cells.2.1
  have hc2 := h.cells.2.2.1
  have hm := h.many
  obtain ⟨hd1, hd2⟩ := h.depth1
  have hw1 : IntKind.i64.wrap ((ds.length : Int) - 1) = (ds.length : Int) - 1 := IntWalk.i64_in _ (by omega)
  have hw2 : IntKind.i64.wrap ((ds.length : Int) - 1 - (i : Int)) = (ds.length : Int) - 1 - (i : Int) := IntWalk.i64_in _ (by omega)
  have hw3 : IntKind.u32.wrap ((ds.length : Int) - 1 - (i : Int)) = (ds.length : Int) - 1 - (i : Int) := IntWalk.u32_in _ (by omega)
  have hw4 : IntKind.u32.wrap ((height : Int) - ((ds.length : Int) - 1 - (i : Int))) = ((atN height ds.length i : Nat) : Int) := by
    have e1 : ((height : Int) - ((ds.length : Int) - 1 - (i : Int))) = (height : Int) - ((ds.length - 1 - i : Nat) : Int) := by omega
    rw [e1]
    unfold atN IntKind.wrap
    simp only [IntKind.bits, IntKind.signed, Bool.false_and, Bool.false_eq_true, if_false]
    omega
  clear h
  go_enter Try.func52, Try.ntmps52
  go_wp2_with fail
  have hg1 := cell_grown hc1
  have hg2 := cell_grown hc2
  refine wp_region_grow (by kernel_rfl) (by kernel_rfl) ?_
  repeat (first
    | quiet_step (fail))
  refine wpQuiet_nil ?_
  intro w4 hb4
  have HB4 := Lib.hid hb4
  clear hb4 hg1 hg2 hc1 hc2
  go_wp2_with fail
  go_ret
  exact ⟨rfl, HB4.out⟩
end Go.Proofs.Ytepemfgiigceoaa.Chn
