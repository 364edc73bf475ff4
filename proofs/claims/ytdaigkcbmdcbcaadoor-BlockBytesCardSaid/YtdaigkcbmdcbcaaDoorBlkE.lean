/- BLOCKS: Encode of any block; the reference's Bytes, Encode. Conditions: none. -/
import Derived.Test.YtdaigkcbmdcbcaaDoorBlkP
import Derived.Test.YtdaigkcbmdcbcaaDoorBlk11
namespace Go.Proofs.YtdaigkcbmdcbcaaDoor.Blk
open Go.RowKit Go.Mir Go.Mir.Parts Wr Cod

theorem _root_.Go.Mir.BlkAt.wf {w : World} {M : Array Value} {d : BlkD} {q : Option Addr} {n c : Nat} (h : BlkAt w M d q n c) : d.wf := ⟨h.hlen, h.plen, h.ids.each⟩
def EncP (d : BlkD) (w : World) (e : Ending) (w' : World) : Prop :=
  ∃ p c, e = .returned (.tuple #[.slice p d.enc.1.length c, .int .i64 d.enc.2]) ∧ w'.ownsRow w.heap.size 5 1 (.slice p d.enc.1.length c) d.enc.1.length (bytesV d.enc.1) ∧ Bs w' p d.enc.1.length c d.enc.1 ∧ Below w.heap.size w w'
set_option maxRecDepth 100000 in
theorem encode_any (M : Array Value) (d : BlkD) (q : Option Addr) (n c : Nat) (w : World) (hM : BlkAt w M d q n c) :
    Calls Tryd.prog 10 #[.agg M] w (EncP d w) := by
  by_cases hr : rightB d = true
  · have he : d.enc = (encL d, 0) := by unfold BlkD.enc; rw [if_pos hr]
    refine (encode_ok M d q n c w hM (by rw [← hM.ids.count]; exact right_le hr) (fun w' hw' => by
      have := right_any M d q n c w' hw'
      rwa [hr] at this)).mono ?_
    rintro e w' ⟨⟨p, m, cc, rfl, ho⟩, hb⟩
    obtain ⟨p', c', hv, hs⟩ := own_sl ho
    cases hv
    obtain rfl := Bs.length hs
    unfold EncP
    rw [he]
    exact ⟨p, cc, rfl, ho, hs, hb⟩
  · have hf : rightB d = false := by cases h : rightB d; rfl; exact absurd h hr
    have he : d.enc = ([], 1) := by unfold BlkD.enc; rw [if_neg hr]
    have HEE : Hid (∀ w', Below w.heap.size w w' → EncP d w (.returned (.tuple #[.slice none 0 0, .int .i64 1])) w') := fun w' hb => by
      unfold EncP
      rw [he]
      exact ⟨none, 0, rfl, ⟨rfl, .inl ⟨rfl, rfl⟩⟩, Sl.nil _ _, hb⟩
    have HMS := Lib.hid hM.size
    have H0 : Hid ((w.alloc (.cells M 26)).heap[w.heap.size]? = some (.cells M 26 (0, 0))) := heap_alloc_last _ _
    have HB0 := Lib.hid (Below.allocs w (.cells M 26))
    have HR := Lib.hid (right_any M d q n c _ (hM.below HB0.out))
    rw [hf] at HR
    clear hM hr hf he
    go_enter Tryd.func10, Tryd.ntmps10
    go_wp2_with ((with_reducible refine wpAt 5 ?_); refine wpList_load_row rfl 26 _ rfl w.heap.size rfl 26 M (0, 0) _ H0.out Tryd.underlying26 rfl (infoBlk _ HMS.out) ?_)
    generalize w.alloc (.cells M 26) = w0 at *
    refine HR.out.mono ?_
    rintro e w1 ⟨rfl, hb1⟩
    have HB1 := Lib.hid (HB0.out.trans (hb1.mono HB0.out.size))
    clear hb1
    go_wp2_with fail
    go_ret2
    exact HEE.out _ HB1.out
end Go.Proofs.YtdaigkcbmdcbcaaDoor.Blk
