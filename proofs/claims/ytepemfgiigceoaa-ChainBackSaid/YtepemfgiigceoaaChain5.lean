/- THE WALKS OF A CHAIN, on: a block connected. Conditions: none. -/
import Derived.Test.YtepemfgiigceoaaChain4
import Derived.Test.YtepemfgiigceoaaEager2
namespace Go.Proofs.Ytepemfgiigceoaa.Chn
open Go.RowKit Go.Mir Go.Mir.Parts Go.Proofs.Ytepemfgiigceoaa.Blk


set_option maxRecDepth 100000 in
/-- a block refused -/
theorem connect_not {base cb depth height : Nat} {ds : List BlkD} {p : Option Addr} {c : Nat} {rows : List (List Value)} (w : World) (h : ChAt w base cb depth height ds p c rows) (M : Array Value) (b : BlkD) (q : Option Addr) (n cc : Nat) (hM : BlkAt w M b q n cc) (hne : ¬ mayE ds height b = 0) :
    Calls Try.prog 13 #[.pointer (some ⟨cb, 0, none⟩), .agg M] w fun e w' => e = .returned (.int .i64 (mayE ds height b)) ∧ Below w.heap.size w w' := by
  have hb1 : Below w.heap.size w (w.alloc (.cells M 33)) := Below.allocs _ _
  have HB1 := Lib.hid hb1
  have H1 := Lib.hid (h.below hb1)
  have HM1 := Lib.hid (hM.below hb1)
  have HS := Lib.hid hM.size
  have HR1 := Lib.hid (heap_alloc_last w (.cells M 33))
  have hn : (mayE ds height b != 0) = true := by rw [bne_iff_ne]; exact hne
  clear h hM hb1 hne
  go_enter Try.func13, Try.ntmps13
  go_wp2_with ((with_reducible refine wpAt 7 ?_); refine wpList_load_row rfl 33 _ rfl w.heap.size rfl 33 M (0, 0) _ HR1.out Try.underlying33 rfl (infoBlk _ HS.out) ?_)
  refine (may_any _ H1.out M b _ _ _ HM1.out).mono ?_
  rintro e w2 ⟨rfl, hb2⟩
  have HB2 := Lib.hid (HB1.out.trans (hb2.mono HB1.out.size))
  clear hb2
  generalize hE : mayE ds height b = E at *
  go_wp2_with fail
  go_ret
  exact ⟨by rw [hE]; rfl, HB2.out⟩
end Go.Proofs.Ytepemfgiigceoaa.Chn
