/- PARTS, JOINED: LAYER 22: VaultNil: no vault of a nil disk; a nil vault, and one that no call made. Conditions: the laid cell of errors.errorType. -/
import Derived.Test.YtnejjfglkindjaaGreatDoorVa1
import Derived.Test.YtnejjfglkindjaaGreatDoorVa2
import Derived.Test.YtnejjfglkindjaaGreatDoorVa3
import Derived.Test.YtnejjfglkindjaaGreatDoorVa4
import Derived.Test.YtnejjfglkindjaaGreatDoorVa5
import Derived.Test.YtnejjfglkindjaaGreatDoorVa6
import Derived.Test.YtnejjfglkindjaaGreatDoorVa7
import Derived.Test.YtnejjfglkindjaaGreatDoorVa8
import Derived.Test.YtnejjfglkindjaaGreatDoorVa9
import Derived.Test.YtnejjfglkindjaaGreatDoorVa10
import Derived.Test.YtnejjfglkindjaaGreatDoorVa11
namespace Go.Proofs.YtnejjfglkindjaaGreatDoor.Vlt
open Go.RowKit Go.Mir Go.Mir.Parts Dk Rol Wr Slt Cut
open Frm (frame scan)

/-- nil, or a vault that no call made -/
def VNon (w : World) (v : Value) : Prop := v = .pointer none ∨ ∃ rb, v = .pointer (some ⟨rb, 0, none⟩) ∧ w.cell? ⟨rb, 0, none⟩ = some (.pointer none)
theorem VNon.below {w w' : World} {v : Value} (h : VNon w v) (hb : Below w.heap.size w w') : VNon w' v := by
  rcases h with h | ⟨rb, h1, h2⟩
  · exact .inl h
  · exact .inr ⟨rb, h1, cell_below h2 hb⟩
set_option maxRecDepth 100000 in
theorem vnone_non (v : Value) (w : World) (h : VNon w v) : Calls Tryz.prog 38 #[v] w fun e w' => e = .returned (.bool true) ∧ w = w' := by
  rcases h with rfl | ⟨cb, rfl, hc⟩
  · go_enter Tryz.func38, Tryz.ntmps38
    go_wp2_with fail
    go_ret
    exact ⟨rfl, rfl⟩
  · go_enter Tryz.func38, Tryz.ntmps38
    go_wp2_with fail
    go_ret
    exact ⟨rfl, rfl⟩
set_option maxRecDepth 100000 in
theorem vsnap_non (v : Value) (w : World) (h : VNon w v) : Calls Tryz.prog 8 #[v] w fun e w' => e = .returned (.tuple #[.slice none 0 0, .bool false]) ∧ w = w' := by
  have HV := Lib.hid h
  clear h
  go_enter Tryz.func8, Tryz.ntmps8
  go_wp2_with fail
  refine (vnone_non _ _ HV.out).mono ?_
  rintro e w' ⟨rfl, hw⟩
  subst hw
  go_wp2_with fail
  go_ret2
  exact ⟨rfl, rfl⟩
set_option maxRecDepth 100000 in
theorem vrecs_non (v : Value) (w : World) (h : VNon w v) : Calls Tryz.prog 9 #[v] w fun e w' => e = .returned (.slice none 0 0) ∧ w = w' := by
  have HV := Lib.hid h
  clear h
  go_enter Tryz.func9, Tryz.ntmps9
  go_wp2_with fail
  refine (vnone_non _ _ HV.out).mono ?_
  rintro e w' ⟨rfl, hw⟩
  subst hw
  go_wp2_with fail
  go_ret
  exact ⟨rfl, rfl⟩
set_option maxRecDepth 100000 in
theorem vnext_non (v : Value) (w : World) (h : VNon w v) : Calls Tryz.prog 11 #[v] w fun e w' => e = .returned (.int .u64 0) ∧ w = w' := by
  have HV := Lib.hid h
  clear h
  go_enter Tryz.func11, Tryz.ntmps11
  go_wp2_with fail
  refine (vnone_non _ _ HV.out).mono ?_
  rintro e w' ⟨rfl, hw⟩
  subst hw
  go_wp2_with fail
  go_ret
  exact ⟨rfl, rfl⟩
set_option maxRecDepth 100000 in
theorem vsize_non (v : Value) (w : World) (h : VNon w v) : Calls Tryz.prog 10 #[v] w fun e w' => e = .returned (.int .i64 0) ∧ w = w' := by
  have HV := Lib.hid h
  clear h
  go_enter Tryz.func10, Tryz.ntmps10
  go_wp2_with fail
  refine (vnone_non _ _ HV.out).mono ?_
  rintro e w' ⟨rfl, hw⟩
  subst hw
  go_wp2_with fail
  go_ret
  exact ⟨rfl, rfl⟩
set_option maxRecDepth 100000 in
theorem vput_non (v : Value) (b : Value) (w : World) (h : VNon w v) : Calls Tryz.prog 12 #[v, b] w fun e w' => e = .returned (.int .i64 7) ∧ w = w' := by
  have HV := Lib.hid h
  clear h
  go_enter Tryz.func12, Tryz.ntmps12
  go_wp2_with fail
  refine (vnone_non _ _ HV.out).mono ?_
  rintro e w' ⟨rfl, hw⟩
  subst hw
  go_wp2_with fail
  go_ret
  exact ⟨rfl, rfl⟩
set_option maxRecDepth 100000 in
theorem vcomp_non (v : Value) (b : Value) (w : World) (h : VNon w v) : Calls Tryz.prog 13 #[v, b] w fun e w' => e = .returned (.int .i64 7) ∧ w = w' := by
  have HV := Lib.hid h
  clear h
  go_enter Tryz.func13, Tryz.ntmps13
  go_wp2_with fail
  refine (vnone_non _ _ HV.out).mono ?_
  rintro e w' ⟨rfl, hw⟩
  subst hw
  go_wp2_with fail
  go_ret
  exact ⟨rfl, rfl⟩
set_option maxRecDepth 100000 in
theorem vopen_non (v : Value) (w : World) (h : Non w v) : Calls Tryz.prog 7 #[v] w fun e w' => e = .returned (.tuple #[.pointer none, .int .i64 7]) ∧ w = w' := by
  have HV := Lib.hid h
  clear h
  go_enter Tryz.func7, Tryz.ntmps7
  go_wp2_with fail
  refine (sopen_non _ 1 2 _ HV.out).mono ?_
  rintro e w' ⟨rfl, hw⟩
  subst hw
  go_wp2_with fail
  go_ret2
  exact ⟨rfl, rfl⟩
def vlZ : Array Value := #[.pointer none, .pointer none, .int .u64 0, .bool false, .slice none 0 0, .slice none 0 0]
theorem zeroV (w : World) : (zeroValue 33).run Tryz.prog w = .ok (.agg vlZ) w := by kernel_rfl
set_option maxRecDepth 100000 in
set_option maxHeartbeats 6400000 in
theorem law_nil (p : Option Addr) (n c : Nat) (w : World) (hE : Rdr.EType w) :
    Calls Tryz.prog 3 #[.slice p n c] w fun e w' => e = .returned (.bool true) ∧ Below w.heap.size w w' := by
  have HE := Lib.hid hE
  have hzs := zeroV
  clear hE
  go_enter Tryz.func3, Tryz.ntmps3
  go_wp2_with fail
  refine (vopen_non _ w (.inl rfl)).mono ?_
  rintro e w' ⟨rfl, hw⟩
  subst hw
  go_upto_region 5 with fail
  have HB2 : Hid (Below w.heap.size w (w.alloc (.cells vlZ 33))) := Below.allocs _ _
  have HK2 : Hid ((w.alloc (.cells vlZ 33)).cell? ⟨w.heap.size, 0, none⟩ = some (.pointer none)) := by
    show _ = _
    rw [cell_of_row _ _ _ _ _ _ (heap_alloc_last w _)]; rfl
  generalize hw2 : w.alloc (.cells vlZ 33) = w2 at *
  generalize w.heap.size = cb at HK2
  go_wp2_with fail
  refine (vsnap_non _ w2 (.inl rfl)).mono ?_
  rintro e w' ⟨rfl, hw⟩
  subst hw
  go_wp2_with fail
  refine (vsnap_non _ w2 (.inr ⟨_, rfl, HK2.out⟩)).mono ?_
  rintro e w' ⟨rfl, hw⟩
  subst hw
  go_wp2_with fail
  refine (vrecs_non _ w2 (.inl rfl)).mono ?_
  rintro e w' ⟨rfl, hw⟩
  subst hw
  go_wp2_with fail
  refine (vrecs_non _ w2 (.inr ⟨_, rfl, HK2.out⟩)).mono ?_
  rintro e w' ⟨rfl, hw⟩
  subst hw
  go_wp2_with fail
  refine (vsize_non _ w2 (.inl rfl)).mono ?_
  rintro e w' ⟨rfl, hw⟩
  subst hw
  go_wp2_with fail
  refine (vsize_non _ w2 (.inr ⟨_, rfl, HK2.out⟩)).mono ?_
  rintro e w' ⟨rfl, hw⟩
  subst hw
  go_wp2_with fail
  refine (vnext_non _ w2 (.inl rfl)).mono ?_
  rintro e w' ⟨rfl, hw⟩
  subst hw
  go_wp2_with fail
  refine (vnext_non _ w2 (.inr ⟨_, rfl, HK2.out⟩)).mono ?_
  rintro e w' ⟨rfl, hw⟩
  subst hw
  go_wp2_with fail
  refine (vput_non _ _ w2 (.inl rfl)).mono ?_
  rintro e w' ⟨rfl, hw⟩
  subst hw
  go_wp2_with fail
  refine (vput_non _ _ w2 (.inr ⟨_, rfl, HK2.out⟩)).mono ?_
  rintro e w' ⟨rfl, hw⟩
  subst hw
  go_wp2_with fail
  refine (vcomp_non _ _ w2 (.inl rfl)).mono ?_
  rintro e w' ⟨rfl, hw⟩
  subst hw
  go_wp2_with fail
  refine (vcomp_non _ _ w2 (.inr ⟨_, rfl, HK2.out⟩)).mono ?_
  rintro e w' ⟨rfl, hw⟩
  subst hw
  go_wp2_with fail
  refine (alive22_any w2 (HE.out.below HB2.out HE.out.lt)).mono ?_
  rintro e w9 ⟨rfl, hb9⟩
  have HB9 := Lib.hid (HB2.out.trans (hb9.mono HB2.out.size))
  clear hb9
  go_wp2_with fail
  go_ret
  exact ⟨rfl, HB9.out⟩
end Go.Proofs.YtnejjfglkindjaaGreatDoor.Vlt
