/- MESSAGES: the reference's Bytes, Encode. Conditions: none. -/
import Derived.Test.YtmjdpfmofbbknaaDoorMsgR1
namespace Go.Proofs.YtmjdpfmofbbknaaDoor.Msg
open Go.RowKit Go.Mir Go.Mir.Parts Wr Cod

theorem rnum (w : World) (n k : Nat) (hn : n < 18446744073709551616) (hk : k ≤ 8) :
    Calls Tryd.prog 32 #[.int .u64 (n : Int), .int .i64 (k : Int)] w fun e w' => ∃ p c, e = .returned (.slice p k c) ∧ Bs w' p k c (be n k) ∧ Below w.heap.size w w' := by
  refine (Rdr.number_any w n k hn hk).mono ?_
  rintro e w' ⟨p, c, he, ho, hb⟩
  rw [← be_numB _ _ hk, be_length] at he ho
  obtain ⟨p', c', e9, hs⟩ := own_sl ho
  cases e9
  exact ⟨p, c, he, hs, hb⟩
theorem own_one (w : World) (base : Nat) (b : UInt8) (t : TypeId) (hb : base ≤ w.heap.size) (v : Value) (hv : v = .int .u8 (b.toNat : Int)) : (w.alloc (.cells #[v] t)).ownsRow base t 1 (.slice (some ⟨w.heap.size, 0, none⟩) 1 1) 1 (bytesV [b]) := by
  subst hv
  exact ⟨rfl, .inr ⟨w.heap.size, 1, _, rfl, hb, heap_alloc_last _ _, Nat.le_refl _, by simp [maxLen], rfl, rfl⟩⟩
def RBytP (m : MsgD) (w : World) (e : Ending) (w' : World) : Prop := ∃ p n c, e = .returned (.slice p n c) ∧ n = m.bytes.length ∧ w'.ownsRow w.heap.size 5 1 (.slice p n c) n (bytesV m.bytes) ∧ Below w.heap.size w w'
set_option maxRecDepth 100000 in
set_option maxHeartbeats 3200000 in
theorem rbytes_any (m : MsgD) (p : Option Addr) (c : Nat) (w : World) (hM : MsgAt w m p c) (hr : m.right) :
    Calls Tryd.prog 21 #[.agg (msgA m p c)] w (RBytP m w) := by
  have HM := Lib.hid hM
  have HWF := Lib.hid hM.wf
  have hble := hM.blob.le
  have hbmax := hM.blob.max
  have HR0 : Hid ((w.alloc (.cells (msgA m p c) 28)).heap[w.heap.size]? = some (.cells (msgA m p c) 28 (0, 0))) := heap_alloc_last _ _
  have HB0 := Lib.hid (Below.allocs w (.cells (msgA m p c) 28))
  have HS0 : Hid ((w.alloc (.cells (msgA m p c) 28)).heap.size = w.heap.size + 1) := by show _ = _; simp
  clear hM
  have hlen := bytes_len m HWF.out hr
  rcases hr with ⟨hk, _, _, _, hbl, hq⟩ | ⟨hk, hq, hbl⟩ | ⟨hk, h2, h3, h4, h5⟩
  · have HBY : Hid (m.bytes = [UInt8.ofNat m.kind.toNat] ++ be m.quo 2) := by show _ = _; unfold MsgD.bytes; rw [if_pos hk, be1]
    have t1 : (m.kind == 1) = true := by rw [beq_iff_eq]; exact hk
    have hkw : IntKind.u8.wrap m.kind = ((UInt8.ofNat m.kind.toNat).toNat : Int) := by
      rw [UInt8.toNat_ofNat', IntKind.wrap_u8]
      omega
    clear hk hlen hbl
    generalize UInt8.ofNat m.kind.toNat = kb at *
    go_enter Tryd.func21, Tryd.ntmps21
    go_upto_region 1 with fail
    generalize w.alloc (.cells (msgA m p c) 28) = w1 at *
    obtain ⟨a0, a1, a2, a3, a4, a5⟩ := msg_cells HWF.out.hint HR0.out
    clear a5
    go_upto_region 2 with fail
    have HO : Hid ((w1.alloc (.cells #[.int .u8 (kb.toNat : Int)] 5)).ownsRow w1.heap.size 5 1 (.slice (some ⟨w1.heap.size, 0, none⟩) 1 1) 1 (bytesV [kb])) := own_one w1 _ kb _ (Nat.le_refl _) _ rfl
    have HBX : Hid (Below w1.heap.size w1 (w1.alloc (.cells #[.int .u8 (kb.toNat : Int)] 5))) := Below.allocs _ _
    generalize w1.alloc (.cells #[.int .u8 (kb.toNat : Int)] 5) = x0 at *
    obtain ⟨q0, hq0⟩ : ∃ q0 : Option Addr, q0 = some ⟨w1.heap.size, 0, none⟩ := ⟨_, rfl⟩
    rw [← hq0] at HO
    rw [← hq0]
    clear hq0
    clear a0 a1 a2 a3 a4
    obtain ⟨a0, a1, a2, a3, a4, a5⟩ := msg_cells HWF.out.hint (Below.keepBlock HBX.out HR0.out (by have := HS0.out; omega))
    clear a5
    go_wp2_with fail
    refine (rnum _ m.quo 2 (by omega) (by omega)).mono ?_
    rintro e y9 ⟨px, cx, rfl, hsx, hbx⟩
    have hoy := own_touch HO.out (Turns.of_below (S := fun _ => False) hbx) (fun _ _ h => h)
    have hby := HBX.out.trans (hbx.mono HBX.out.size)
    clear HO HBX hbx
    have HO := Lib.hid hoy
    have HBX := Lib.hid hby
    have HSX : Hid (Bs y9 px 2 cx (be m.quo 2)) := hsx
    clear hoy hby hsx
    clear a0 a1 a2 a3 a4
    obtain ⟨a0, a1, a2, a3, a4, a5⟩ := msg_cells HWF.out.hint (Below.keepBlock HBX.out HR0.out (by have := HS0.out; omega))
    clear a5
    have hlx := HSX.out.le
    have hmx := HSX.out.max
    go_wp2_with (at_builtin; refine wpList_append_nx rfl _ _ 26 rfl (base := w1.heap.size) Tryd.underlying26 info8b rfl (by omega) rfl HO.out rfl HSX.out (bytesV_one _) ⟨by omega, by omega⟩ HBX.out.size ?_)
    intro p9 c9 x9 ho9 hg9 _ _
    have hb9 := HBX.out.grown hg9 HBX.out.size (fun k hk => (HO.out.lt k hk).1)
    rw [← bytesV_append] at ho9
    clear HO HSX HBX hg9 hlx hmx
    have HO := Lib.hid ho9
    have HBX := Lib.hid hb9
    clear ho9 hb9
    clear a0 a1 a2 a3 a4
    obtain ⟨a0, a1, a2, a3, a4, a5⟩ := msg_cells HWF.out.hint (Below.keepBlock HBX.out HR0.out (by have := HS0.out; omega))
    clear a5
    have hofin := own_base (base' := w.heap.size) HO.out (fun k hk => by have := (HO.out.lt k hk).1; have := HS0.out; omega)
    have hbfin : Below w.heap.size w _ := HB0.out.trans (HBX.out.mono (by have := HS0.out; omega))
    have HFIN := Lib.hid hofin
    have HBF := Lib.hid hbfin
    clear hofin hbfin
    go_wp2_with fail
    go_ret
    refine ⟨_, _, _, rfl, ?_, ?_, HBF.out⟩
    · rw [HBY.out]; simp [be_length]; try (have hh16 := HWF.out.hint; omega)
    · rw [HBY.out]; have := HFIN.out; simpa [List.append_assoc] using this
  · have HBY : Hid (m.bytes = [UInt8.ofNat m.kind.toNat] ++ be m.ses 4 ++ be m.seq 4 ++ m.hint ++ be m.blob.length 2 ++ m.blob) := by show _ = _; unfold MsgD.bytes; rw [if_neg (by omega), if_pos hk, be1]; simp
    have t1 : (m.kind == 1) = false := by rw [beq_eq_false_iff_ne]; omega
    have t2 : (m.kind == 2) = true := by rw [beq_iff_eq]; exact hk
    have hkw : IntKind.u8.wrap m.kind = ((UInt8.ofNat m.kind.toNat).toNat : Int) := by
      rw [UInt8.toNat_ofNat', IntKind.wrap_u8]
      omega
    have hbw : IntKind.u64.wrap (m.blob.length : Int) = (m.blob.length : Int) := by rw [IntKind.wrap_u64]; omega
    have hs := HWF.out.ses
    have hs2 := HWF.out.seq
    have hsl : ∀ w' g, (Instr.sliceAt 25 (.pointer (some ⟨g, 4, none⟩)) none none none).run Tryd.prog w' = .ok (.slice (some ⟨g, 4, none⟩) 16 16) w' := fun w' g => by kernel_rfl
    have HHB : Hid (∀ x, x.rangeAt w.heap.size 4 (idA m.hint).toList → Bs x (some ⟨w.heap.size, 4, none⟩) 16 16 m.hint) := fun x hx => ⟨by rw [bytesV_length, HWF.out.hint], Nat.le_refl _, by omega, fun h => (by cases h), fun a ha j u hu => by
      obtain rfl := Option.some.inj ha
      rw [add_none]
      refine hx j u ?_
      rw [idA_toList]; exact hu⟩
    clear hk hlen hq
    generalize UInt8.ofNat m.kind.toNat = kb at *
    go_enter Tryd.func21, Tryd.ntmps21
    go_upto_region 1 with fail
    generalize w.alloc (.cells (msgA m p c) 28) = w1 at *
    obtain ⟨a0, a1, a2, a3, a4, a5⟩ := msg_cells HWF.out.hint HR0.out
    clear a5
    go_upto_region 2 with fail
    have HO : Hid ((w1.alloc (.cells #[.int .u8 (kb.toNat : Int)] 5)).ownsRow w1.heap.size 5 1 (.slice (some ⟨w1.heap.size, 0, none⟩) 1 1) 1 (bytesV [kb])) := own_one w1 _ kb _ (Nat.le_refl _) _ rfl
    have HBX : Hid (Below w1.heap.size w1 (w1.alloc (.cells #[.int .u8 (kb.toNat : Int)] 5))) := Below.allocs _ _
    generalize w1.alloc (.cells #[.int .u8 (kb.toNat : Int)] 5) = x0 at *
    obtain ⟨q0, hq0⟩ : ∃ q0 : Option Addr, q0 = some ⟨w1.heap.size, 0, none⟩ := ⟨_, rfl⟩
    rw [← hq0] at HO
    rw [← hq0]
    clear hq0
    clear a0 a1 a2 a3 a4
    obtain ⟨a0, a1, a2, a3, a4, a5⟩ := msg_cells HWF.out.hint (Below.keepBlock HBX.out HR0.out (by have := HS0.out; omega))
    clear a5
    go_wp2_with fail
    refine (rnum _ m.ses 4 (by omega) (by omega)).mono ?_
    rintro e y9 ⟨px, cx, rfl, hsx, hbx⟩
    have hoy := own_touch HO.out (Turns.of_below (S := fun _ => False) hbx) (fun _ _ h => h)
    have hby := HBX.out.trans (hbx.mono HBX.out.size)
    clear HO HBX hbx
    have HO := Lib.hid hoy
    have HBX := Lib.hid hby
    have HSX : Hid (Bs y9 px 4 cx (be m.ses 4)) := hsx
    clear hoy hby hsx
    clear a0 a1 a2 a3 a4
    obtain ⟨a0, a1, a2, a3, a4, a5⟩ := msg_cells HWF.out.hint (Below.keepBlock HBX.out HR0.out (by have := HS0.out; omega))
    clear a5
    have hlx := HSX.out.le
    have hmx := HSX.out.max
    go_wp2_with (at_builtin; refine wpList_append_nx rfl _ _ 26 rfl (base := w1.heap.size) Tryd.underlying26 info8b rfl (by omega) rfl HO.out rfl HSX.out (bytesV_one _) ⟨by omega, by omega⟩ HBX.out.size ?_)
    intro p9 c9 x9 ho9 hg9 _ _
    have hb9 := HBX.out.grown hg9 HBX.out.size (fun k hk => (HO.out.lt k hk).1)
    rw [← bytesV_append] at ho9
    clear HO HSX HBX hg9 hlx hmx
    have HO := Lib.hid ho9
    have HBX := Lib.hid hb9
    clear ho9 hb9
    clear a0 a1 a2 a3 a4
    obtain ⟨a0, a1, a2, a3, a4, a5⟩ := msg_cells HWF.out.hint (Below.keepBlock HBX.out HR0.out (by have := HS0.out; omega))
    clear a5
    go_wp2_with fail
    refine (rnum _ m.seq 4 (by omega) (by omega)).mono ?_
    rintro e y9 ⟨px, cx, rfl, hsx, hbx⟩
    have hoy := own_touch HO.out (Turns.of_below (S := fun _ => False) hbx) (fun _ _ h => h)
    have hby := HBX.out.trans (hbx.mono HBX.out.size)
    clear HO HBX hbx
    have HO := Lib.hid hoy
    have HBX := Lib.hid hby
    have HSX : Hid (Bs y9 px 4 cx (be m.seq 4)) := hsx
    clear hoy hby hsx
    clear a0 a1 a2 a3 a4
    obtain ⟨a0, a1, a2, a3, a4, a5⟩ := msg_cells HWF.out.hint (Below.keepBlock HBX.out HR0.out (by have := HS0.out; omega))
    clear a5
    have hlx := HSX.out.le
    have hmx := HSX.out.max
    go_wp2_with (at_builtin; refine wpList_append_nx rfl _ _ 26 rfl (base := w1.heap.size) Tryd.underlying26 info8b rfl (by omega) rfl HO.out rfl HSX.out (bytesV_one _) ⟨by omega, by omega⟩ HBX.out.size ?_)
    intro p9 c9 x9 ho9 hg9 _ _
    have hb9 := HBX.out.grown hg9 HBX.out.size (fun k hk => (HO.out.lt k hk).1)
    rw [← bytesV_append] at ho9
    clear HO HSX HBX hg9 hlx hmx
    have HO := Lib.hid ho9
    have HBX := Lib.hid hb9
    clear ho9 hb9
    clear a0 a1 a2 a3 a4
    obtain ⟨a0, a1, a2, a3, a4, a5⟩ := msg_cells HWF.out.hint (Below.keepBlock HBX.out HR0.out (by have := HS0.out; omega))
    clear a5
    have HSX := Lib.hid (HHB.out _ (msg_cells HWF.out.hint (Below.keepBlock HBX.out HR0.out (by have := HS0.out; omega))).2.2.2.2.2)
    have hlx := HSX.out.le
    have hmx := HSX.out.max
    go_wp2_with (at_builtin; refine wpList_append_nx rfl _ _ 26 rfl (base := w1.heap.size) Tryd.underlying26 info8b rfl (by omega) rfl HO.out rfl HSX.out (bytesV_one _) ⟨by omega, by omega⟩ HBX.out.size ?_)
    intro p9 c9 x9 ho9 hg9 _ _
    have hb9 := HBX.out.grown hg9 HBX.out.size (fun k hk => (HO.out.lt k hk).1)
    rw [← bytesV_append] at ho9
    clear HO HSX HBX hg9 hlx hmx
    have HO := Lib.hid ho9
    have HBX := Lib.hid hb9
    clear ho9 hb9
    clear a0 a1 a2 a3 a4
    obtain ⟨a0, a1, a2, a3, a4, a5⟩ := msg_cells HWF.out.hint (Below.keepBlock HBX.out HR0.out (by have := HS0.out; omega))
    clear a5
    go_wp2_with fail
    refine (rnum _ m.blob.length 2 (by omega) (by omega)).mono ?_
    rintro e y9 ⟨px, cx, rfl, hsx, hbx⟩
    have hoy := own_touch HO.out (Turns.of_below (S := fun _ => False) hbx) (fun _ _ h => h)
    have hby := HBX.out.trans (hbx.mono HBX.out.size)
    clear HO HBX hbx
    have HO := Lib.hid hoy
    have HBX := Lib.hid hby
    have HSX : Hid (Bs y9 px 2 cx (be m.blob.length 2)) := hsx
    clear hoy hby hsx
    clear a0 a1 a2 a3 a4
    obtain ⟨a0, a1, a2, a3, a4, a5⟩ := msg_cells HWF.out.hint (Below.keepBlock HBX.out HR0.out (by have := HS0.out; omega))
    clear a5
    have hlx := HSX.out.le
    have hmx := HSX.out.max
    go_wp2_with (at_builtin; refine wpList_append_nx rfl _ _ 26 rfl (base := w1.heap.size) Tryd.underlying26 info8b rfl (by omega) rfl HO.out rfl HSX.out (bytesV_one _) ⟨by omega, by omega⟩ HBX.out.size ?_)
    intro p9 c9 x9 ho9 hg9 _ _
    have hb9 := HBX.out.grown hg9 HBX.out.size (fun k hk => (HO.out.lt k hk).1)
    rw [← bytesV_append] at ho9
    clear HO HSX HBX hg9 hlx hmx
    have HO := Lib.hid ho9
    have HBX := Lib.hid hb9
    clear ho9 hb9
    clear a0 a1 a2 a3 a4
    obtain ⟨a0, a1, a2, a3, a4, a5⟩ := msg_cells HWF.out.hint (Below.keepBlock HBX.out HR0.out (by have := HS0.out; omega))
    clear a5
    have HSX := Lib.hid (HM.out.blob.below (HB0.out.trans (HBX.out.mono (by have := HS0.out; omega))))
    have hlx := HSX.out.le
    have hmx := HSX.out.max
    go_wp2_with (at_builtin; refine wpList_append_nx rfl _ _ 26 rfl (base := w1.heap.size) Tryd.underlying26 info8b rfl (by omega) rfl HO.out rfl HSX.out (bytesV_one _) ⟨by omega, by omega⟩ HBX.out.size ?_)
    intro p9 c9 x9 ho9 hg9 _ _
    have hb9 := HBX.out.grown hg9 HBX.out.size (fun k hk => (HO.out.lt k hk).1)
    rw [← bytesV_append] at ho9
    clear HO HSX HBX hg9 hlx hmx
    have HO := Lib.hid ho9
    have HBX := Lib.hid hb9
    clear ho9 hb9
    clear a0 a1 a2 a3 a4
    obtain ⟨a0, a1, a2, a3, a4, a5⟩ := msg_cells HWF.out.hint (Below.keepBlock HBX.out HR0.out (by have := HS0.out; omega))
    clear a5
    have hofin := own_base (base' := w.heap.size) HO.out (fun k hk => by have := (HO.out.lt k hk).1; have := HS0.out; omega)
    have hbfin : Below w.heap.size w _ := HB0.out.trans (HBX.out.mono (by have := HS0.out; omega))
    have HFIN := Lib.hid hofin
    have HBF := Lib.hid hbfin
    clear hofin hbfin
    go_wp2_with fail
    go_ret
    refine ⟨_, _, _, rfl, ?_, ?_, HBF.out⟩
    · rw [HBY.out]; simp [be_length]; try (have hh16 := HWF.out.hint; omega)
    · rw [HBY.out]; have := HFIN.out; simpa [List.append_assoc] using this
  · have HBY : Hid (m.bytes = [UInt8.ofNat m.kind.toNat] ++ be m.ses 4) := by show _ = _; unfold MsgD.bytes; rw [if_neg (by omega), if_neg (by omega), be1]; simp
    have t1 : (m.kind == 1) = false := by rw [beq_eq_false_iff_ne]; omega
    have t2 : (m.kind == 2) = false := by rw [beq_eq_false_iff_ne]; omega
    have hkw : IntKind.u8.wrap m.kind = ((UInt8.ofNat m.kind.toNat).toNat : Int) := by
      rw [UInt8.toNat_ofNat', IntKind.wrap_u8]
      omega
    have hs := HWF.out.ses
    clear hk h2 h3 h4 h5 hlen
    generalize UInt8.ofNat m.kind.toNat = kb at *
    go_enter Tryd.func21, Tryd.ntmps21
    go_upto_region 1 with fail
    generalize w.alloc (.cells (msgA m p c) 28) = w1 at *
    obtain ⟨a0, a1, a2, a3, a4, a5⟩ := msg_cells HWF.out.hint HR0.out
    clear a5
    go_upto_region 2 with fail
    have HO : Hid ((w1.alloc (.cells #[.int .u8 (kb.toNat : Int)] 5)).ownsRow w1.heap.size 5 1 (.slice (some ⟨w1.heap.size, 0, none⟩) 1 1) 1 (bytesV [kb])) := own_one w1 _ kb _ (Nat.le_refl _) _ rfl
    have HBX : Hid (Below w1.heap.size w1 (w1.alloc (.cells #[.int .u8 (kb.toNat : Int)] 5))) := Below.allocs _ _
    generalize w1.alloc (.cells #[.int .u8 (kb.toNat : Int)] 5) = x0 at *
    obtain ⟨q0, hq0⟩ : ∃ q0 : Option Addr, q0 = some ⟨w1.heap.size, 0, none⟩ := ⟨_, rfl⟩
    rw [← hq0] at HO
    rw [← hq0]
    clear hq0
    clear a0 a1 a2 a3 a4
    obtain ⟨a0, a1, a2, a3, a4, a5⟩ := msg_cells HWF.out.hint (Below.keepBlock HBX.out HR0.out (by have := HS0.out; omega))
    clear a5
    go_wp2_with fail
    refine (rnum _ m.ses 4 (by omega) (by omega)).mono ?_
    rintro e y9 ⟨px, cx, rfl, hsx, hbx⟩
    have hoy := own_touch HO.out (Turns.of_below (S := fun _ => False) hbx) (fun _ _ h => h)
    have hby := HBX.out.trans (hbx.mono HBX.out.size)
    clear HO HBX hbx
    have HO := Lib.hid hoy
    have HBX := Lib.hid hby
    have HSX : Hid (Bs y9 px 4 cx (be m.ses 4)) := hsx
    clear hoy hby hsx
    clear a0 a1 a2 a3 a4
    obtain ⟨a0, a1, a2, a3, a4, a5⟩ := msg_cells HWF.out.hint (Below.keepBlock HBX.out HR0.out (by have := HS0.out; omega))
    clear a5
    have hlx := HSX.out.le
    have hmx := HSX.out.max
    go_wp2_with (at_builtin; refine wpList_append_nx rfl _ _ 26 rfl (base := w1.heap.size) Tryd.underlying26 info8b rfl (by omega) rfl HO.out rfl HSX.out (bytesV_one _) ⟨by omega, by omega⟩ HBX.out.size ?_)
    intro p9 c9 x9 ho9 hg9 _ _
    have hb9 := HBX.out.grown hg9 HBX.out.size (fun k hk => (HO.out.lt k hk).1)
    rw [← bytesV_append] at ho9
    clear HO HSX HBX hg9 hlx hmx
    have HO := Lib.hid ho9
    have HBX := Lib.hid hb9
    clear ho9 hb9
    clear a0 a1 a2 a3 a4
    obtain ⟨a0, a1, a2, a3, a4, a5⟩ := msg_cells HWF.out.hint (Below.keepBlock HBX.out HR0.out (by have := HS0.out; omega))
    clear a5
    have hofin := own_base (base' := w.heap.size) HO.out (fun k hk => by have := (HO.out.lt k hk).1; have := HS0.out; omega)
    have hbfin : Below w.heap.size w _ := HB0.out.trans (HBX.out.mono (by have := HS0.out; omega))
    have HFIN := Lib.hid hofin
    have HBF := Lib.hid hbfin
    clear hofin hbfin
    go_wp2_with fail
    go_ret
    refine ⟨_, _, _, rfl, ?_, ?_, HBF.out⟩
    · rw [HBY.out]; simp [be_length]; try (have hh16 := HWF.out.hint; omega)
    · rw [HBY.out]; have := HFIN.out; simpa [List.append_assoc] using this

set_option maxRecDepth 100000 in
set_option maxHeartbeats 3200000 in
theorem rencode_any (m : MsgD) (p : Option Addr) (c : Nat) (w : World) (hM : MsgAt w m p c) :
    Calls Tryd.prog 8 #[.agg (msgA m p c)] w fun e w' => ∃ p c, e = .returned (.tuple #[.slice p m.enc.1.length c, .int .i64 m.enc.2]) ∧ Bs w' p m.enc.1.length c m.enc.1 ∧ Below w.heap.size w w' := by
  have HM := Lib.hid hM
  have HWF := Lib.hid hM.wf
  have HROW : Hid ((w.alloc (.cells (msgA m p c) 28)).heap[w.heap.size]? = some (.cells (msgA m p c) 28 (0, 0))) := heap_alloc_last _ _
  have HB1 := Lib.hid (Below.allocs w (.cells (msgA m p c) 28))
  have HM1 := Lib.hid (hM.below HB1.out)
  clear hM
  by_cases hr : m.right
  · have HRT : Hid (decide m.right = true) := decide_eq_true hr
    have HRR : Hid m.right := hr
    have he : m.enc = (m.bytes, 0) := by unfold MsgD.enc; rw [if_pos hr]
    have HEE := Lib.hid he
    clear hr he
    go_enter Tryd.func8, Tryd.ntmps8
    go_upto_region 1 with fail
    generalize w.alloc (.cells (msgA m p c) 28) = w1 at *
    go_wp2_with (refine wpList_load_row rfl 28 _ rfl w.heap.size rfl 28 (msgA m p c) (0, 0) _ HROW.out Tryd.underlying28 rfl (sizeM _ (msgA_size HWF.out.hint _ _)) ?_)
    refine (rright_any m p c _ HM1.out).mono ?_
    rintro e w2 ⟨rfl, hb2⟩
    rw [HRT.out]
    have HR2 := Lib.hid (Below.keepOld hb2 HROW.out)
    have HM2 := Lib.hid (HM1.out.below hb2)
    have HB2 := Lib.hid (HB1.out.trans (hb2.mono HB1.out.size))
    clear hb2
    go_wp2_with (refine wpList_load_row rfl 28 _ rfl w.heap.size rfl 28 (msgA m p c) (0, 0) _ HR2.out Tryd.underlying28 rfl (sizeM _ (msgA_size HWF.out.hint _ _)) ?_)
    refine (rbytes_any m p c _ HM2.out HRR.out).mono ?_
    rintro e w3 ⟨p3, n3, c3, rfl, hn3, ho3, hb3⟩
    have HN3 := Lib.hid hn3
    have HO3 := Lib.hid ho3
    have HB3 := Lib.hid (HB2.out.trans (hb3.mono HB2.out.size))
    clear hn3 ho3 hb3
    go_wp2_with fail
    go_ret2
    obtain ⟨p9, c9, e9, hs⟩ := own_sl HO3.out
    cases e9
    refine ⟨p3, c3, by rw [HEE.out, ← HN3.out]; rfl, by rw [HEE.out, ← HN3.out]; exact hs, HB3.out⟩
  · have HRT : Hid (decide m.right = false) := decide_eq_false hr
    have he : m.enc = ([], 1) := by unfold MsgD.enc; rw [if_neg hr]
    have HEE := Lib.hid he
    clear hr he
    go_enter Tryd.func8, Tryd.ntmps8
    go_upto_region 1 with fail
    generalize w.alloc (.cells (msgA m p c) 28) = w1 at *
    go_wp2_with (refine wpList_load_row rfl 28 _ rfl w.heap.size rfl 28 (msgA m p c) (0, 0) _ HROW.out Tryd.underlying28 rfl (sizeM _ (msgA_size HWF.out.hint _ _)) ?_)
    refine (rright_any m p c _ HM1.out).mono ?_
    rintro e w2 ⟨rfl, hb2⟩
    rw [HRT.out]
    have HB2 := Lib.hid (HB1.out.trans (hb2.mono HB1.out.size))
    clear hb2
    go_wp2_with fail
    go_ret2
    exact ⟨none, 0, by rw [HEE.out]; rfl, by rw [HEE.out]; exact Sl.nil _ _, HB2.out⟩
end Go.Proofs.YtmjdpfmofbbknaaDoor.Msg
