/- MESSAGES: Encode. Conditions: none. -/
import Derived.Test.YtmjdpfmofbbknaaDoorMsg3
namespace Go.Proofs.YtmjdpfmofbbknaaDoor.Msg
open Go.RowKit Go.Mir Go.Mir.Parts Wr Cod

def EncP (m : MsgD) (w : World) (e : Ending) (w' : World) : Prop :=
  ∃ p c, e = .returned (.tuple #[.slice p m.enc.1.length c, .int .i64 m.enc.2]) ∧ w'.ownsRow w.heap.size 5 1 (.slice p m.enc.1.length c) m.enc.1.length (bytesV m.enc.1) ∧ Below w.heap.size w w'
/-- the cells of a message that lay in a block ahead of what came -/
theorem msg_at {w x : World} {g : Nat} {m : MsgD} {p : Option Addr} {c : Nat} {t : TypeId} (hh : m.hint.length = 16) (hr : w.heap[g]? = some (.cells (msgA m p c) t (0, 0))) (hb : Below w.heap.size w x) :
    x.cell? ⟨g, 0, none⟩ = some (.int .i64 m.kind) ∧ x.cell? ⟨g, 1, none⟩ = some (.int .u32 (m.ses : Int)) ∧ x.cell? ⟨g, 2, none⟩ = some (.int .u32 (m.seq : Int)) ∧ x.cell? ⟨g, 3, none⟩ = some (.int .u32 (m.quo : Int)) ∧
      x.cell? ⟨g, 20, none⟩ = some (.slice p m.blob.length c) ∧ x.rangeAt g 4 (idA m.hint).toList := msg_cells hh (Below.keepOld hb hr)
set_option maxRecDepth 100000 in
set_option maxHeartbeats 3200000 in
theorem encode_any (m : MsgD) (p : Option Addr) (c : Nat) (w : World) (hM : MsgAt w m p c) :
    Calls Tryd.prog 7 #[.agg (msgA m p c)] w (EncP m w) := by
  have HM := Lib.hid hM
  have HWF := Lib.hid hM.wf
  have hble := hM.blob.le
  have hbmax := hM.blob.max
  clear hM
  by_cases hr : m.right
  · have HRT : Hid (decide m.right = true) := decide_eq_true hr
    have HF : Hid (∀ p9 c9 w', w'.ownsRow w.heap.size 5 1 (.slice p9 m.bytes.length c9) m.bytes.length (bytesV m.bytes) → Below w.heap.size w w' → EncP m w (.returned (.tuple #[.slice p9 m.bytes.length c9, .int .i64 0])) w') := fun p9 c9 w' ho hb => by
      have he : m.enc = (m.bytes, 0) := by unfold MsgD.enc; rw [if_pos hr]
      refine ⟨p9, c9, by rw [he], by rw [he]; exact ho, hb⟩
    have hlen := bytes_len m HWF.out hr
    rcases hr with ⟨hk, _, _, _, hbl, hq⟩ | ⟨hk, hq, hbl⟩ | ⟨hk, h2, h3, h4, h5⟩
    · have hby : m.bytes = [] ++ be m.kind.toNat 1 ++ be m.quo 2 := by unfold MsgD.bytes; rw [if_pos hk]; rfl
      have HBY := Lib.hid hby
      have HLEN : Hid (m.bytes.length ≤ 2000) := by show _ ≤ _; rw [hlen, if_pos hk]; omega
      have t1 : (m.kind == 1) = true := by rw [beq_iff_eq]; exact hk
      have hkn : m.kind.toNat = 1 := by omega
      have hkw : IntKind.u64.wrap m.kind = (m.kind.toNat : Int) := by rw [IntKind.wrap_u64]; omega
      clear hk hlen hby
      generalize m.kind.toNat = kn at *
      have HKN : Hid (kn ≤ 4) := by show _ ≤ _; omega
      clear hkn
      go_enter Tryd.func7, Tryd.ntmps7
      go_upto_region 1 with fail
      generalize hw1 : w.alloc (.cells (msgA m p c) 28) = w1 at *
      have HROW : Hid (w1.heap[w.heap.size]? = some (.cells (msgA m p c) 28 (0, 0))) := by rw [← hw1]; exact heap_alloc_last _ _
      have HB1 : Hid (Below w.heap.size w w1) := by rw [← hw1]; exact Below.allocs _ _
      have HM1 := Lib.hid (HM.out.below HB1.out)
      clear hw1
      go_wp2_with (refine wpList_load_row rfl 28 _ rfl w.heap.size rfl 28 (msgA m p c) (0, 0) _ HROW.out Tryd.underlying28 rfl (sizeM _ (msgA_size HWF.out.hint _ _)) ?_)
      refine (right_any m p c _ HM1.out).mono ?_
      rintro e w2 ⟨rfl, hb2⟩
      rw [HRT.out]
      have HB2 := Lib.hid hb2
      clear hb2
      go_wp2_with fail
      refine (ws_new w1 _ HB2.out 2000 (by omega)).mono ?_
      rintro e w3 ⟨rfl, hws, _⟩
      have HWS := Lib.hid hws
      obtain ⟨a0, a1, a2, a3, a4, a5⟩ := msg_at HWF.out.hint HROW.out hws.low
      have HRG := Lib.hid a5
      clear hws a5
      go_wp2_with fail
      refine (ws_num HWS.out (by omega) kn 1 (by omega) (by omega) (by have := HKN.out; omega) (by have := HKN.out; omega)).mono ?_
      rintro e w4 ⟨rfl, hws⟩
      clear HWS HRG a0 a1 a2 a3 a4
      have HWS := Lib.hid hws
      obtain ⟨a0, a1, a2, a3, a4, a5⟩ := msg_at HWF.out.hint HROW.out hws.low
      have HRG := Lib.hid a5
      clear hws a5
      go_wp2_with fail
      refine (ws_num HWS.out (by omega) m.quo 2 (by omega) (by omega) (by omega) (by omega)).mono ?_
      rintro e w5 ⟨rfl, hws⟩
      clear HWS HRG a0 a1 a2 a3 a4
      have HWS := Lib.hid hws
      clear hws
      have hwb := HWS.out
      rw [← HBY.out] at hwb
      go_wp2_with fail
      refine (ws_done hwb (by omega) HLEN.out).mono ?_
      rintro e x9 ⟨⟨p9, c9, rfl, ho9⟩, hws9, hb9⟩
      have HFIN := Lib.hid (HF.out _ _ _ (own_base ho9 (fun k hk => by have := (ho9.lt k hk).1; have := HWS.out.low.size; have := HB1.out.size; omega)) (HB1.out.trans (hws9.low.mono HB1.out.size)))
      clear ho9 hws9 hb9
      go_wp2_with fail
      go_ret2
      exact HFIN.out
    · have hby : m.bytes = [] ++ be m.kind.toNat 1 ++ be m.ses 4 ++ be m.seq 4 ++ m.hint ++ be m.blob.length 2 ++ m.blob := by unfold MsgD.bytes; rw [if_neg (by omega), if_pos hk]; simp
      have HBY := Lib.hid hby
      have HLEN : Hid (m.bytes.length ≤ 2000) := by show _ ≤ _; rw [hlen, if_neg (by omega), if_pos hk]; omega
      have t1 : (m.kind == 1) = false := by rw [beq_eq_false_iff_ne]; omega
      have t2 : (m.kind == 2) = true := by rw [beq_iff_eq]; exact hk
      have hkn : m.kind.toNat = 2 := by omega
      have hkw : IntKind.u64.wrap m.kind = (m.kind.toNat : Int) := by rw [IntKind.wrap_u64]; omega
      have hbw : IntKind.u64.wrap (m.blob.length : Int) = (m.blob.length : Int) := by rw [IntKind.wrap_u64]; omega
      have hs := HWF.out.ses
      have hs2 := HWF.out.seq
      clear hk hlen hby hq
      generalize m.kind.toNat = kn at *
      have HKN : Hid (kn ≤ 4) := by show _ ≤ _; omega
      clear hkn
      go_enter Tryd.func7, Tryd.ntmps7
      go_upto_region 1 with fail
      generalize hw1 : w.alloc (.cells (msgA m p c) 28) = w1 at *
      have HROW : Hid (w1.heap[w.heap.size]? = some (.cells (msgA m p c) 28 (0, 0))) := by rw [← hw1]; exact heap_alloc_last _ _
      have HB1 : Hid (Below w.heap.size w w1) := by rw [← hw1]; exact Below.allocs _ _
      have HM1 := Lib.hid (HM.out.below HB1.out)
      clear hw1
      go_wp2_with (refine wpList_load_row rfl 28 _ rfl w.heap.size rfl 28 (msgA m p c) (0, 0) _ HROW.out Tryd.underlying28 rfl (sizeM _ (msgA_size HWF.out.hint _ _)) ?_)
      refine (right_any m p c _ HM1.out).mono ?_
      rintro e w2 ⟨rfl, hb2⟩
      rw [HRT.out]
      have HB2 := Lib.hid hb2
      clear hb2
      go_wp2_with fail
      refine (ws_new w1 _ HB2.out 2000 (by omega)).mono ?_
      rintro e w3 ⟨rfl, hws, _⟩
      have HWS := Lib.hid hws
      obtain ⟨a0, a1, a2, a3, a4, a5⟩ := msg_at HWF.out.hint HROW.out hws.low
      have HRG := Lib.hid a5
      clear hws a5
      go_wp2_with fail
      refine (ws_num HWS.out (by omega) kn 1 (by omega) (by omega) (by have := HKN.out; omega) (by have := HKN.out; omega)).mono ?_
      rintro e w4 ⟨rfl, hws⟩
      clear HWS HRG a0 a1 a2 a3 a4
      have HWS := Lib.hid hws
      obtain ⟨a0, a1, a2, a3, a4, a5⟩ := msg_at HWF.out.hint HROW.out hws.low
      have HRG := Lib.hid a5
      clear hws a5
      go_wp2_with fail
      refine (ws_num HWS.out (by omega) m.ses 4 (by omega) (by omega) (by omega) (by omega)).mono ?_
      rintro e w5 ⟨rfl, hws⟩
      clear HWS HRG a0 a1 a2 a3 a4
      have HWS := Lib.hid hws
      obtain ⟨a0, a1, a2, a3, a4, a5⟩ := msg_at HWF.out.hint HROW.out hws.low
      have HRG := Lib.hid a5
      clear hws a5
      go_wp2_with fail
      refine (ws_num HWS.out (by omega) m.seq 4 (by omega) (by omega) (by omega) (by omega)).mono ?_
      rintro e w6 ⟨rfl, hws⟩
      clear HWS HRG a0 a1 a2 a3 a4
      have HWS := Lib.hid hws
      obtain ⟨a0, a1, a2, a3, a4, a5⟩ := msg_at HWF.out.hint HROW.out hws.low
      have HRG := Lib.hid a5
      clear hws a5
      go_wp2_with (refine wpList_load_mid rfl 25 _ rfl w.heap.size 4 rfl (idA m.hint).toList _ HRG.out Tryd.underlying25 rfl (by rw [Array.length_toList]; exact sizeH _ HWF.out.hint) ?_)
      refine (ws_hint HWS.out (by omega) m.hint HWF.out.hint).mono ?_
      rintro e w7 ⟨rfl, hws⟩
      clear HWS HRG a0 a1 a2 a3 a4
      have HWS := Lib.hid hws
      obtain ⟨a0, a1, a2, a3, a4, a5⟩ := msg_at HWF.out.hint HROW.out hws.low
      have HRG := Lib.hid a5
      clear hws a5
      go_wp2_with fail
      refine (ws_num HWS.out (by omega) m.blob.length 2 (by omega) (by omega) (by omega) (by omega)).mono ?_
      rintro e w8 ⟨rfl, hws⟩
      clear HWS HRG a0 a1 a2 a3 a4
      have HWS := Lib.hid hws
      obtain ⟨a0, a1, a2, a3, a4, a5⟩ := msg_at HWF.out.hint HROW.out hws.low
      have HRG := Lib.hid a5
      clear hws a5
      go_wp2_with fail
      refine (ws_bytes HWS.out (by omega) _ _ _ m.blob HM1.out.blob (by omega)).mono ?_
      rintro e w9 ⟨rfl, hws⟩
      clear HWS HRG a0 a1 a2 a3 a4
      have HWS := Lib.hid hws
      clear hws
      have hwb := HWS.out
      rw [← HBY.out] at hwb
      go_wp2_with fail
      refine (ws_done hwb (by omega) HLEN.out).mono ?_
      rintro e x9 ⟨⟨p9, c9, rfl, ho9⟩, hws9, hb9⟩
      have HFIN := Lib.hid (HF.out _ _ _ (own_base ho9 (fun k hk => by have := (ho9.lt k hk).1; have := HWS.out.low.size; have := HB1.out.size; omega)) (HB1.out.trans (hws9.low.mono HB1.out.size)))
      clear ho9 hws9 hb9
      go_wp2_with fail
      go_ret2
      exact HFIN.out
    · have hby : m.bytes = [] ++ be m.kind.toNat 1 ++ be m.ses 4 := by unfold MsgD.bytes; rw [if_neg (by omega), if_neg (by omega)]; simp
      have HBY := Lib.hid hby
      have HLEN : Hid (m.bytes.length ≤ 2000) := by show _ ≤ _; rw [hlen, if_neg (by omega), if_neg (by omega)]; omega
      have t1 : (m.kind == 1) = false := by rw [beq_eq_false_iff_ne]; omega
      have t2 : (m.kind == 2) = false := by rw [beq_eq_false_iff_ne]; omega
      have hkn : m.kind.toNat ≤ 4 := by omega
      have hkw : IntKind.u64.wrap m.kind = (m.kind.toNat : Int) := by rw [IntKind.wrap_u64]; omega
      have hs := HWF.out.ses
      clear hk hlen hby h2 h3 h4 h5
      generalize m.kind.toNat = kn at *
      have HKN : Hid (kn ≤ 4) := hkn
      clear hkn
      go_enter Tryd.func7, Tryd.ntmps7
      go_upto_region 1 with fail
      generalize hw1 : w.alloc (.cells (msgA m p c) 28) = w1 at *
      have HROW : Hid (w1.heap[w.heap.size]? = some (.cells (msgA m p c) 28 (0, 0))) := by rw [← hw1]; exact heap_alloc_last _ _
      have HB1 : Hid (Below w.heap.size w w1) := by rw [← hw1]; exact Below.allocs _ _
      have HM1 := Lib.hid (HM.out.below HB1.out)
      clear hw1
      go_wp2_with (refine wpList_load_row rfl 28 _ rfl w.heap.size rfl 28 (msgA m p c) (0, 0) _ HROW.out Tryd.underlying28 rfl (sizeM _ (msgA_size HWF.out.hint _ _)) ?_)
      refine (right_any m p c _ HM1.out).mono ?_
      rintro e w2 ⟨rfl, hb2⟩
      rw [HRT.out]
      have HB2 := Lib.hid hb2
      clear hb2
      go_wp2_with fail
      refine (ws_new w1 _ HB2.out 2000 (by omega)).mono ?_
      rintro e w3 ⟨rfl, hws, _⟩
      have HWS := Lib.hid hws
      obtain ⟨a0, a1, a2, a3, a4, a5⟩ := msg_at HWF.out.hint HROW.out hws.low
      have HRG := Lib.hid a5
      clear hws a5
      go_wp2_with fail
      refine (ws_num HWS.out (by omega) kn 1 (by omega) (by omega) (by have := HKN.out; omega) (by have := HKN.out; omega)).mono ?_
      rintro e w4 ⟨rfl, hws⟩
      clear HWS HRG a0 a1 a2 a3 a4
      have HWS := Lib.hid hws
      obtain ⟨a0, a1, a2, a3, a4, a5⟩ := msg_at HWF.out.hint HROW.out hws.low
      have HRG := Lib.hid a5
      clear hws a5
      go_wp2_with fail
      refine (ws_num HWS.out (by omega) m.ses 4 (by omega) (by omega) (by omega) (by omega)).mono ?_
      rintro e w5 ⟨rfl, hws⟩
      clear HWS HRG a0 a1 a2 a3 a4
      have HWS := Lib.hid hws
      obtain ⟨a0, a1, a2, a3, a4, a5⟩ := msg_at HWF.out.hint HROW.out hws.low
      have HRG := Lib.hid a5
      clear hws a5
      have hwb := HWS.out
      rw [← HBY.out] at hwb
      go_wp2_with fail
      refine (ws_done hwb (by omega) HLEN.out).mono ?_
      rintro e x9 ⟨⟨p9, c9, rfl, ho9⟩, hws9, hb9⟩
      have HFIN := Lib.hid (HF.out _ _ _ (own_base ho9 (fun k hk => by have := (ho9.lt k hk).1; have := HWS.out.low.size; have := HB1.out.size; omega)) (HB1.out.trans (hws9.low.mono HB1.out.size)))
      clear ho9 hws9 hb9
      go_wp2_with fail
      go_ret2
      exact HFIN.out
  · have HRT : Hid (decide m.right = false) := decide_eq_false hr
    have he : m.enc = ([], 1) := by unfold MsgD.enc; rw [if_neg hr]
    have HF : Hid (∀ w', Below w.heap.size w w' → EncP m w (.returned (.tuple #[.slice none 0 0, .int .i64 1])) w') := fun w' hb => ⟨none, 0, by rw [he]; rfl, by rw [he]; exact ⟨rfl, .inl ⟨rfl, rfl⟩⟩, hb⟩
    clear hr he
    go_enter Tryd.func7, Tryd.ntmps7
    go_upto_region 1 with fail
    generalize hw1 : w.alloc (.cells (msgA m p c) 28) = w1 at *
    have HROW : Hid (w1.heap[w.heap.size]? = some (.cells (msgA m p c) 28 (0, 0))) := by rw [← hw1]; exact heap_alloc_last _ _
    have HB1 : Hid (Below w.heap.size w w1) := by rw [← hw1]; exact Below.allocs _ _
    have HM1 := Lib.hid (HM.out.below HB1.out)
    clear hw1
    go_wp2_with (refine wpList_load_row rfl 28 _ rfl w.heap.size rfl 28 (msgA m p c) (0, 0) _ HROW.out Tryd.underlying28 rfl (sizeM _ (msgA_size HWF.out.hint _ _)) ?_)
    refine (right_any m p c _ HM1.out).mono ?_
    rintro e w2 ⟨rfl, hb2⟩
    rw [HRT.out]
    have HFIN := Lib.hid (HF.out _ (HB1.out.trans (hb2.mono HB1.out.size)))
    clear hb2
    go_wp2_with fail
    go_ret2
    exact HFIN.out
end Go.Proofs.YtmjdpfmofbbknaaDoor.Msg
