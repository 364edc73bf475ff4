/- THE WALKS OF THE WRITER: bytes one behind the other, room and a fault; each call as a plain function of what the writer held. Conditions: parts that stay as they are while the writer's own blocks turn. -/
import Derived.Test.YtdaigkcbmdcbcaaDoorLib
import Derived.Test.YtdaigkcbmdcbcaaDoorParts
import Derived.Test.YtdaigkcbmdcbcaaDoorProg
import Derived.BigQuiet
import Derived.Deep.QuietTactic
namespace Go.Proofs.YtdaigkcbmdcbcaaDoor.Wr
open Go.RowKit Go.Mir Go.Mir.Parts

theorem infoB : (Tryd.prog.info? 5).map (fun i => (i.zero, i.size, i.bytes)) = some (some (.int .u8 0), 1, 1) := by kernel_rfl

/-- a writer that a call made: its block, its bytes' slice, room, bytes, fault -/
structure WAt (w : World) (wb : Nat) (v : Value) (room : Nat) (l : List UInt8) (bad : Int) : Prop where
  blk : w.heap[wb]? = some (.cells #[.bool true, .int .i64 (room : Int), v, .int .i64 bad] 78 (0, 0))
  own : w.ownsRow 0 5 1 v l.length (bytesV l)
  sep : v.ownBlock ≠ some wb
  fits : l.length ≤ room
  roomy : room ≤ 9223372036854775807
/-- its blocks -/
def foot (wb : Nat) (v : Value) (k : Nat) : Prop := k = wb ∨ v.ownBlock = some k

theorem WAt.touch {S : Nat → Prop} {w w' : World} {wb : Nat} {v : Value} {room : Nat} {l : List UInt8} {bad : Int} (h : WAt w wb v room l bad) (ht : Turns S w w') (hS : ∀ k, foot wb v k → ¬ S k) : WAt w' wb v room l bad :=
  ⟨ht.keep h.blk (hS _ (.inl rfl)), own_touch h.own ht (fun k hk => hS k (.inr hk)), h.sep, h.fits, h.roomy⟩
theorem WAt.drew {w : World} {wb : Nat} {v : Value} {room : Nat} {l : List UInt8} {bad : Int} (h : WAt w wb v room l bad) : WAt w.drew wb v room l bad := ⟨h.blk, h.own, h.sep, h.fits, h.roomy⟩
theorem WAt.lt {w : World} {wb : Nat} {v : Value} {room : Nat} {l : List UInt8} {bad : Int} (h : WAt w wb v room l bad) : ∀ k, foot wb v k → k < w.heap.size := by
  intro k hk
  rcases hk with rfl | hk
  · exact (Array.getElem?_eq_some_iff.1 h.blk).1
  · exact (h.own.lt k hk).2

/-- the four cells -/
theorem WAt.cells {w : World} {wb : Nat} {v : Value} {room : Nat} {l : List UInt8} {bad : Int} (h : WAt w wb v room l bad) :
    w.cell? ⟨wb, 0, none⟩ = some (.bool true) ∧ w.cell? ⟨wb, 1, none⟩ = some (.int .i64 (room : Int)) ∧ w.cell? ⟨wb, 2, none⟩ = some v ∧ w.cell? ⟨wb, 3, none⟩ = some (.int .i64 bad) ∧ w.frozen? ⟨wb, 2, none⟩ = false ∧ w.frozen? ⟨wb, 3, none⟩ = false := by
  refine ⟨?_, ?_, ?_, ?_, frozen_of_row _ _ _ _ _ h.blk, frozen_of_row _ _ _ _ _ h.blk⟩ <;> (rw [cell_of_row _ _ _ _ _ _ h.blk]; rfl)

/-! ### is there none? -/
theorem none_made (wb : Nat) (w : World) (hc : w.cell? ⟨wb, 0, none⟩ = some (.bool true)) :
    Calls Tryd.prog 59 #[.pointer (some ⟨wb, 0, none⟩)] w fun e w' => e = .returned (.bool false) ∧ w = w' := by
  go_enter Tryd.func59, Tryd.ntmps59
  go_wp2
  go_ret
  exact ⟨rfl, rfl⟩
theorem none_zero (wb : Nat) (w : World) (hc : w.cell? ⟨wb, 0, none⟩ = some (.bool false)) :
    Calls Tryd.prog 59 #[.pointer (some ⟨wb, 0, none⟩)] w fun e w' => e = .returned (.bool true) ∧ w = w' := by
  go_enter Tryd.func59, Tryd.ntmps59
  go_wp2
  go_ret
  exact ⟨rfl, rfl⟩
theorem none_nil (w : World) :
    Calls Tryd.prog 59 #[.pointer none] w fun e w' => e = .returned (.bool true) ∧ w = w' := by
  go_enter Tryd.func59, Tryd.ntmps59
  go_wp2
  go_ret
  exact ⟨rfl, rfl⟩

/-! ### Fail -/
theorem fail_any (wb : Nat) (v : Value) (room : Nat) (l : List UInt8) (bad e0 : Int) (w : World) (h : WAt w wb v room l bad) :
    Calls Tryd.prog 44 #[.pointer (some ⟨wb, 0, none⟩), .int .i64 e0] w fun e w' => e = .returned (.tuple #[]) ∧ WAt w' wb v room l (if bad = 0 then e0 else bad) ∧ Turns (foot wb v) w w' := by
  obtain ⟨c0, c1, c2, c3, f2, f3⟩ := h.cells
  have HW := Lib.hid h
  by_cases hb : bad = 0
  · subst hb
    go_enter Tryd.func44, Tryd.ntmps44
    go_wp2_with (go_at_call 59; refine (none_made _ _ c0).mono ?_; rintro e w' ⟨rfl, rfl⟩)
    go_end0
    refine ⟨rfl, ?_, (Turns.refl _ _).setCell (fun _ => .inl rfl) _⟩
    try rw [if_pos rfl]
    exact ⟨by rw [heap_setCell_same _ _ _ _ _ _ HW.out.blk]; rfl, own_touch HW.out.own ((Turns.refl (fun k => k = wb) _).setCell (fun _ => rfl) _) (fun k hk e => HW.out.sep (by rw [hk, e])), HW.out.sep, HW.out.fits, HW.out.roomy⟩
  · have hb' : (bad == 0) = false := by simp [hb]
    go_enter Tryd.func44, Tryd.ntmps44
    go_wp2_with (go_at_call 59; refine (none_made _ _ c0).mono ?_; rintro e w' ⟨rfl, rfl⟩)
    go_end0
    try rw [if_neg hb]
    exact ⟨rfl, HW.out, Turns.refl _ _⟩

/-! ### put -/
/-- what is held behind 'put': bytes, fault -/
def putS (room : Nat) (l : List UInt8) (bad : Int) (fits : Bool) (ps : List (List UInt8)) : List UInt8 × Int :=
  if bad = 0 then (if fits then (if total ps ≤ room - l.length then (l ++ ps.flatten, 0) else (l, 3)) else (l, 1)) else (l, bad)

/-- what a call leaves of a writer -/
def Left (wb : Nat) (v : Value) (room : Nat) (r : List UInt8 × Int) (w w' : World) : Prop :=
  ∃ v', WAt w' wb v' room r.1 r.2 ∧ Turns (foot wb v) w w' ∧ NextV w v v'

set_option maxRecDepth 100000 in
set_option maxHeartbeats 400000 in
theorem put_sum (p : Option Addr) (n c : Nat) (ls : List (List UInt8)) (wb : Nat) (v : Value) (room : Nat) (l : List UInt8) (fits : Bool) (w : World) (h : WAt w wb v room l 0)
    (hP : ∀ w', Turns (foot wb v) w w' → Pts w' p n c ls) (hs : total ls ≤ 70368744177664) (hl : l.length ≤ 70368744177664) :
    Calls Tryd.prog 52 #[.pointer (some ⟨wb, 0, none⟩), .bool fits, .slice p n c] w fun e w' => e = .returned (.tuple #[]) ∧ Left wb v room (putS room l 0 fits ls) w w' := by
  obtain ⟨pv, cv, hv, hsv⟩ := own_sl h.own
  subst hv
  have hvle := hsv.le
  have hvmax := hsv.max
  clear hsv
  obtain ⟨c0, c1, c2, c3, f2, f3⟩ := h.cells
  have hroom := h.roomy
  have hfit := h.fits
  have HW := Lib.hid h
  have hp := hP w (Turns.refl _ _)
  have hle := hp.le
  have hmax := hp.max
  have hn := hp.len
  have HP := Lib.hid hp
  have HPP := Lib.hid hP
  clear h hp hP
  go_enter Tryd.func52, Tryd.ntmps52
  go_wp2_with (go_at_call 59; refine (none_made _ _ c0).mono ?_; rintro e w' ⟨rfl, rfl⟩)
  go_loop [6, 23] (fun x j => ∃ k : Nat, k ≤ n ∧ j = .int .i64 k ∧ x = .int .i64 ((total (ls.take k) : Nat) : Int)) (fun _ j => n - (intOf j).toNat)
  case atStart => exact ⟨0, by omega, rfl, rfl⟩
  case round =>
    obtain ⟨k, hk, rfl, rfl⟩ := hrel
    have htl := total_le ls k
    by_cases hlt : k < n
    · obtain ⟨b, o, rfl⟩ := HP.out.addr (by omega)
      obtain ⟨q, m, d, hc, hB⟩ := HP.out.cell _ rfl k (by omega)
      rw [add_none] at hc
      have htk := total_take ls k (by omega)
      have htl' := total_le ls (k + 1)
      rw [hB.length] at htk
      have HTK := Lib.hid htk
      have hsum : total (ls.take k) + m ≤ 4611686018427387904 := by omega
      clear htk htl' hB
      generalize hT : total (ls.take k) = T at *
      have HT := Lib.hid hT
      clear hT
      go_wp2
      go_round
      case rel => exact ⟨k + 1, by omega, by go_num, by rw [HTK.out]; go_num⟩
      case measure => simp [intOf]; omega
    · have hk' : k = ls.length := by omega
      rw [hk', List.take_length]
      generalize hT : total ls = T at *
      have HT := Lib.hid hT
      clear hT htl
      cases fits with
      | false =>
        go_wp2_with fail
        refine (fail_any wb _ room l 0 1 _ HW.out).mono ?_
        rintro e w1 ⟨rfl, hw1, ht1⟩
        have HW1 := Lib.hid hw1
        have HT1 := Lib.hid ht1
        clear hw1 ht1
        go_wp2_with fail
        refine bodyPost_ret (results_none rfl _ _ _) rfl ?_
        exact ⟨rfl, _, HW1.out, HT1.out, fun _ hk _ => hk⟩
      | true =>
        by_cases hT2 : T ≤ room - l.length
        · have hcmp : decide ((room : Int) - (l.length : Int) < (T : Int)) = false := by simp; omega
          have hput : Hid (putS room l 0 true ls = (l ++ ls.flatten, 0)) := by show _ = _; simp [putS, HT.out, hT2]
          have htot : l.length + T ≤ 140737488355328 ∧ l.length + T ≤ room := by omega
          go_wp2_with fail
          go_quiet (fail)
          go_wp2_with fail
          have HW2 : Hid (WAt (w.drewN nq) wb (.slice pv l.length cv) room l 0) := ⟨HW.out.blk, HW.out.own, HW.out.sep, HW.out.fits, HW.out.roomy⟩
          have HT2 : Hid (Turns (foot wb (.slice pv l.length cv)) w (w.drewN nq)) := ⟨rfl, rfl, rfl, Nat.le_refl _, fun _ _ _ => rfl⟩
          clear c0 c1 c2 c3 f2 f3
          generalize w.drewN nq = w2 at *
          go_loopw [53] (fun j wr => ∃ (k : Nat) (p1 : Option Addr) (n1 c1 : Nat), k ≤ n ∧ j = .int .i64 k ∧ WAt wr wb (.slice p1 n1 c1) room (l ++ (ls.take k).flatten) 0 ∧ Turns (foot wb (.slice pv l.length cv)) w wr ∧ NextV w (.slice pv l.length cv) (.slice p1 n1 c1)) (fun j _ => n - (intOf j).toNat)
          case atStart => exact ⟨0, pv, l.length, cv, by omega, rfl, by simpa using HW2.out, HT2.out, fun _ hk _ => hk⟩
          case round =>
            obtain ⟨k, p1, n1, c1, hk, rfl, hw1, ht1, hnx1⟩ := hrel
            by_cases hlt : k < n
            · obtain ⟨e0, e1, e2, e3, g2, g3⟩ := hw1.cells
              obtain ⟨b, o, rfl⟩ := HP.out.addr (by omega)
              obtain ⟨q, m, d, hc, hB⟩ := (HPP.out wr ht1).cell _ rfl k (by omega)
              rw [add_none] at hc
              have hlen : (l ++ (ls.take k).flatten).length = l.length + total (ls.take k) := by rw [List.length_append, total_flatten]
              have htk := total_take ls k (by omega)
              have htl' := total_le ls (k + 1)
              rw [hB.length] at htk
              rw [HT.out] at htl'
              have hfl : Hid (l ++ (ls.take (k+1)).flatten = (l ++ (ls.take k).flatten) ++ ls[k]) := by
                show _ = _
                rw [take_snoc ls k (by omega), List.flatten_append]; simp
              have hbd : Hid ((l ++ (ls.take k).flatten).length + m ≤ 9223372036854775807 ∧ ((l ++ (ls.take k).flatten).length + m) * 1 ≤ 140737488355328) := by
                show _ ∧ _
                rw [hlen]; omega
              have hfit' : Hid ((l ++ (ls.take (k+1)).flatten).length ≤ room) := by
                show _ ≤ _
                rw [List.length_append, total_flatten]; omega
              have HBm := Lib.hid hB.length
              have HS := Lib.hid hB
              have hleq : (l ++ (ls.take k).flatten).length + m = (l ++ (ls.take (k+1)).flatten).length := by rw [hfl.out, ← hB.length]; exact List.length_append.symm
              clear hlen htk htl' hB
              generalize l ++ (ls.take k).flatten = L at *
              generalize hL' : l ++ (ls.take (k+1)).flatten = L' at *
              have HL' := Lib.hid hL'
              have HLQ := Lib.hid hleq
              have HW1 := Lib.hid hw1
              have HT1 := Lib.hid ht1
              have HN1 := Lib.hid hnx1
              clear hw1 ht1 hnx1 hL' hleq
              go_wp2_with (at_builtin; refine wpList_append_nx rfl _ _ 29 rfl (base := 0) Tryd.underlying29 infoB rfl (by omega) rfl HW1.out.own rfl HS.out (bytesV_one _) hbd.out (Nat.zero_le _) ?_)
              intro p' c' w3 hown hg hnx hne
              have e2' : w3.cell? ⟨wb, 2, none⟩ = some (.slice p1 n1 c1) := hg.cell e2 (fun e => HW1.out.sep e.symm)
              have g2' : w3.frozen? ⟨wb, 2, none⟩ = false := by
                rw [World.frozen?_of_block (hg.block wb (Array.getElem?_eq_some_iff.1 HW1.out.blk).1 (fun e => HW1.out.sep e.symm))]; exact g2
              have HO := Lib.hid hown
              have HG := Lib.hid hg
              have HNX := Lib.hid hnx
              clear hown hg hnx hne
              go_wp2_with fail
              go_roundw
              case rel =>
                have hlt1 : wb < wr.heap.size := (Array.getElem?_eq_some_iff.1 HW1.out.blk).1
                have hb3 : w3.heap[wb]? = some (.cells #[.bool true, .int .i64 (room : Int), .slice p1 n1 c1, .int .i64 0] 78 (0, 0)) := by
                  rw [HG.out.block wb hlt1 (fun e => HW1.out.sep e.symm)]; exact HW1.out.blk
                have hsep : ¬ (Value.slice p' (L.length + m) c').ownBlock = some wb := by
                  intro e
                  rcases HNX.out wb e with h | h
                  · exact HW1.out.sep h
                  · omega
                refine ⟨k + 1, p', L.length + m, c', by omega, by go_num, ?_, ?_, ?_⟩
                rw [HL'.out]
                refine ⟨?_, ?_, hsep, hfit'.out, hroom⟩
                · rw [heap_setCell_same _ _ _ _ _ _ hb3]; rfl
                · have := own_touch HO.out ((Turns.refl (fun k => k = wb) _).setCell (p := ⟨wb, 2, none⟩) (fun _ => rfl) (.slice p' (L.length + m) c')) (fun k hk e => hsep (by rw [hk, e]))
                  rw [hfl.out, bytesV_append, ← hfl.out, ← HLQ.out]
                  exact this
                · refine HT1.out.trans ((Turns.grown (S := foot wb (.slice p1 n1 c1)) HG.out (fun k hk => .inr hk)).setCell (fun _ => .inl rfl) _) ?_
                  intro i hi hfi
                  rcases hfi with rfl | hfi
                  · exact .inl rfl
                  · exact .inr (HN1.out i hfi hi)
                · intro j hj hjl
                  rcases HNX.out j hj with h | h
                  · exact HN1.out j h hjl
                  · have := HT1.out.size; omega
              case measure => simp [intOf]; omega
            · have hk' : k = ls.length := by omega
              rw [hk', List.take_length] at hw1
              have HW1 := Lib.hid hw1
              have HT1 := Lib.hid ht1
              have HN1 := Lib.hid hnx1
              clear hw1 ht1 hnx1
              go_wp2_with fail
              go_end0
              exact ⟨rfl, _, by rw [hput.out]; exact HW1.out, HT1.out, HN1.out⟩
        · have hcmp : decide ((room : Int) - (l.length : Int) < (T : Int)) = true := by simp; omega
          have hput : Hid (putS room l 0 true ls = (l, 3)) := by show _ = _; simp [putS, HT.out, hT2]
          go_wp2_with fail
          go_quiet (fail)
          go_wp2_with fail
          have HW2 : Hid (WAt (w.drewN nq) wb (.slice pv l.length cv) room l 0) := ⟨HW.out.blk, HW.out.own, HW.out.sep, HW.out.fits, HW.out.roomy⟩
          have HT2 : Hid (Turns (foot wb (.slice pv l.length cv)) w (w.drewN nq)) := ⟨rfl, rfl, rfl, Nat.le_refl _, fun _ _ _ => rfl⟩
          refine (fail_any wb _ room l 0 3 _ HW2.out).mono ?_
          rintro e w1 ⟨rfl, hw1, ht1⟩
          have HW1 := Lib.hid hw1
          have HT1 : Hid (Turns (foot wb (.slice pv l.length cv)) w w1) := HT2.out.trans ht1 (fun _ _ h => h)
          clear hw1 ht1
          go_wp2_with fail
          refine bodyPost_ret (results_none rfl _ _ _) rfl ?_
          exact ⟨rfl, _, by rw [hput.out]; exact HW1.out, HT1.out, fun _ hk _ => hk⟩

end Go.Proofs.YtdaigkcbmdcbcaaDoor.Wr
