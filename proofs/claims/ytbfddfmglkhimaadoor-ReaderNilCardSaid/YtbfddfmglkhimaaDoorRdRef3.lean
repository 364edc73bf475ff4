/- THE WALKS OF THE REFERENCE's READER (a plain value): Ids, Same. Conditions: sizes that fit. -/
import Derived.Test.YtbfddfmglkhimaaDoorRdRef2
namespace Go.Proofs.YtbfddfmglkhimaaDoor.RR
open Go.RowKit Go.Mir Go.Mir.Parts Rdr

def IdsR (p : Option Addr) (n c : Nat) (s : RD) (k : Int) (w : World) (e : Ending) (w' : World) : Prop :=
  ∃ q kk d, (s.takeB (32 * k) true).length = 32 * kk ∧ e = .returned (.tuple #[rs p n c (s.takeS (32 * k) true), .slice q kk d]) ∧ w'.ownsRow w.heap.size 55 32 (.slice q kk d) kk (bytesV (s.takeB (32 * k) true)) ∧ Below w.heap.size w w'
/-- an id that is filled -/
def fillA (Y : List UInt8) (j : Nat) : Array Value := idA (Y.take j ++ List.replicate (32 - j) 0)
theorem fillA_size {Y : List UInt8} {j : Nat} (hY : Y.length = 32) (hj : j ≤ 32) : (fillA Y j).size = 32 := by
  unfold fillA
  rw [idA_size, List.length_append, List.length_take, List.length_replicate]
  omega
theorem fillA_zero (Y : List UInt8) : fillA Y 0 = zid := by unfold fillA zid; simp
theorem fillA_full {Y : List UInt8} (hY : Y.length = 32) : fillA Y 32 = idA Y := by
  unfold fillA
  rw [List.take_of_length_le (by omega)]
  simp
theorem fillA_set {Y : List UInt8} {j : Nat} (hj : j < Y.length) (hY : Y.length = 32) : (fillA Y j).setIfInBounds j (.int .u8 ((Y[j]'hj).toNat : Int)) = fillA Y (j + 1) := by
  unfold fillA idA
  rw [List.setIfInBounds_toArray]
  congr 1
  rw [show (Value.int .u8 ((Y[j]'hj).toNat : Int)) = (fun b : UInt8 => Value.int .u8 (b.toNat : Int)) (Y[j]'hj) from rfl]
  unfold bytesV
  rw [← List.map_set]
  congr 1
  rw [show 32 - j = (32 - (j + 1)) + 1 by omega, List.replicate_succ, List.take_succ_eq_append_getElem hj, List.append_assoc]
  rw [List.set_append_right _ _ (by rw [List.length_take]; omega), List.length_take, Nat.min_eq_left (by omega), Nat.sub_self]
  rfl
set_option maxRecDepth 100000 in
set_option maxHeartbeats 3200000 in
theorem ids_any (p : Option Addr) (n c : Nat) (s : RD) (k : Int) (hk : -9223372036854775808 ≤ k ∧ k ≤ 9223372036854775807) (w : World) (hs : RD.ok s) (hB : Bs w p n c s.l) :
    Calls Tryd.prog 38 #[rs p n c s, .int .i64 k] w (IdsR p n c s k w) := by
  obtain ⟨l, pos, bad⟩ := s
  have HB := Lib.hid hB
  have HS := Lib.hid hs
  have hle := hB.le
  have hmax := hB.max
  have HN : Hid (l.length = n) := hB.length
  have hp : pos ≤ n := by have := hs.2.1; rw [← HN.out]; exact this
  have hn47 : n ≤ 140737488355328 := by have := hs.2.2; rw [← HN.out]; exact this
  clear hB hs
  cases bad with
  | some b =>
    have hb : b ≠ 0 := fun h' => HS.out.1 (by rw [h'])
    have hd : (b == 0) = false := by simp [hb]
    have hd2 : (b != 0) = true := by simp [hb]
    have HF : Hid (∀ w', Below w.heap.size w w' → IdsR p n c ⟨l, pos, some b⟩ k w (.returned (.tuple #[rr p n c (pos : Int) b, .slice none 0 0])) w') := fun w' hb => by
      have h1 : RD.takeS ⟨l, pos, some b⟩ (32 * k) true = ⟨l, pos, some b⟩ := by unfold RD.takeS; rw [if_pos (by simp)]
      have h2 : RD.takeB ⟨l, pos, some b⟩ (32 * k) true = [] := by unfold RD.takeB; rw [if_neg (by simp)]
      exact ⟨none, 0, 0, by rw [h2]; rfl, by rw [h1]; rfl, by rw [h2]; exact ⟨rfl, .inl ⟨rfl, rfl⟩⟩, hb⟩
    show Calls _ _ #[rr p n c (pos : Int) b, .int .i64 k] _ _
    go_enter Tryd.func38, Tryd.ntmps38
    go_wp2_with fail
    refine bodyPost_ret (v := .tuple #[rr p n c (pos : Int) b, .slice none 0 0]) (by simp [results, Tryd.results38, go_sem, rr]) rfl (HF.out _ ?_)
    exact (((Below.allocs _ _).alloc (by simp) _))
  | none =>
    have HF : Hid (∀ (e : Int), e ≠ 0 → RD.takeS ⟨l, pos, none⟩ (32 * k) true = ⟨l, pos, some e⟩ → RD.takeB ⟨l, pos, none⟩ (32 * k) true = [] → ∀ w', Below w.heap.size w w' → IdsR p n c ⟨l, pos, none⟩ k w (.returned (.tuple #[rr p n c (pos : Int) e, .slice none 0 0])) w') := fun e he h1 h2 w' hb =>
      ⟨none, 0, 0, by rw [h2]; rfl, by rw [h1]; rfl, by rw [h2]; exact ⟨rfl, .inl ⟨rfl, rfl⟩⟩, hb⟩
    by_cases hneg : k < 0
    · have hd : decide (k < (0 : Int)) = true := decide_eq_true hneg
      have H := Lib.hid (fail_any p n c (pos : Int) 0 1)
      have HF1 := Lib.hid (HF.out 1 (by decide) (by unfold RD.takeS; rw [if_neg (by simp), if_pos (.inr (by omega))]) (by unfold RD.takeB; rw [if_neg]; rintro ⟨_, _, h, _⟩; omega))
      clear hneg
      show Calls _ _ #[rr p n c (pos : Int) 0, .int .i64 k] _ _
      go_enter Tryd.func38, Tryd.ntmps38
      go_wp2_with fail
      refine (H.out _).mono ?_
      rintro e w' ⟨rfl, hb⟩
      rw [if_pos trivial]
      have hT := two_allocs w (.cells #[.slice p n c, .int .i64 (pos : Int), .int .i64 0] 39) (.cells #[.slice none 0 0, .int .i64 0, .int .i64 0] 39)
      have e1 := Below.keepOld hb hT.2.1
      have E2 := fun X => Lib.hid (set3 rfl e1 (.slice p n c) (.int .i64 (pos : Int)) (.int .i64 X))
      have HB1 := fun X => Lib.hid (set3_below (hT.2.2.2.trans (hb.mono hT.2.2.2.size)) (b := w.heap.size + 1) (by omega) (.slice p n c) (.int .i64 (pos : Int)) (.int .i64 X))
      obtain ⟨c10, c11, c12, f10, f11, f12⟩ := row3 e1
      clear hb hT e1
      go_wp2_with fail
      refine bodyPost_ret (results_cell_tmp rfl _ _ _ _ _ _ _ rfl (E2 _).out Tryd.underlying39 rfl sizeR) rfl ?_
      exact HF1.out _ (HB1 _).out
    · have hd : decide (k < (0 : Int)) = false := decide_eq_false hneg
      obtain ⟨m, rfl⟩ : ∃ m : Nat, k = (m : Int) := ⟨k.toNat, by omega⟩
      have hd1 : decide ((m : Int) < (0 : Int)) = false := decide_eq_false (by omega)
      obtain ⟨q, hq⟩ : ∃ q, n - pos = q := ⟨_, rfl⟩
      have hsub : (n : Int) - (pos : Int) = (q : Int) := by omega
      have hw1 : IntKind.i64.wrap ((n : Int) - (pos : Int)) = (q : Int) := by rw [hsub]; exact IntWalk.i64_in _ (by omega)
      by_cases hbig : q / 32 < m
      · have hd4 : decide ((q : Int) / 32 < (m : Int)) = true := decide_eq_true (by omega)
        have H := Lib.hid (fail_any p n c (pos : Int) 0 2)
        have HF1 := Lib.hid (HF.out 2 (by decide) (by unfold RD.takeS; rw [if_neg (by simp), if_neg (by simp; omega), if_pos (by dsimp only; rw [HN.out]; omega)]) (by unfold RD.takeB; rw [if_neg]; rintro ⟨_, _, _, h⟩; dsimp only at h; rw [HN.out] at h; omega))
        clear hneg hbig
        show Calls _ _ #[rr p n c (pos : Int) 0, .int .i64 (m : Int)] _ _
        go_enter Tryd.func38, Tryd.ntmps38
        go_wp2_with fail
        refine (H.out _).mono ?_
        rintro e w' ⟨rfl, hb⟩
        rw [if_pos trivial]
        have hT := two_allocs w (.cells #[.slice p n c, .int .i64 (pos : Int), .int .i64 0] 39) (.cells #[.slice none 0 0, .int .i64 0, .int .i64 0] 39)
        have e1 := Below.keepOld hb hT.2.1
        have E2 := fun X => Lib.hid (set3 rfl e1 (.slice p n c) (.int .i64 (pos : Int)) (.int .i64 X))
        have HB1 := fun X => Lib.hid (set3_below (hT.2.2.2.trans (hb.mono hT.2.2.2.size)) (b := w.heap.size + 1) (by omega) (.slice p n c) (.int .i64 (pos : Int)) (.int .i64 X))
        obtain ⟨c10, c11, c12, f10, f11, f12⟩ := row3 e1
        clear hb hT e1
        go_wp2_with fail
        refine bodyPost_ret (results_cell_tmp rfl _ _ _ _ _ _ _ rfl (E2 _).out Tryd.underlying39 rfl sizeR) rfl ?_
        exact HF1.out _ (HB1 _).out
      · have hd4 : decide ((q : Int) / 32 < (m : Int)) = false := decide_eq_false (by omega)
        have hfit : pos + 32 * m ≤ n := by omega
        obtain ⟨L, hL⟩ : ∃ L, (l.drop pos).take (32 * m) = L := ⟨_, rfl⟩
        have HLL : Hid (L.length = 32 * m) := by show _ = _; rw [← hL, List.length_take, List.length_drop, HN.out]; omega
        have HLG : Hid (∀ j (h : j < L.length) (h2 : pos + j < l.length), L[j] = l[pos + j]) := by
          intro j h h2
          subst hL
          simp
        have HF1 : Hid (∀ w' q d, w'.ownsRow w.heap.size 55 32 (.slice q m d) m (bytesV L) → Below w.heap.size w w' → IdsR p n c ⟨l, pos, none⟩ (m : Int) w (.returned (.tuple #[rr p n c ((pos + 32 * m : Nat) : Int) 0, .slice q m d])) w') := fun w' q d ho hb => by
          have h1 : RD.takeS ⟨l, pos, none⟩ (32 * (m : Int)) true = ⟨l, pos + 32 * m, none⟩ := by
            unfold RD.takeS
            rw [if_neg (by simp), if_neg (by simp; try omega), if_neg (by dsimp only; rw [HN.out]; omega)]
            rfl
          have h2 : RD.takeB ⟨l, pos, none⟩ (32 * (m : Int)) true = L := by
            unfold RD.takeB
            rw [if_pos ⟨rfl, rfl, by omega, by dsimp only; rw [HN.out]; omega⟩, ← hL]
            rfl
          exact ⟨q, m, d, by rw [h2]; exact HLL.out, by rw [h1]; rfl, by rw [h2]; exact ho, hb⟩
        clear hneg hbig hL HF
        have hT := two_allocs w (.cells #[.slice p n c, .int .i64 (pos : Int), .int .i64 0] 39) (.cells #[.slice none 0 0, .int .i64 0, .int .i64 0] 39)
        have HT := Lib.hid hT
        clear hT
        show Calls _ _ #[rr p n c (pos : Int) 0, .int .i64 (m : Int)] _ _
        have hz := zeroid
        go_enter Tryd.func38, Tryd.ntmps38
        go_wp2_with fail
        go_loopw [6, 7] (fun vo vi wr => ∃ (i : Nat) (po : Option Addr) (co : Nat), i ≤ m ∧ vi = .int .i64 i ∧ vo = .slice po i co ∧ wr.ownsRow (w.heap.size + 2) 55 32 (.slice po i co) i (bytesV (L.take (32 * i))) ∧
          wr.heap[w.heap.size]? = some (.cells #[.slice p n c, .int .i64 ((pos + 32 * i : Nat) : Int), .int .i64 0] 39 (0, 0)) ∧ wr.heap[w.heap.size + 1]? = some (.cells #[.slice none 0 0, .int .i64 0, .int .i64 0] 39 (0, 0)) ∧ Below w.heap.size w wr ∧ w.heap.size + 2 ≤ wr.heap.size) (fun _ vi _ => m - (intOf vi).toNat)
        case atStart => exact ⟨0, none, 0, by omega, rfl, rfl, ⟨rfl, .inl ⟨rfl, rfl⟩⟩, HT.out.1, HT.out.2.1, HT.out.2.2.2, by rw [HT.out.2.2.1]; omega⟩
        case round =>
          obtain ⟨i, po, co, hi, rfl, rfl, hown, he0, he1, hbw, hsz⟩ := hrel
          have HOW := Lib.hid hown
          have HE0 := Lib.hid he0
          have HE1 := Lib.hid he1
          have HBW := Lib.hid hbw
          clear hown he0 he1 hbw
          by_cases hlt : i < m
          · have hdi : decide ((i : Int) < (m : Int)) = true := decide_eq_true (by omega)
            have hdi2 : decide (i < m) = true := decide_eq_true hlt
            obtain ⟨Y, hY⟩ : ∃ Y, (L.drop (32 * i)).take 32 = Y := ⟨_, rfl⟩
            have HYL : Hid (Y.length = 32) := by show _ = _; rw [← hY, List.length_take, List.length_drop, HLL.out]; omega
            have HYG : Hid (∀ j (h : j < Y.length) (h2 : pos + 32 * i + j < l.length), Y[j] = l[pos + 32 * i + j]) := by
              intro j h h2
              subst hY
              rw [List.getElem_take, List.getElem_drop, HLG.out _ (by rw [HLL.out]; rw [HYL.out] at h; omega) (by omega)]
              congr 1
              omega
            have HTK : Hid (L.take (32 * (i + 1)) = L.take (32 * i) ++ Y) := by show _ = _; rw [Nat.mul_add, List.take_add, ← hY]
            clear hY
            go_wp2_with fail
            obtain ⟨wo, hwo⟩ : ∃ wo, wo = wr := ⟨_, rfl⟩
            subst hwo
            generalize hv : wo.alloc (.cells zid 55) = v0 at *
            have HV : Hid (wo.alloc (.cells zid 55) = v0) := hv
            clear hv
            have HVB : Hid (Below wo.heap.size wo v0) := by rw [← HV.out]; exact Below.allocs _ _
            have HVX : Hid (v0.heap[wo.heap.size]? = some (.cells (fillA Y 0) 55 (0, 0))) := by rw [fillA_zero, ← HV.out]; exact heap_alloc_last _ _
            go_loopw [9] (fun vj wq => ∃ j : Nat, j ≤ 32 ∧ vj = .int .i64 j ∧ wq.heap[wo.heap.size]? = some (.cells (fillA Y j) 55 (0, 0)) ∧ Turns (fun k => k = wo.heap.size) v0 wq) (fun vj _ => 32 - (intOf vj).toNat)
            case atStart => exact ⟨0, by omega, rfl, HVX.out, Turns.refl _ _⟩
            case round =>
              obtain ⟨j, hj, rfl, hxr, htu⟩ := hrel
              have HXR := Lib.hid hxr
              have HTU := Lib.hid htu
              clear hxr htu
              have HQ0 : Hid (wr.heap[w.heap.size]? = some (.cells #[.slice p n c, .int .i64 ((pos + 32 * i : Nat) : Int), .int .i64 0] 39 (0, 0))) := HTU.out.keep (Below.keepOld HVB.out HE0.out) (by omega)
              have HQ1 : Hid (wr.heap[w.heap.size + 1]? = some (.cells #[.slice none 0 0, .int .i64 0, .int .i64 0] 39 (0, 0))) := HTU.out.keep (Below.keepOld HVB.out HE1.out) (by omega)
              have HQB : Hid (Below w.heap.size w wr) := (HBW.out.trans (HVB.out.mono HBW.out.size)).trans (HTU.out.below (by have := HBW.out.size; have := HVB.out.size; omega) (fun k hk => by have := HBW.out.size; omega))
              obtain ⟨c00, c01, c02, f00, f01, f02⟩ := row3 HQ0.out
              by_cases hlj : j < 32
              · have hdj : decide ((j : Int) < (32 : Int)) = true := decide_eq_true (by omega)
                have hdj2 : decide (j < 32) = true := decide_eq_true hlj
                have HBQ : Hid (Bs wr p n c l) := HB.out.below HQB.out
                obtain ⟨b', o', hpp⟩ := HBQ.out.addr (by omega) (by omega)
                have HPP := Lib.hid hpp
                have hin : pos + 32 * i + j < l.length := by rw [HN.out]; omega
                have hjY : j < Y.length := by rw [HYL.out]; exact hlj
                have hc' := Bs.byte (hpp ▸ HBQ.out) hin
                rw [← HYG.out j hjY hin] at hc'
                have HST : Hid ((wr.setCell ⟨wo.heap.size, j, none⟩ (.int .u8 ((Y[j]'hjY).toNat : Int))).heap[wo.heap.size]? = some (.cells (fillA Y (j + 1)) 55 (0, 0))) := by
                  show _ = _
                  rw [heap_setCell_same _ _ _ _ _ _ HXR.out, fillA_set hjY HYL.out]
                generalize Y[j]'hjY = y at *
                have hwx : IntKind.i64.wrap (((pos + 32 * i : Nat) : Int) + (j : Int)) = ((pos + 32 * i + j : Nat) : Int) := by
                  rw [show ((pos + 32 * i : Nat) : Int) + (j : Int) = ((pos + 32 * i + j : Nat) : Int) by omega]
                  exact IntWalk.i64_in _ (by omega)
                obtain ⟨ix, hix⟩ : ∃ ix, pos + 32 * i + j = ix := ⟨_, rfl⟩
                obtain ⟨at0, hat0⟩ : ∃ at0, pos + 32 * i = at0 := ⟨_, rfl⟩
                rw [hix] at hc' hwx
                rw [hat0] at c01 hwx
                have hixn : ix < n := by omega
                have hcx : wr.cell? ⟨wo.heap.size, j, none⟩ = some ((fillA Y j)[j]'(by rw [fillA_size HYL.out (by omega)]; exact hlj)) := by
                  rw [cell_of_row _ _ _ _ _ _ HXR.out]
                  simp
                have hfx : wr.frozen? ⟨wo.heap.size, j, none⟩ = false := frozen_of_row _ _ _ _ _ HXR.out
                generalize (fillA Y j)[j]'(by rw [fillA_size HYL.out (by omega)]; exact hlj) = yo at *
                obtain rfl := HPP.out
                clear hpp hin hjY hix hat0
                go_wp2_with fail
                go_roundw
                case rel => exact ⟨j + 1, by omega, by go_num, HST.out, HTU.out.setCell (p := ⟨wo.heap.size, j, none⟩) (fun _ => rfl) _⟩
                case measure => simp [intOf]; omega
              · obtain rfl : j = 32 := by omega
                have HXF : Hid (wr.heap[wo.heap.size]? = some (.cells (idA Y) 55 (0, 0))) := by rw [← fillA_full HYL.out]; exact HXR.out
                have hwx : IntKind.i64.wrap (((pos + 32 * i : Nat) : Int) + 32) = ((pos + 32 * (i + 1) : Nat) : Int) := by
                  rw [show ((pos + 32 * i : Nat) : Int) + 32 = ((pos + 32 * (i + 1) : Nat) : Int) by omega]
                  exact IntWalk.i64_in _ (by omega)
                obtain ⟨at0, hat0⟩ : ∃ at0, pos + 32 * i = at0 := ⟨_, rfl⟩
                obtain ⟨at1, hat1⟩ : ∃ at1, pos + 32 * (i + 1) = at1 := ⟨_, rfl⟩
                have HA1 := Lib.hid hat1
                rw [hat0, hat1] at hwx
                rw [hat0] at c01
                have HW0 : Hid ((wr.setCell ⟨w.heap.size, 1, none⟩ (.int .i64 (at1 : Int))).heap[w.heap.size]? = some (.cells #[.slice p n c, .int .i64 (at1 : Int), .int .i64 0] 39 (0, 0))) := by
                  show _ = _
                  rw [heap_setCell_same _ _ _ _ _ _ HQ0.out]; rfl
                have HW1 : Hid ((wr.setCell ⟨w.heap.size, 1, none⟩ (.int .i64 (at1 : Int))).heap[w.heap.size + 1]? = some (.cells #[.slice none 0 0, .int .i64 0, .int .i64 0] 39 (0, 0))) := by
                  show _ = _
                  rw [heap_setCell_other _ _ _ _ (by simp)]; exact HQ1.out
                have HWX : Hid ((wr.setCell ⟨w.heap.size, 1, none⟩ (.int .i64 (at1 : Int))).heap[wo.heap.size]? = some (.cells (idA Y) 55 (0, 0))) := by
                  show _ = _
                  rw [heap_setCell_other _ _ _ _ (by simp; omega)]; exact HXF.out
                have HWB : Hid (Below w.heap.size w (wr.setCell ⟨w.heap.size, 1, none⟩ (.int .i64 (at1 : Int)))) := HQB.out.setCell (Nat.le_refl _) _
                have HWO : Hid ((wr.setCell ⟨w.heap.size, 1, none⟩ (.int .i64 (at1 : Int))).ownsRow (w.heap.size + 2) 55 32 (.slice po i co) i (bytesV (L.take (32 * i)))) := by
                  have hlt := HOW.out.lt
                  refine own_touch HOW.out (S := fun k => k = wo.heap.size ∨ k = w.heap.size) (((Turns.of_below (S := fun k => k = wo.heap.size ∨ k = w.heap.size) HVB.out).trans HTU.out (fun _ _ h => .inl h)).setCell (p := ⟨w.heap.size, 1, none⟩) (fun _ => .inr rfl) _) (fun k hk h => ?_)
                  have := hlt k hk
                  omega
                have HWS : Hid (w.heap.size + 2 ≤ (wr.setCell ⟨w.heap.size, 1, none⟩ (.int .i64 (at1 : Int))).heap.size) := by
                  show _ ≤ _
                  have h1 := HTU.out.size
                  have h2 := HVB.out.size
                  simp [World.setCell]
                  omega
                have HLT2 : Hid (wo.heap.size < (wr.setCell ⟨w.heap.size, 1, none⟩ (.int .i64 (at1 : Int))).heap.size) := (Array.getElem?_eq_some_iff.1 HWX.out).1
                clear hat0 hat1
                go_upto_region 17 with fail
                generalize wr.setCell ⟨w.heap.size, 1, none⟩ (.int .i64 (at1 : Int)) = w5 at *
                have HYS : Hid ((idA Y).size = 32) := by show _ = _; rw [idA_size, HYL.out]
                have HSL : Hid (Sl (w5.alloc (.cells (idA Y) 55)) (some ⟨w5.heap.size, 0, none⟩) 1 1 32 (bytesV Y)) := made_id w5 Y _ _ (idA_toList Y) HYL.out
                have HO5 : Hid ((w5.alloc (.cells (idA Y) 55)).ownsRow (w.heap.size + 2) 55 32 (.slice po i co) i (bytesV (L.take (32 * i)))) := HWO.out.alloc _
                have HSZ4 : Hid (w.heap.size + 2 ≤ (w5.alloc (.cells (idA Y) 55)).heap.size) := by have := HWS.out; show _ ≤ _; simp; omega
                clear c00 c01 c02 f00 f01 f02
                go_wp2_with (first
                  | refine wpList_load_row rfl 55 _ rfl wo.heap.size rfl 55 (idA Y) (0, 0) _ HWX.out Tryd.underlying55 rfl (infoid (idA Y) HYS.out) ?_
                  | refine wpList_buildOne rfl 51 55 _ rfl (idA Y) rfl 32 Tryd.underlying51 (by kernel_rfl) (by omega) (by omega) HYS.out ?_
                  | (at_builtin; refine wpList_append_nx rfl _ _ 51 rfl (base := w.heap.size + 2) Tryd.underlying51 infoIds (by rfl) (by omega) rfl HO5.out rfl HSL.out (bytesV_one _) (by omega) HSZ4.out ?_))
                intro p' c' w6 hown hg hnx hne
                have HO6 : Hid (w6.ownsRow (w.heap.size + 2) 55 32 (.slice p' (i + 1) c') (i + 1) (bytesV (L.take (32 * (i + 1))))) := by
                  rw [HTK.out, bytesV_append]
                  exact hown
                have hb6 : Below (w.heap.size + 2) w5 w6 := ((Below.refl _ _).alloc HWS.out _).grown hg HSZ4.out (fun k hk => (HO5.out.lt k hk).1)
                have HE60 := Lib.hid (Below.keepBlock hb6 HW0.out (by omega))
                have HE61 := Lib.hid (Below.keepBlock hb6 HW1.out (by omega))
                have HB6 : Hid (Below w.heap.size w w6) := HWB.out.trans (hb6.mono (by omega))
                have HS6 : Hid (w.heap.size + 2 ≤ w6.heap.size) := by have := hb6.size; have := HWS.out; show _ ≤ _; omega
                clear hown hg hnx hne hb6
                go_wp2_with fail
                go_roundw
                case rel => exact ⟨i + 1, p', c', by omega, by go_num, rfl, HO6.out, by rw [HA1.out]; exact HE60.out, HE61.out, HB6.out, HS6.out⟩
                case measure => simp [intOf]; omega
          · obtain rfl : i = m := by omega
            have hdi : decide ((i : Int) < (i : Int)) = false := by simp
            obtain ⟨c00, c01, c02, f00, f01, f02⟩ := row3 HE0.out
            obtain ⟨c10, c11, c12, f10, f11, f12⟩ := row3 HE1.out
            have HX2 := Lib.hid (set3 rfl HE1.out (.slice p n c) (.int .i64 ((pos + 32 * i : Nat) : Int)) (.int .i64 0))
            have HB2 := Lib.hid (set3_below HBW.out (b := w.heap.size + 1) (by omega) (.slice p n c) (.int .i64 ((pos + 32 * i : Nat) : Int)) (.int .i64 0))
            have HO2 : Hid (((((wr.setCell ⟨w.heap.size + 1, 0, none⟩ (.slice p n c)).setCell ⟨w.heap.size + 1, 1, none⟩ (.int .i64 ((pos + 32 * i : Nat) : Int))).setCell ⟨w.heap.size + 1, 2, none⟩ (.int .i64 0))).ownsRow w.heap.size 55 32 (.slice po i co) i (bytesV L)) := by
              have h1 := HOW.out
              rw [List.take_of_length_le (by rw [HLL.out]; omega)] at h1
              have hlt := h1.lt
              refine own_base (own_touch h1 (S := fun k => k = w.heap.size + 1) ((((Turns.refl (fun k => k = w.heap.size + 1) wr).setCell (p := ⟨w.heap.size + 1, 0, none⟩) (fun _ => rfl) _).setCell (p := ⟨w.heap.size + 1, 1, none⟩) (fun _ => rfl) _).setCell (p := ⟨w.heap.size + 1, 2, none⟩) (fun _ => rfl) _) (fun k hk h => ?_)) (fun k hk => ?_)
              · have := hlt k hk; omega
              · have := hlt k hk; omega
            have HFIN := Lib.hid (HF1.out _ _ _ HO2.out HB2.out)
            obtain ⟨at0, hat0⟩ : ∃ at0, pos + 32 * i = at0 := ⟨_, rfl⟩
            rw [hat0] at c01 HX2 HFIN
            clear hat0 HO2 HB2
            go_wp2_with fail
            refine bodyPost_ret (results_cell_tmp rfl _ _ _ _ _ _ _ rfl HX2.out Tryd.underlying39 rfl sizeR) rfl ?_
            exact HFIN.out
end Go.Proofs.YtbfddfmglkhimaaDoor.RR
