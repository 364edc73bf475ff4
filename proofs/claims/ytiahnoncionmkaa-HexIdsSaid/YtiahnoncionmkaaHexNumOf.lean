/- LAYER 12: the walk of NumOf. Conditions: texts of at most 2^40. -/
import Derived.Test.YtiahnoncionmkaaHexNum
namespace Go.Proofs.Ytiahnoncionmkaa.HexW
open Go.RowKit Bld Go.Mir Go.Mir.Hx Go.Mir.Parts

/-- what is read of a text, up to a bound: a number, an error -/
def niceB (l : List UInt8) : Bool := !l.isEmpty && l.all (fun c => decide (48 ≤ c.toNat) && decide (c.toNat ≤ 57)) && (l[0]? != some 48 || l.length == 1)
theorem niceB_iff (l : List UInt8) : niceB l = true ↔ Nice l := by
  unfold niceB Nice isD
  simp only [Bool.and_eq_true, Bool.not_eq_true', List.isEmpty_eq_false_iff, List.all_eq_true, decide_eq_true_eq, Bool.or_eq_true, bne_iff_ne, beq_iff_eq]
  constructor
  · rintro ⟨⟨h1, h2⟩, h3⟩
    exact ⟨h1, h2, fun h => h3.resolve_left (fun h' => h' h)⟩
  · rintro ⟨h1, h2, h3⟩
    refine ⟨⟨h1, h2⟩, ?_⟩
    by_cases h : l[0]? = some 48
    · exact .inr (h3 h)
    · exact .inl h
def numOf (l : List UInt8) (most : Nat) : Nat × Int := if niceB l = true then (if most < val l then (0, 3) else (val l, 0)) else (0, 4)
def NumP (l : List UInt8) (most : Nat) (w : World) (e : Ending) (w' : World) : Prop := e = .returned (.tuple #[.int .u64 ((numOf l most).1 : Int), .int .i64 (numOf l most).2]) ∧ Below w.heap.size w w'
theorem numOf_bad {l : List UInt8} (h : ¬ Nice l) (most : Nat) : numOf l most = (0, 4) := by unfold numOf; rw [if_neg (fun e => h ((niceB_iff l).1 e))]
theorem numOf_many {l : List UInt8} {most : Nat} (h : Nice l) (hm : most < val l) : numOf l most = (0, 3) := by unfold numOf; rw [if_pos ((niceB_iff l).2 h), if_pos hm]
theorem numOf_ok {l : List UInt8} {most : Nat} (h : Nice l) (hm : val l ≤ most) : numOf l most = (val l, 0) := by unfold numOf; rw [if_pos ((niceB_iff l).2 h), if_neg (by omega)]
theorem val_mono (l : List UInt8) (k : Nat) : val (l.take k) ≤ val l := by
  have h := foldl_val (l.drop k) (val (l.take k))
  have h2 : val l = (l.drop k).foldl (fun n c => 10 * n + (c.toNat - 48)) (val (l.take k)) := by
    unfold val
    rw [← List.foldl_append, List.take_append_drop]
  have h3 : 1 ≤ 10 ^ (l.drop k).length := by have := Nat.pos_of_ne_zero (n := 10 ^ (l.drop k).length) (by simp); omega
  have h4 : val (l.take k) * 1 ≤ val (l.take k) * 10 ^ (l.drop k).length := Nat.mul_le_mul_left _ h3
  rw [h2, h]; omega
/-- the state of a reading -/
structure St (l : List UInt8) (most k x : Nat) (many : Bool) : Prop where
  digs : ∀ c ∈ l.take k, isD c
  le : x ≤ most
  small : many = false → x = val (l.take k)
  big : many = true → most < val (l.take k)
theorem St.next {l : List UInt8} {most k x : Nat} (h : St l most k x false) (hk : k < l.length) (hd : isD l[k]) (hn : 10 * x + (l[k].toNat - 48) ≤ most) : St l most (k + 1) (10 * x + (l[k].toNat - 48)) false := by
  refine ⟨fun c hc => ?_, hn, fun _ => ?_, fun h => (by cases h)⟩
  · rw [take_snoc l k hk, List.mem_append, List.mem_singleton] at hc
    rcases hc with hc | rfl
    · exact h.digs c hc
    · exact hd
  · rw [take_snoc l k hk, val_snoc, h.small rfl]
theorem St.over {l : List UInt8} {most k x : Nat} {many : Bool} (h : St l most k x many) (hk : k < l.length) (hd : isD l[k]) (hn : many = true ∨ most < 10 * x + (l[k].toNat - 48)) : St l most (k + 1) x true := by
  refine ⟨fun c hc => ?_, h.le, fun h => (by cases h), fun _ => ?_⟩
  · rw [take_snoc l k hk, List.mem_append, List.mem_singleton] at hc
    rcases hc with hc | rfl
    · exact h.digs c hc
    · exact hd
  · rw [take_snoc l k hk, val_snoc]
    rcases hn with hn | hn
    · have := h.big hn; omega
    · cases many with
      | true => have := h.big rfl; omega
      | false => rw [← h.small rfl]; exact hn

set_option maxRecDepth 100000 in
set_option maxHeartbeats 400000 in
theorem numOf_any (l : List UInt8) (most : Nat) (w : World) (hl : l.length ≤ 1099511627776) (hm : most < 18446744073709551616) :
    Calls Try.prog 16 #[.string (S l), .int .u64 (most : Int)] w (NumP l most w) := by
  by_cases h0 : l = []
  · have HN : Hid (numOf l most = (0, 4)) := numOf_bad (fun h => h.1 h0) most
    subst h0
    go_enter Try.func16, Try.ntmps16
    go_wp2_with fail
    go_ret2
    exact ⟨by rw [HN.out]; rfl, Below.refl _ _⟩
  · have hpos : 0 < l.length := List.length_pos_iff.2 h0
    have hi0 : l.toArray.toList = l := rfl
    have hem : (l == []) = false := by rw [beq_eq_false_iff_ne]; exact h0
    by_cases hz : l[0] = 48 ∧ l ≠ [48]
    · have HN : Hid (numOf l most = (0, 4)) := numOf_bad (fun h => hz.2 (by
        have := h.2.2 (by rw [List.getElem?_eq_getElem hpos, hz.1])
        match l, this with
        | [c], _ => rw [← hz.1]; rfl)) most
      have hb : ((l[0].toNat : Int) == 48) = true := by rw [hz.1]; rfl
      have hb2 : (l == [48]) = false := by rw [beq_eq_false_iff_ne]; exact hz.2
      clear hz h0 hi0
      go_enter Try.func16, Try.ntmps16
      go_wp2_with fail
      go_ret2
      exact ⟨by rw [HN.out]; rfl, Below.refl _ _⟩
    · have HZ : Hid (l[0]? = some 48 → l.length = 1) := fun h => by
        rw [List.getElem?_eq_getElem hpos] at h
        by_cases h1 : l = [48]
        · rw [h1]; rfl
        · exact absurd ⟨Option.some.inj h, h1⟩ hz
      have HNE := Lib.hid h0
      clear h0 hi0
      by_cases hz0 : l[0] = 48
      · have hb : ((l[0].toNat : Int) == 48) = true := by rw [hz0]; rfl
        have hb2 : (l == [48]) = true := by
          rw [beq_iff_eq]
          by_cases h1 : l = [48]
          · exact h1
          · exact absurd ⟨hz0, h1⟩ hz
        clear hz hz0
        go_enter Try.func16, Try.ntmps16
        go_wp2_with fail
        have HW1 : Hid (w.iter (S l) 0 = w.alloc (.stringIter (S l) 0)) := rfl
        have HS : Hid ((S l).size = l.length) := S_size l
        have HSB : Hid (∀ k (h : k < (S l).size), (S l)[k] = l[k]'(by rw [← S_size]; exact h)) := fun k h => rfl
        go_loopw [6, 7] (fun n m wr => ∃ (k x : Nat) (many : Bool), k ≤ l.length ∧ n = .int .u64 (x : Int) ∧ m = .bool many ∧ St l most k x many ∧ wr.heap[w.heap.size]? = some (.stringIter (S l) k) ∧ Below w.heap.size w wr) (fun _ _ wr => l.length - wr.iterPos w.heap.size)
        case atStart => exact ⟨0, 0, false, by omega, rfl, rfl, ⟨fun c hc => by simp at hc, by omega, fun _ => rfl, fun h => (by cases h)⟩, World.iter_heap _ _ _, by rw [HW1.out]; exact Below.allocs _ _⟩
        case round =>
          obtain ⟨k, x, many, hk, rfl, rfl, hst, hit, hbw⟩ := hrel
          have HST := Lib.hid hst
          have HIT := Lib.hid hit
          have HBW := Lib.hid hbw
          have hxm := hst.le
          clear hst hit hbw
          by_cases hlt : k < l.length
          · obtain ⟨D, Wd, hnx, hD1, hD2⟩ := next_rune wr _ (S l) k HIT.out (by rw [HS.out]; exact hlt)
            have HIT1 := Lib.hid (Lib.iterAt_heap wr _ (S l) k (k + Wd) HIT.out)
            have HB2 := Lib.hid (Lib.below_iterAt HBW.out (Nat.le_refl _) (S l) (k + Wd))
            rw [HSB.out] at hD2
            have HD2 := Lib.hid hD2
            clear hD2
            by_cases hdg : 48 ≤ D ∧ D ≤ 57
            · obtain ⟨h48, h57⟩ := hdg
              obtain ⟨hDk, rfl⟩ : D = (l[k]'hlt).toNat ∧ Wd = 1 := by
                rcases HD2.out with h | h
                · exact h.2
                · omega
              have HDK := Lib.hid hDk
              have HID : Hid (isD (l[k]'hlt)) := ⟨by omega, by omega⟩
              have b1 : decide ((D : Int) < 48) = false := decide_eq_false (by omega)
              have b2 : decide ((57 : Int) < (D : Int)) = false := decide_eq_false (by omega)
              obtain ⟨d, rfl⟩ : ∃ d, D = 48 + d := ⟨D - 48, by omega⟩
              clear hDk
              cases many with
              | true =>
                have HN := Lib.hid (HST.out.over hlt HID.out (.inl rfl))
                go_wp2_with fail
                go_roundw
                case rel => exact ⟨k + 1, x, true, by omega, rfl, rfl, HN.out, HIT1.out, HB2.out⟩
                case measure => simp [World.iterPos, HIT.out, HIT1.out]; omega
              | false =>
                by_cases hmd : most < d
                · have HN := Lib.hid (HST.out.over hlt HID.out (.inr (by rw [← HDK.out]; omega)))
                  go_wp2_with fail
                  all_goals
                    go_roundw
                    case rel => exact ⟨k + 1, x, true, by omega, rfl, rfl, HN.out, HIT1.out, HB2.out⟩
                    case measure => simp [World.iterPos, HIT.out, HIT1.out]; omega
                · by_cases hov : most < 10 * x + d
                  · have HN := Lib.hid (HST.out.over hlt HID.out (.inr (by rw [← HDK.out]; omega)))
                    go_wp2_with fail
                    go_roundw
                    case rel => exact ⟨k + 1, x, true, by omega, rfl, rfl, HN.out, HIT1.out, HB2.out⟩
                    case measure => simp [World.iterPos, HIT.out, HIT1.out]; omega
                  · have HN := Lib.hid (HST.out.next hlt HID.out (by rw [← HDK.out]; omega))
                    go_wp2_with fail
                    go_roundw
                    case rel => exact ⟨k + 1, _, false, by omega, by rw [← HDK.out]; go_num, rfl, HN.out, HIT1.out, HB2.out⟩
                    case measure => simp [World.iterPos, HIT.out, HIT1.out]; omega
            · have HBAD : Hid (¬ Nice l) := fun h => by
                have h1 := h.2.1 (l[k]'hlt) (List.getElem_mem _)
                unfold isD at h1
                rcases HD2.out with h2 | h2
                · omega
                · omega
              have HN := Lib.hid (numOf_bad HBAD.out most)
              by_cases h48 : D < 48
              · have b1 : decide ((D : Int) < 48) = true := decide_eq_true (by omega)
                clear hdg
                go_wp2_with fail
                go_ret2
                exact ⟨by rw [HN.out]; rfl, HB2.out⟩
              · have b1 : decide ((D : Int) < 48) = false := decide_eq_false (by omega)
                have b2 : decide ((57 : Int) < (D : Int)) = true := decide_eq_true (by omega)
                clear hdg
                go_wp2_with fail
                go_ret2
                exact ⟨by rw [HN.out]; rfl, HB2.out⟩
          · obtain rfl : k = l.length := by omega
            have hnd : ∀ ty, (Instr.next (.pointer (some ⟨w.heap.size, 0, none⟩)) true ty).run Try.prog wr = .ok (.tuple #[.bool false]) wr := fun ty => Lib.run_next_end_at wr _ (S l) _ ty HIT.out (by rw [HS.out]; omega)
            have HNI : Hid (Nice l) := ⟨HNE.out, fun c hc => HST.out.digs c (by rw [List.take_length]; exact hc), HZ.out⟩
            cases many with
            | true =>
              have HN := Lib.hid (numOf_many HNI.out (by have := HST.out.big rfl; rwa [List.take_length] at this))
              go_wp2_with fail
              go_ret2
              exact ⟨by rw [HN.out]; rfl, HBW.out⟩
            | false =>
              have HSM : Hid (x = val l) := by have := HST.out.small rfl; rwa [List.take_length] at this
              have HN := Lib.hid (numOf_ok HNI.out (by rw [← HSM.out]; exact hxm))
              go_wp2_with fail
              go_ret2
              exact ⟨by rw [HN.out, HSM.out]; rfl, HBW.out⟩
      · have hb : ((l[0].toNat : Int) == 48) = false := by
          rw [beq_eq_false_iff_ne]; intro e
          exact hz0 (UInt8.toNat_inj.1 (by have h0 : (48 : UInt8).toNat = 48 := rfl; omega))
        clear hz hz0
        go_enter Try.func16, Try.ntmps16
        go_wp2_with fail
        have HW1 : Hid (w.iter (S l) 0 = w.alloc (.stringIter (S l) 0)) := rfl
        have HS : Hid ((S l).size = l.length) := S_size l
        have HSB : Hid (∀ k (h : k < (S l).size), (S l)[k] = l[k]'(by rw [← S_size]; exact h)) := fun k h => rfl
        go_loopw [6, 7] (fun n m wr => ∃ (k x : Nat) (many : Bool), k ≤ l.length ∧ n = .int .u64 (x : Int) ∧ m = .bool many ∧ St l most k x many ∧ wr.heap[w.heap.size]? = some (.stringIter (S l) k) ∧ Below w.heap.size w wr) (fun _ _ wr => l.length - wr.iterPos w.heap.size)
        case atStart => exact ⟨0, 0, false, by omega, rfl, rfl, ⟨fun c hc => by simp at hc, by omega, fun _ => rfl, fun h => (by cases h)⟩, World.iter_heap _ _ _, by rw [HW1.out]; exact Below.allocs _ _⟩
        case round =>
          obtain ⟨k, x, many, hk, rfl, rfl, hst, hit, hbw⟩ := hrel
          have HST := Lib.hid hst
          have HIT := Lib.hid hit
          have HBW := Lib.hid hbw
          have hxm := hst.le
          clear hst hit hbw
          by_cases hlt : k < l.length
          · obtain ⟨D, Wd, hnx, hD1, hD2⟩ := next_rune wr _ (S l) k HIT.out (by rw [HS.out]; exact hlt)
            have HIT1 := Lib.hid (Lib.iterAt_heap wr _ (S l) k (k + Wd) HIT.out)
            have HB2 := Lib.hid (Lib.below_iterAt HBW.out (Nat.le_refl _) (S l) (k + Wd))
            rw [HSB.out] at hD2
            have HD2 := Lib.hid hD2
            clear hD2
            by_cases hdg : 48 ≤ D ∧ D ≤ 57
            · obtain ⟨h48, h57⟩ := hdg
              obtain ⟨hDk, rfl⟩ : D = (l[k]'hlt).toNat ∧ Wd = 1 := by
                rcases HD2.out with h | h
                · exact h.2
                · omega
              have HDK := Lib.hid hDk
              have HID : Hid (isD (l[k]'hlt)) := ⟨by omega, by omega⟩
              have b1 : decide ((D : Int) < 48) = false := decide_eq_false (by omega)
              have b2 : decide ((57 : Int) < (D : Int)) = false := decide_eq_false (by omega)
              obtain ⟨d, rfl⟩ : ∃ d, D = 48 + d := ⟨D - 48, by omega⟩
              clear hDk
              cases many with
              | true =>
                have HN := Lib.hid (HST.out.over hlt HID.out (.inl rfl))
                go_wp2_with fail
                go_roundw
                case rel => exact ⟨k + 1, x, true, by omega, rfl, rfl, HN.out, HIT1.out, HB2.out⟩
                case measure => simp [World.iterPos, HIT.out, HIT1.out]; omega
              | false =>
                by_cases hmd : most < d
                · have HN := Lib.hid (HST.out.over hlt HID.out (.inr (by rw [← HDK.out]; omega)))
                  go_wp2_with fail
                  all_goals
                    go_roundw
                    case rel => exact ⟨k + 1, x, true, by omega, rfl, rfl, HN.out, HIT1.out, HB2.out⟩
                    case measure => simp [World.iterPos, HIT.out, HIT1.out]; omega
                · by_cases hov : most < 10 * x + d
                  · have HN := Lib.hid (HST.out.over hlt HID.out (.inr (by rw [← HDK.out]; omega)))
                    go_wp2_with fail
                    go_roundw
                    case rel => exact ⟨k + 1, x, true, by omega, rfl, rfl, HN.out, HIT1.out, HB2.out⟩
                    case measure => simp [World.iterPos, HIT.out, HIT1.out]; omega
                  · have HN := Lib.hid (HST.out.next hlt HID.out (by rw [← HDK.out]; omega))
                    go_wp2_with fail
                    go_roundw
                    case rel => exact ⟨k + 1, _, false, by omega, by rw [← HDK.out]; go_num, rfl, HN.out, HIT1.out, HB2.out⟩
                    case measure => simp [World.iterPos, HIT.out, HIT1.out]; omega
            · have HBAD : Hid (¬ Nice l) := fun h => by
                have h1 := h.2.1 (l[k]'hlt) (List.getElem_mem _)
                unfold isD at h1
                rcases HD2.out with h2 | h2
                · omega
                · omega
              have HN := Lib.hid (numOf_bad HBAD.out most)
              by_cases h48 : D < 48
              · have b1 : decide ((D : Int) < 48) = true := decide_eq_true (by omega)
                clear hdg
                go_wp2_with fail
                go_ret2
                exact ⟨by rw [HN.out]; rfl, HB2.out⟩
              · have b1 : decide ((D : Int) < 48) = false := decide_eq_false (by omega)
                have b2 : decide ((57 : Int) < (D : Int)) = true := decide_eq_true (by omega)
                clear hdg
                go_wp2_with fail
                go_ret2
                exact ⟨by rw [HN.out]; rfl, HB2.out⟩
          · obtain rfl : k = l.length := by omega
            have hnd : ∀ ty, (Instr.next (.pointer (some ⟨w.heap.size, 0, none⟩)) true ty).run Try.prog wr = .ok (.tuple #[.bool false]) wr := fun ty => Lib.run_next_end_at wr _ (S l) _ ty HIT.out (by rw [HS.out]; omega)
            have HNI : Hid (Nice l) := ⟨HNE.out, fun c hc => HST.out.digs c (by rw [List.take_length]; exact hc), HZ.out⟩
            cases many with
            | true =>
              have HN := Lib.hid (numOf_many HNI.out (by have := HST.out.big rfl; rwa [List.take_length] at this))
              go_wp2_with fail
              go_ret2
              exact ⟨by rw [HN.out]; rfl, HBW.out⟩
            | false =>
              have HSM : Hid (x = val l) := by have := HST.out.small rfl; rwa [List.take_length] at this
              have HN := Lib.hid (numOf_ok HNI.out (by rw [← HSM.out]; exact hxm))
              go_wp2_with fail
              go_ret2
              exact ⟨by rw [HN.out, HSM.out]; rfl, HBW.out⟩
end Go.Proofs.Ytiahnoncionmkaa.HexW
