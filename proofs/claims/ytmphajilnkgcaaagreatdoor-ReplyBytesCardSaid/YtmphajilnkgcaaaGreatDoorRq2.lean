/- PARTS, JOINED: LAYER 12: the walk of NumOf. Conditions: texts of at most 2^40. PLAIN PART OF REPLIES: names, words, what a reply's line is, and whose line a text is. Conditions: none. IDS AND BLOCKS AS VALUES: arrays of 32 bytes, and structs of two of them and a slice of them. A REGION THAT DRAWS ITS ORDER, WHOSE CALLS MAKE MEMORY. No program is named. Conditions: none. A REGION THAT DRAWS ITS ORDER, WALKED IN ONE ORDER: what reads only what stood at its start is taken at once; the calls come one behind the other. No program is named. Conditions: none. A READER IN MEMORY, and what it holds, plain; new, none, At, Left, Fail. Conditions: none. REPLIES: names: the lists, a number's name, a name's number. Conditions: none. -/
import Derived.Test.YtmphajilnkgcaaaGreatDoorRq1
import Derived.Lib.SplitLaws
import Derived.Lib.Join
import Derived.Deep.MidRow
import Derived.Great.BuildSlice
import Derived.BigQuiet
import Derived.StillTailTactics
import Derived.Deep.QuietTactic
import Derived.OrdersHeld
import Derived.Deep.RegionHeld3
import Derived.NoCompiler
import Derived.IntWalk
import Derived.Test.YtmphajilnkgcaaaGreatDoorProg
import Derived.Deep.Upon
import Derived.Deep.Cut
import Derived.Outline
namespace Go.Proofs.YtmphajilnkgcaaaGreatDoor.HexW
open Go.RowKit Bld Go.Mir Go.Mir.Hx Go.Mir.Parts

/-- what is read of a text, up to a bound: a number, an error -/
def niceB (l : List UInt8) : Bool := !l.isEmpty && l.all (fun c => decide (48 ≤ c.toNat) && decide (c.toNat ≤ 57)) && (l[0]? != some 48 || l.length == 1)
theorem niceB_iff (l : List UInt8) : niceB l = true ↔ Nice l := by
  unfold niceB Nice isD
  simp only [Bool.and_eq_true, Bool.not_eq_true', List.isEmpty_eq_false_iff, List.all_eq_true, decide_eq_true_eq, Bool.or_eq_true, bne_iff_ne, beq_iff_eq]
  constructor
  · rintro ⟨⟨h1, h2⟩, h3⟩
    exact ⟨h1, h2, fun h => h3.resolve_left (fun h' => h' h)⟩
  · rintro ⟨h1, h2, h3⟩
    refine ⟨⟨h1, h2⟩, ?_⟩
    by_cases h : l[0]? = some 48
    · exact .inr (h3 h)
    · exact .inl h
def numOf (l : List UInt8) (most : Nat) : Nat × Int := if niceB l = true then (if most < val l then (0, 3) else (val l, 0)) else (0, 4)
def NumP (l : List UInt8) (most : Nat) (w : World) (e : Ending) (w' : World) : Prop := e = .returned (.tuple #[.int .u64 ((numOf l most).1 : Int), .int .i64 (numOf l most).2]) ∧ Below w.heap.size w w'
theorem numOf_bad {l : List UInt8} (h : ¬ Nice l) (most : Nat) : numOf l most = (0, 4) := by unfold numOf; rw [if_neg (fun e => h ((niceB_iff l).1 e))]
theorem numOf_many {l : List UInt8} {most : Nat} (h : Nice l) (hm : most < val l) : numOf l most = (0, 3) := by unfold numOf; rw [if_pos ((niceB_iff l).2 h), if_pos hm]
theorem numOf_ok {l : List UInt8} {most : Nat} (h : Nice l) (hm : val l ≤ most) : numOf l most = (val l, 0) := by unfold numOf; rw [if_pos ((niceB_iff l).2 h), if_neg (by omega)]
theorem val_mono (l : List UInt8) (k : Nat) : val (l.take k) ≤ val l := by
  have h := foldl_val (l.drop k) (val (l.take k))
  have h2 : val l = (l.drop k).foldl (fun n c => 10 * n + (c.toNat - 48)) (val (l.take k)) := by
    unfold val
    rw [← List.foldl_append, List.take_append_drop]
  have h3 : 1 ≤ 10 ^ (l.drop k).length := by have := Nat.pos_of_ne_zero (n := 10 ^ (l.drop k).length) (by simp); omega
  have h4 : val (l.take k) * 1 ≤ val (l.take k) * 10 ^ (l.drop k).length := Nat.mul_le_mul_left _ h3
  rw [h2, h]; omega
/-- the state of a reading -/
structure St (l : List UInt8) (most k x : Nat) (many : Bool) : Prop where
  digs : ∀ c ∈ l.take k, isD c
  le : x ≤ most
  small : many = false → x = val (l.take k)
  big : many = true → most < val (l.take k)
theorem St.next {l : List UInt8} {most k x : Nat} (h : St l most k x false) (hk : k < l.length) (hd : isD l[k]) (hn : 10 * x + (l[k].toNat - 48) ≤ most) : St l most (k + 1) (10 * x + (l[k].toNat - 48)) false := by
  refine ⟨fun c hc => ?_, hn, fun _ => ?_, fun h => (by cases h)⟩
  · rw [take_snoc l k hk, List.mem_append, List.mem_singleton] at hc
    rcases hc with hc | rfl
    · exact h.digs c hc
    · exact hd
  · rw [take_snoc l k hk, val_snoc, h.small rfl]
theorem St.over {l : List UInt8} {most k x : Nat} {many : Bool} (h : St l most k x many) (hk : k < l.length) (hd : isD l[k]) (hn : many = true ∨ most < 10 * x + (l[k].toNat - 48)) : St l most (k + 1) x true := by
  refine ⟨fun c hc => ?_, h.le, fun h => (by cases h), fun _ => ?_⟩
  · rw [take_snoc l k hk, List.mem_append, List.mem_singleton] at hc
    rcases hc with hc | rfl
    · exact h.digs c hc
    · exact hd
  · rw [take_snoc l k hk, val_snoc]
    rcases hn with hn | hn
    · have := h.big hn; omega
    · cases many with
      | true => have := h.big rfl; omega
      | false => rw [← h.small rfl]; exact hn

set_option maxRecDepth 100000 in
set_option maxHeartbeats 400000 in
theorem numOf_any (l : List UInt8) (most : Nat) (w : World) (hl : l.length ≤ 1099511627776) (hm : most < 18446744073709551616) :
    Calls Tryz.prog 32 #[.string (S l), .int .u64 (most : Int)] w (NumP l most w) := by
  by_cases h0 : l = []
  · have HN : Hid (numOf l most = (0, 4)) := numOf_bad (fun h => h.1 h0) most
    subst h0
    go_enter Tryz.func32, Tryz.ntmps32
    go_wp2_with fail
    go_ret2
    exact ⟨by rw [HN.out]; rfl, Below.refl _ _⟩
  · have hpos : 0 < l.length := List.length_pos_iff.2 h0
    have hi0 : l.toArray.toList = l := rfl
    have hem : (l == []) = false := by rw [beq_eq_false_iff_ne]; exact h0
    by_cases hz : l[0] = 48 ∧ l ≠ [48]
    · have HN : Hid (numOf l most = (0, 4)) := numOf_bad (fun h => hz.2 (by
        have := h.2.2 (by rw [List.getElem?_eq_getElem hpos, hz.1])
        match l, this with
        | [c], _ => rw [← hz.1]; rfl)) most
      have hb : ((l[0].toNat : Int) == 48) = true := by rw [hz.1]; rfl
      have hb2 : (l == [48]) = false := by rw [beq_eq_false_iff_ne]; exact hz.2
      clear hz h0 hi0
      go_enter Tryz.func32, Tryz.ntmps32
      go_wp2_with fail
      go_ret2
      exact ⟨by rw [HN.out]; rfl, Below.refl _ _⟩
    · have HZ : Hid (l[0]? = some 48 → l.length = 1) := fun h => by
        rw [List.getElem?_eq_getElem hpos] at h
        by_cases h1 : l = [48]
        · rw [h1]; rfl
        · exact absurd ⟨Option.some.inj h, h1⟩ hz
      have HNE := Lib.hid h0
      clear h0 hi0
      by_cases hz0 : l[0] = 48
      · have hb : ((l[0].toNat : Int) == 48) = true := by rw [hz0]; rfl
        have hb2 : (l == [48]) = true := by
          rw [beq_iff_eq]
          by_cases h1 : l = [48]
          · exact h1
          · exact absurd ⟨hz0, h1⟩ hz
        clear hz hz0
        go_enter Tryz.func32, Tryz.ntmps32
        go_wp2_with fail
        have HW1 : Hid (w.iter (S l) 0 = w.alloc (.stringIter (S l) 0)) := rfl
        have HS : Hid ((S l).size = l.length) := S_size l
        have HSB : Hid (∀ k (h : k < (S l).size), (S l)[k] = l[k]'(by rw [← S_size]; exact h)) := fun k h => rfl
        go_loopw [6, 7] (fun n m wr => ∃ (k x : Nat) (many : Bool), k ≤ l.length ∧ n = .int .u64 (x : Int) ∧ m = .bool many ∧ St l most k x many ∧ wr.heap[w.heap.size]? = some (.stringIter (S l) k) ∧ Below w.heap.size w wr) (fun _ _ wr => l.length - wr.iterPos w.heap.size)
        case atStart => exact ⟨0, 0, false, by omega, rfl, rfl, ⟨fun c hc => by simp at hc, by omega, fun _ => rfl, fun h => (by cases h)⟩, World.iter_heap _ _ _, by rw [HW1.out]; exact Below.allocs _ _⟩
        case round =>
          obtain ⟨k, x, many, hk, rfl, rfl, hst, hit, hbw⟩ := hrel
          have HST := Lib.hid hst
          have HIT := Lib.hid hit
          have HBW := Lib.hid hbw
          have hxm := hst.le
          clear hst hit hbw
          by_cases hlt : k < l.length
          · obtain ⟨D, Wd, hnx, hD1, hD2⟩ := next_rune wr _ (S l) k HIT.out (by rw [HS.out]; exact hlt)
            have HIT1 := Lib.hid (Lib.iterAt_heap wr _ (S l) k (k + Wd) HIT.out)
            have HB2 := Lib.hid (Lib.below_iterAt HBW.out (Nat.le_refl _) (S l) (k + Wd))
            rw [HSB.out] at hD2
            have HD2 := Lib.hid hD2
            clear hD2
            by_cases hdg : 48 ≤ D ∧ D ≤ 57
            · obtain ⟨h48, h57⟩ := hdg
              obtain ⟨hDk, rfl⟩ : D = (l[k]'hlt).toNat ∧ Wd = 1 := by
                rcases HD2.out with h | h
                · exact h.2
                · omega
              have HDK := Lib.hid hDk
              have HID : Hid (isD (l[k]'hlt)) := ⟨by omega, by omega⟩
              have b1 : decide ((D : Int) < 48) = false := decide_eq_false (by omega)
              have b2 : decide ((57 : Int) < (D : Int)) = false := decide_eq_false (by omega)
              obtain ⟨d, rfl⟩ : ∃ d, D = 48 + d := ⟨D - 48, by omega⟩
              clear hDk
              cases many with
              | true =>
                have HN := Lib.hid (HST.out.over hlt HID.out (.inl rfl))
                go_wp2_with fail
                go_roundw
                case rel => exact ⟨k + 1, x, true, by omega, rfl, rfl, HN.out, HIT1.out, HB2.out⟩
                case measure => simp [World.iterPos, HIT.out, HIT1.out]; omega
              | false =>
                by_cases hmd : most < d
                · have HN := Lib.hid (HST.out.over hlt HID.out (.inr (by rw [← HDK.out]; omega)))
                  go_wp2_with fail
                  all_goals
                    go_roundw
                    case rel => exact ⟨k + 1, x, true, by omega, rfl, rfl, HN.out, HIT1.out, HB2.out⟩
                    case measure => simp [World.iterPos, HIT.out, HIT1.out]; omega
                · by_cases hov : most < 10 * x + d
                  · have HN := Lib.hid (HST.out.over hlt HID.out (.inr (by rw [← HDK.out]; omega)))
                    go_wp2_with fail
                    go_roundw
                    case rel => exact ⟨k + 1, x, true, by omega, rfl, rfl, HN.out, HIT1.out, HB2.out⟩
                    case measure => simp [World.iterPos, HIT.out, HIT1.out]; omega
                  · have HN := Lib.hid (HST.out.next hlt HID.out (by rw [← HDK.out]; omega))
                    go_wp2_with fail
                    go_roundw
                    case rel => exact ⟨k + 1, _, false, by omega, by rw [← HDK.out]; go_num, rfl, HN.out, HIT1.out, HB2.out⟩
                    case measure => simp [World.iterPos, HIT.out, HIT1.out]; omega
            · have HBAD : Hid (¬ Nice l) := fun h => by
                have h1 := h.2.1 (l[k]'hlt) (List.getElem_mem _)
                unfold isD at h1
                rcases HD2.out with h2 | h2
                · omega
                · omega
              have HN := Lib.hid (numOf_bad HBAD.out most)
              by_cases h48 : D < 48
              · have b1 : decide ((D : Int) < 48) = true := decide_eq_true (by omega)
                clear hdg
                go_wp2_with fail
                go_ret2
                exact ⟨by rw [HN.out]; rfl, HB2.out⟩
              · have b1 : decide ((D : Int) < 48) = false := decide_eq_false (by omega)
                have b2 : decide ((57 : Int) < (D : Int)) = true := decide_eq_true (by omega)
                clear hdg
                go_wp2_with fail
                go_ret2
                exact ⟨by rw [HN.out]; rfl, HB2.out⟩
          · obtain rfl : k = l.length := by omega
            have hnd : ∀ ty, (Instr.next (.pointer (some ⟨w.heap.size, 0, none⟩)) true ty).run Tryz.prog wr = .ok (.tuple #[.bool false]) wr := fun ty => Lib.run_next_end_at wr _ (S l) _ ty HIT.out (by rw [HS.out]; omega)
            have HNI : Hid (Nice l) := ⟨HNE.out, fun c hc => HST.out.digs c (by rw [List.take_length]; exact hc), HZ.out⟩
            cases many with
            | true =>
              have HN := Lib.hid (numOf_many HNI.out (by have := HST.out.big rfl; rwa [List.take_length] at this))
              go_wp2_with fail
              go_ret2
              exact ⟨by rw [HN.out]; rfl, HBW.out⟩
            | false =>
              have HSM : Hid (x = val l) := by have := HST.out.small rfl; rwa [List.take_length] at this
              have HN := Lib.hid (numOf_ok HNI.out (by rw [← HSM.out]; exact hxm))
              go_wp2_with fail
              go_ret2
              exact ⟨by rw [HN.out, HSM.out]; rfl, HBW.out⟩
      · have hb : ((l[0].toNat : Int) == 48) = false := by
          rw [beq_eq_false_iff_ne]; intro e
          exact hz0 (UInt8.toNat_inj.1 (by have h0 : (48 : UInt8).toNat = 48 := rfl; omega))
        clear hz hz0
        go_enter Tryz.func32, Tryz.ntmps32
        go_wp2_with fail
        have HW1 : Hid (w.iter (S l) 0 = w.alloc (.stringIter (S l) 0)) := rfl
        have HS : Hid ((S l).size = l.length) := S_size l
        have HSB : Hid (∀ k (h : k < (S l).size), (S l)[k] = l[k]'(by rw [← S_size]; exact h)) := fun k h => rfl
        go_loopw [6, 7] (fun n m wr => ∃ (k x : Nat) (many : Bool), k ≤ l.length ∧ n = .int .u64 (x : Int) ∧ m = .bool many ∧ St l most k x many ∧ wr.heap[w.heap.size]? = some (.stringIter (S l) k) ∧ Below w.heap.size w wr) (fun _ _ wr => l.length - wr.iterPos w.heap.size)
        case atStart => exact ⟨0, 0, false, by omega, rfl, rfl, ⟨fun c hc => by simp at hc, by omega, fun _ => rfl, fun h => (by cases h)⟩, World.iter_heap _ _ _, by rw [HW1.out]; exact Below.allocs _ _⟩
        case round =>
          obtain ⟨k, x, many, hk, rfl, rfl, hst, hit, hbw⟩ := hrel
          have HST := Lib.hid hst
          have HIT := Lib.hid hit
          have HBW := Lib.hid hbw
          have hxm := hst.le
          clear hst hit hbw
          by_cases hlt : k < l.length
          · obtain ⟨D, Wd, hnx, hD1, hD2⟩ := next_rune wr _ (S l) k HIT.out (by rw [HS.out]; exact hlt)
            have HIT1 := Lib.hid (Lib.iterAt_heap wr _ (S l) k (k + Wd) HIT.out)
            have HB2 := Lib.hid (Lib.below_iterAt HBW.out (Nat.le_refl _) (S l) (k + Wd))
            rw [HSB.out] at hD2
            have HD2 := Lib.hid hD2
            clear hD2
            by_cases hdg : 48 ≤ D ∧ D ≤ 57
            · obtain ⟨h48, h57⟩ := hdg
              obtain ⟨hDk, rfl⟩ : D = (l[k]'hlt).toNat ∧ Wd = 1 := by
                rcases HD2.out with h | h
                · exact h.2
                · omega
              have HDK := Lib.hid hDk
              have HID : Hid (isD (l[k]'hlt)) := ⟨by omega, by omega⟩
              have b1 : decide ((D : Int) < 48) = false := decide_eq_false (by omega)
              have b2 : decide ((57 : Int) < (D : Int)) = false := decide_eq_false (by omega)
              obtain ⟨d, rfl⟩ : ∃ d, D = 48 + d := ⟨D - 48, by omega⟩
              clear hDk
              cases many with
              | true =>
                have HN := Lib.hid (HST.out.over hlt HID.out (.inl rfl))
                go_wp2_with fail
                go_roundw
                case rel => exact ⟨k + 1, x, true, by omega, rfl, rfl, HN.out, HIT1.out, HB2.out⟩
                case measure => simp [World.iterPos, HIT.out, HIT1.out]; omega
              | false =>
                by_cases hmd : most < d
                · have HN := Lib.hid (HST.out.over hlt HID.out (.inr (by rw [← HDK.out]; omega)))
                  go_wp2_with fail
                  all_goals
                    go_roundw
                    case rel => exact ⟨k + 1, x, true, by omega, rfl, rfl, HN.out, HIT1.out, HB2.out⟩
                    case measure => simp [World.iterPos, HIT.out, HIT1.out]; omega
                · by_cases hov : most < 10 * x + d
                  · have HN := Lib.hid (HST.out.over hlt HID.out (.inr (by rw [← HDK.out]; omega)))
                    go_wp2_with fail
                    go_roundw
                    case rel => exact ⟨k + 1, x, true, by omega, rfl, rfl, HN.out, HIT1.out, HB2.out⟩
                    case measure => simp [World.iterPos, HIT.out, HIT1.out]; omega
                  · have HN := Lib.hid (HST.out.next hlt HID.out (by rw [← HDK.out]; omega))
                    go_wp2_with fail
                    go_roundw
                    case rel => exact ⟨k + 1, _, false, by omega, by rw [← HDK.out]; go_num, rfl, HN.out, HIT1.out, HB2.out⟩
                    case measure => simp [World.iterPos, HIT.out, HIT1.out]; omega
            · have HBAD : Hid (¬ Nice l) := fun h => by
                have h1 := h.2.1 (l[k]'hlt) (List.getElem_mem _)
                unfold isD at h1
                rcases HD2.out with h2 | h2
                · omega
                · omega
              have HN := Lib.hid (numOf_bad HBAD.out most)
              by_cases h48 : D < 48
              · have b1 : decide ((D : Int) < 48) = true := decide_eq_true (by omega)
                clear hdg
                go_wp2_with fail
                go_ret2
                exact ⟨by rw [HN.out]; rfl, HB2.out⟩
              · have b1 : decide ((D : Int) < 48) = false := decide_eq_false (by omega)
                have b2 : decide ((57 : Int) < (D : Int)) = true := decide_eq_true (by omega)
                clear hdg
                go_wp2_with fail
                go_ret2
                exact ⟨by rw [HN.out]; rfl, HB2.out⟩
          · obtain rfl : k = l.length := by omega
            have hnd : ∀ ty, (Instr.next (.pointer (some ⟨w.heap.size, 0, none⟩)) true ty).run Tryz.prog wr = .ok (.tuple #[.bool false]) wr := fun ty => Lib.run_next_end_at wr _ (S l) _ ty HIT.out (by rw [HS.out]; omega)
            have HNI : Hid (Nice l) := ⟨HNE.out, fun c hc => HST.out.digs c (by rw [List.take_length]; exact hc), HZ.out⟩
            cases many with
            | true =>
              have HN := Lib.hid (numOf_many HNI.out (by have := HST.out.big rfl; rwa [List.take_length] at this))
              go_wp2_with fail
              go_ret2
              exact ⟨by rw [HN.out]; rfl, HBW.out⟩
            | false =>
              have HSM : Hid (x = val l) := by have := HST.out.small rfl; rwa [List.take_length] at this
              have HN := Lib.hid (numOf_ok HNI.out (by rw [← HSM.out]; exact hxm))
              go_wp2_with fail
              go_ret2
              exact ⟨by rw [HN.out, HSM.out]; rfl, HBW.out⟩
end Go.Proofs.YtmphajilnkgcaaaGreatDoor.HexW

namespace Go.Proofs.YtmphajilnkgcaaaGreatDoor.Rpl
open Go.Mir Go.Mir.Hx HexW
open Go.Lib (join joinTail splitK count index)

/-! ### words -/
def sp : List UInt8 → List (List UInt8)
  | [] => [[]]
  | c :: r => if c = 32 then [] :: sp r else match sp r with
    | [] => [[c]]
    | h :: t => (c :: h) :: t
theorem sp_ne : ∀ s : List UInt8, sp s ≠ []
  | [] => by simp [sp]
  | c :: r => by
    unfold sp
    split
    · simp
    · split <;> simp
theorem sp_form (s : List UInt8) : ∃ h t, sp s = h :: t := by
  cases hs : sp s with
  | nil => exact absurd hs (sp_ne s)
  | cons h t => exact ⟨h, t, rfl⟩
theorem sp_pos (s : List UInt8) : 1 ≤ (sp s).length := by
  obtain ⟨h, t, e⟩ := sp_form s
  rw [e]; simp
theorem sp_blank (r : List UInt8) : sp (32 :: r) = [] :: sp r := by rw [sp]; rfl
theorem sp_sign {c : UInt8} (hc : ¬ c = 32) {r : List UInt8} {h : List UInt8} {t : List (List UInt8)} (e : sp r = h :: t) : sp (c :: r) = (c :: h) :: t := by
  rw [sp, if_neg hc, e]
/-- one sign more at the last word -/
def app1 (ws : List (List UInt8)) (c : UInt8) : List (List UInt8) := ws.set (ws.length - 1) ((ws[ws.length - 1]?.getD []) ++ [c])
theorem app1_cons (h : List UInt8) {t : List (List UInt8)} (ht : t ≠ []) (c : UInt8) : app1 (h :: t) c = h :: app1 t c := by
  cases t with
  | nil => exact absurd rfl ht
  | cons y t => simp [app1]
theorem app1_length (ws : List (List UInt8)) (c : UInt8) : (app1 ws c).length = ws.length := by simp [app1]
theorem sp_snoc (c : UInt8) : ∀ l : List UInt8, sp (l ++ [c]) = if c = 32 then sp l ++ [[]] else app1 (sp l) c
  | [] => by
    by_cases hc : c = 32
    · subst hc; rfl
    · rw [if_neg hc, List.nil_append, sp_sign hc (show sp [] = [] :: [] from rfl)]; rfl
  | x :: r => by
    have ih := sp_snoc c r
    obtain ⟨h, t, e⟩ := sp_form r
    rw [List.cons_append]
    by_cases hx : x = 32
    · subst hx
      rw [sp_blank, sp_blank, ih]
      split
      · rfl
      · rw [app1_cons _ (sp_ne r)]
    · rw [sp_sign hx e]
      rw [e] at ih
      by_cases hc : c = 32
      · rw [if_pos hc] at ih ⊢
        rw [sp_sign hx ih]; rfl
      · rw [if_neg hc] at ih ⊢
        cases t with
        | nil =>
          have e2 : app1 [h] c = [h ++ [c]] := rfl
          rw [e2] at ih
          rw [sp_sign hx ih]; rfl
        | cons y t =>
          rw [app1_cons h (t := y :: t) (by simp) c] at ih
          rw [sp_sign hx ih, app1_cons (x :: h) (t := y :: t) (by simp) c]
theorem join_sp : ∀ s : List UInt8, join (sp s) [32] = s
  | [] => rfl
  | c :: r => by
    have ih := join_sp r
    obtain ⟨h, t, e⟩ := sp_form r
    by_cases hc : c = 32
    · subst hc
      rw [sp_blank, Go.Lib.join_cons, e]
      rw [e, Go.Lib.join_cons] at ih
      simp only [joinTail, List.map_cons, List.flatten_cons, List.nil_append, List.append_assoc] at ih ⊢
      rw [ih]; rfl
    · rw [sp_sign hc e, Go.Lib.join_cons]
      rw [e, Go.Lib.join_cons] at ih
      rw [List.cons_append, ih]
theorem sp_app : ∀ (x : List UInt8), (32 : UInt8) ∉ x → ∀ z, sp (x ++ 32 :: z) = x :: sp z
  | [], _, z => by rw [List.nil_append, sp_blank]
  | c :: r, h, z => by
    rw [List.cons_append, sp_sign (fun e => h (by rw [e]; exact List.mem_cons_self)) (sp_app r (fun hm => h (List.mem_cons_of_mem _ hm)) z)]
theorem sp_one : ∀ (x : List UInt8), (32 : UInt8) ∉ x → sp x = [x]
  | [], _ => rfl
  | c :: r, h => sp_sign (fun e => h (by rw [e]; exact List.mem_cons_self)) (sp_one r (fun hm => h (List.mem_cons_of_mem _ hm)))
theorem sp_join : ∀ (ws : List (List UInt8)), ws ≠ [] → (∀ x ∈ ws, (32 : UInt8) ∉ x) → sp (join ws [32]) = ws
  | [], h, _ => absurd rfl h
  | [x], _, h => by rw [Go.Lib.join_one]; exact sp_one x (h x (by simp))
  | x :: y :: r, _, h => by
    have ih := sp_join (y :: r) (by simp) (fun z hz => h z (List.mem_cons_of_mem _ hz))
    rw [Go.Lib.join_cons] at ih
    have e : join (x :: y :: r) [32] = x ++ 32 :: (y ++ joinTail [32] r) := by
      rw [Go.Lib.join_cons]
      simp [joinTail]
    rw [e, sp_app x (h x (by simp)), ih]
theorem split_sp : ∀ s : List UInt8, splitK [32] 0 (count s [32]) s = sp s
  | [] => by rw [Go.Lib.count_one]; rfl
  | c :: r => by
    have ih := split_sp r
    by_cases hc : c = 32
    · subst hc
      have hix : index (32 :: r) [32] = ((0 : Nat) : Int) := by rw [index]; simp [List.isPrefixOf]
      rw [Go.Lib.count_cons_eq, Nat.add_comm 1, splitK, hix, sp_blank, ← ih]
      rfl
    · have hp : ([32] : List UInt8).isPrefixOf (c :: r) = false := by simp [List.isPrefixOf, Ne.symm hc]
      have hix : index (c :: r) [32] = if index r [32] == -1 then -1 else index r [32] + 1 := by rw [index, hp]; simp
      rw [Go.Lib.count_cons_ne c 32 r hc]
      cases hk : count r [32] with
      | zero =>
        rw [hk] at ih
        rw [sp_sign hc (show sp r = r :: [] from ih.symm)]
        rfl
      | succ k =>
        rw [hk] at ih
        by_cases hm : index r [32] = -1
        · have := Go.Lib.count_miss hm
          omega
        · have hge := Go.Lib.index_ge r [32]
          obtain ⟨j, hj⟩ : ∃ j : Nat, index r [32] = j := ⟨(index r [32]).toNat, by omega⟩
          have hix' : index (c :: r) [32] = ((j + 1 : Nat) : Int) := by rw [hix, if_neg (fun e => hm (beq_iff_eq.1 e)), hj]; omega
          have n1 : ¬ (((j + 1 : Nat) : Int) == -1) = true := fun e => by have := beq_iff_eq.1 e; omega
          have n2 : ¬ (((j : Nat) : Int) == -1) = true := fun e => by have := beq_iff_eq.1 e; omega
          rw [splitK, hj, if_neg n2] at ih
          rw [sp_sign hc ih.symm, splitK, hix', if_neg n1]
          rfl
theorem sp_len : ∀ (s : List UInt8), ∀ x ∈ sp s, x.length ≤ s.length
  | [], x, hx => by
    have hx : x ∈ [([] : List UInt8)] := hx
    rw [List.mem_singleton] at hx
    rw [hx]; exact Nat.le_refl _
  | c :: r, x, hx => by
    have ih := sp_len r
    obtain ⟨h, t, e⟩ := sp_form r
    by_cases hc : c = 32
    · subst hc
      rw [sp_blank] at hx
      rcases List.mem_cons.1 hx with rfl | hx
      · exact Nat.zero_le _
      · have := ih x hx
        rw [List.length_cons]; omega
    · rw [sp_sign hc e] at hx
      rw [e] at ih
      rcases List.mem_cons.1 hx with rfl | hx
      · have := ih h List.mem_cons_self
        rw [List.length_cons, List.length_cons]; omega
      · have := ih x (List.mem_cons_of_mem _ hx)
        rw [List.length_cons]; omega
/-! ### names -/
def E21 : List (List UInt8) := [[111, 107], [97, 114, 103], [115, 104, 111, 114, 116], [108, 111, 110, 103], [102, 111, 114, 109], [110, 111, 110, 101], [116, 119, 105, 99, 101], [110, 105, 108], [115, 101, 97, 108], [115, 117, 109], [115, 116, 97, 116, 101], [104, 97, 108, 116, 101, 100], [115, 101, 115, 115, 105, 111, 110], [101, 120, 112, 105, 114, 101, 100], [115, 101, 113], [113, 117, 111, 116, 97], [109, 97, 110, 121], [100, 105, 115, 107], [100, 111, 119, 110], [112, 97, 114, 101, 110, 116], [100, 101, 101, 112]]
def K7 : List (List UInt8) := [[110, 111, 110, 101], [111, 112, 101, 110], [117, 112, 108, 111, 97, 100], [97, 115, 107], [99, 108, 111, 115, 101], [99, 111, 110, 110, 101, 99, 116], [100, 105, 115, 99, 111, 110, 110, 101, 99, 116]]
def nameB (n : Int) (ls : List (List UInt8)) : List UInt8 := if 0 ≤ n ∧ n < (ls.length : Int) then (ls[n.toNat]?).getD [] else [63]
def ofB (s : List UInt8) : List (List UInt8) → Nat × Bool
  | [] => (0, false)
  | x :: r => if x = s then (0, true) else if (ofB s r).2 = true then ((ofB s r).1 + 1, true) else (0, false)
theorem ofB_hit {s : List UInt8} : ∀ {ls : List (List UInt8)} {i : Nat}, ls[i]? = some s → (∀ j, j < i → ls[j]? ≠ some s) → ofB s ls = (i, true)
  | [], i, h, _ => by simp at h
  | x :: r, 0, h, _ => by
    have h : x = s := by simpa using h
    rw [ofB, if_pos h]
  | x :: r, i + 1, h, hno => by
    have h0 : ¬ x = s := fun e => hno 0 (Nat.succ_pos _) (by rw [e]; rfl)
    have := ofB_hit (ls := r) (i := i) (by simpa using h) (fun j hj => by simpa using hno (j + 1) (Nat.succ_lt_succ hj))
    rw [ofB, if_neg h0, this]
    rfl
theorem ofB_miss {s : List UInt8} : ∀ {ls : List (List UInt8)}, (∀ j : Nat, ls[j]? ≠ some s) → ofB s ls = (0, false)
  | [], _ => rfl
  | x :: r, hno => by
    have h0 : ¬ x = s := fun e => hno 0 (by rw [e]; rfl)
    have := ofB_miss (ls := r) (fun j => by simpa using hno (j + 1))
    rw [ofB, if_neg h0, this]
    rfl
theorem ofB_at {s : List UInt8} : ∀ {ls : List (List UInt8)}, (ofB s ls).2 = true → ls[(ofB s ls).1]? = some s
  | [], h => by cases h
  | x :: r, h => by
    by_cases hx : x = s
    · rw [ofB, if_pos hx, hx]; rfl
    · by_cases hr : (ofB s r).2 = true
      · rw [ofB, if_neg hx, if_pos hr]
        simpa using ofB_at hr
      · rw [ofB, if_neg hx, if_neg hr] at h
        cases h
theorem ofB_lt {s : List UInt8} {ls : List (List UInt8)} (h : (ofB s ls).2 = true) : (ofB s ls).1 < ls.length := (List.getElem?_eq_some_iff.1 (ofB_at h)).1
theorem ofB_zero {s : List UInt8} {ls : List (List UInt8)} (h : ¬ (ofB s ls).2 = true) : ofB s ls = (0, false) := by
  cases ls with
  | nil => rfl
  | cons x r =>
    rw [ofB] at h ⊢
    split at h
    · exact absurd rfl h
    · split at h
      · exact absurd rfl h
      · rename_i h1 h2
        rw [if_neg h1, if_neg h2]
theorem e21_back : ∀ i : Fin 21, ofB (nameB (i.val : Int) E21) E21 = (i.val, true) := by decide
theorem k7_back : ∀ i : Fin 7, ofB (nameB (i.val : Int) K7) K7 = (i.val, true) := by decide
theorem e21_none : ofB [63] E21 = (0, false) := by decide
theorem k7_none : ofB [63] K7 = (0, false) := by decide
theorem e21_no32 : ∀ x ∈ E21, (32 : UInt8) ∉ x := by decide
theorem k7_no32 : ∀ x ∈ K7, (32 : UInt8) ∉ x := by decide
theorem e21_ne63 : ∀ i : Fin 21, nameB (i.val : Int) E21 ≠ [63] := by decide
theorem k7_ne63 : ∀ i : Fin 7, nameB (i.val : Int) K7 ≠ [63] := by decide
theorem name_of {ls : List (List UInt8)} {s : List UInt8} (h : (ofB s ls).2 = true) : nameB ((ofB s ls).1 : Int) ls = s := by
  have h1 := ofB_lt h
  unfold nameB
  rw [if_pos ⟨by omega, by omega⟩, Int.toNat_natCast, ofB_at h]
  rfl
theorem name_out {n : Int} {ls : List (List UInt8)} (h : ¬ (0 ≤ n ∧ n < (ls.length : Int))) : nameB n ls = [63] := if_neg h
theorem name_in {i : Nat} {ls : List (List UInt8)} (h : i < ls.length) : nameB (i : Int) ls = ls[i] := by
  unfold nameB
  rw [if_pos ⟨by omega, by omega⟩, Int.toNat_natCast, List.getElem?_eq_getElem h]
  rfl
/-! ### replies -/
structure RP where
  kind : Int
  err : Int
  se : Nat
  sq : Nat
  qu : Nat
  us : Nat
  ex : Nat
def RP.nums (r : RP) : List Nat := [r.se, r.sq, r.qu, r.us, r.ex]
def RP.zero : RP := ⟨0, 0, 0, 0, 0, 0, 0⟩
def RP.wf (r : RP) : Prop := ∀ n ∈ r.nums, n < 4294967296
def RP.kinds (r : RP) : Prop := 0 ≤ r.kind ∧ r.kind ≤ 6 ∧ 0 ≤ r.err ∧ r.err ≤ 20
def RP.only (r : RP) : Prop := r.err = 0 ∨ (r.se = 0 ∧ r.sq = 0 ∧ r.qu = 0 ∧ r.us = 0 ∧ r.ex = 0)
def RP.right (r : RP) : Prop := r.kinds ∧ r.only
instance (r : RP) : Decidable r.kinds := by unfold RP.kinds; infer_instance
instance (r : RP) : Decidable r.only := by unfold RP.only; infer_instance
instance (r : RP) : Decidable r.right := by unfold RP.right; infer_instance
def words (r : RP) : List (List UInt8) := [nameB r.kind K7, nameB r.err E21] ++ (if r.err = 0 then r.nums.map decL else [])
def lineB (r : RP) : List UInt8 := if r.right then join (words r) [32] else []
/-- the numbers of words, if all are -/
def numsB (ws : List (List UInt8)) : Option (List Nat) := if ∀ x ∈ ws, (numOf x 4294967295).2 = 0 then some (ws.map fun x => (numOf x 4294967295).1) else none
def mkR (k e : Int) (l : List Nat) : RP := ⟨k, e, l.getD 0 0, l.getD 1 0, l.getD 2 0, l.getD 3 0, l.getD 4 0⟩
def finR (k e : Int) : Option (List Nat) → RP × Int
  | some l => (mkR k e l, 0)
  | none => (RP.zero, 4)
structure Fits (ws : List (List UInt8)) : Prop where
  k : (ofB (ws.getD 0 []) K7).2 = true
  two : 2 ≤ ws.length
  e : (ofB (ws.getD 1 []) E21).2 = true
  len : ws.length = (if (ofB (ws.getD 1 []) E21).1 = 0 then 7 else 2)
open Classical in
noncomputable def parseW (ws : List (List UInt8)) : RP × Int :=
  if Fits ws then finR ((ofB (ws.getD 0 []) K7).1 : Int) ((ofB (ws.getD 1 []) E21).1 : Int) (numsB (ws.drop 2)) else (RP.zero, 4)
theorem parse_fits {ws : List (List UInt8)} (h : Fits ws) : parseW ws = finR ((ofB (ws.getD 0 []) K7).1 : Int) ((ofB (ws.getD 1 []) E21).1 : Int) (numsB (ws.drop 2)) := if_pos h
theorem parse_not {ws : List (List UInt8)} (h : ¬ Fits ws) : parseW ws = (RP.zero, 4) := if_neg h
noncomputable def parseB (s : List UInt8) : RP × Int := parseW (sp s)
theorem numOf_dec (n most : Nat) (h : n ≤ most) : numOf (decL n) most = (n, 0) := by
  rw [numOf_ok (dec_nice n) (by rw [val_dec]; exact h), val_dec]
theorem numOf_cases (l : List UInt8) (most : Nat) : (∃ v, numOf l most = (v, 0) ∧ decL v = l ∧ v ≤ most) ∨ ∃ e, numOf l most = (0, e) ∧ (e = 3 ∨ e = 4) := by
  by_cases h : Nice l
  · by_cases hm : most < val l
    · exact .inr ⟨3, numOf_many h hm, .inl rfl⟩
    · exact .inl ⟨val l, numOf_ok h (by omega), dec_val l h, by omega⟩
  · exact .inr ⟨4, numOf_bad h most, .inr rfl⟩
theorem numOf_back {l : List UInt8} {most : Nat} (h : (numOf l most).2 = 0) : decL (numOf l most).1 = l ∧ (numOf l most).1 ≤ most := by
  rcases numOf_cases l most with ⟨v, e, h1, h2⟩ | ⟨x, e, h1⟩
  · rw [e]; exact ⟨h1, h2⟩
  · rw [e] at h
    rcases h1 with rfl | rfl
    · exact absurd h (by decide)
    · exact absurd h (by decide)
theorem dec_no32 (n : Nat) : (32 : UInt8) ∉ decL n := fun h => by
  have := (dec_digits n 32 h).1
  exact absurd this (by decide)
theorem name_no32 (n : Int) (ls : List (List UInt8)) (h : ∀ x ∈ ls, (32 : UInt8) ∉ x) : (32 : UInt8) ∉ nameB n ls := by
  unfold nameB
  split
  · rename_i hn
    have hl : n.toNat < ls.length := by omega
    rw [List.getElem?_eq_getElem hl]
    exact h _ (List.getElem_mem hl)
  · decide
theorem words_no32 (r : RP) : ∀ x ∈ words r, (32 : UInt8) ∉ x := by
  intro x hx
  unfold words at hx
  rw [List.mem_append] at hx
  rcases hx with hx | hx
  · simp only [List.mem_cons, List.not_mem_nil, or_false] at hx
    rcases hx with rfl | rfl
    · exact name_no32 _ _ k7_no32
    · exact name_no32 _ _ e21_no32
  · split at hx
    · obtain ⟨n, _, rfl⟩ := List.mem_map.1 hx
      exact dec_no32 n
    · cases hx
theorem words_ne (r : RP) : words r ≠ [] := by unfold words; simp
theorem nums_dec {l : List Nat} (h : ∀ n ∈ l, n < 4294967296) : numsB (l.map decL) = some l := by
  unfold numsB
  rw [if_pos]
  · rw [List.map_map]
    congr 1
    conv => rhs; rw [← List.map_id l]
    refine List.map_congr_left fun n hn => ?_
    show (numOf (decL n) 4294967295).1 = n
    rw [numOf_dec n _ (by have := h n hn; omega)]
  · intro x hx
    obtain ⟨n, hn, rfl⟩ := List.mem_map.1 hx
    rw [numOf_dec n _ (by have := h n hn; omega)]
theorem kind_back {n : Int} (h : 0 ≤ n ∧ n ≤ 6) : ofB (nameB n K7) K7 = (n.toNat, true) := by
  have := k7_back ⟨n.toNat, by omega⟩
  have e : ((n.toNat : Nat) : Int) = n := by omega
  rw [show ((⟨n.toNat, by omega⟩ : Fin 7).val : Int) = n from e] at this
  exact this
theorem err_back {n : Int} (h : 0 ≤ n ∧ n ≤ 20) : ofB (nameB n E21) E21 = (n.toNat, true) := by
  have := e21_back ⟨n.toNat, by omega⟩
  have e : ((n.toNat : Nat) : Int) = n := by omega
  rw [show ((⟨n.toNat, by omega⟩ : Fin 21).val : Int) = n from e] at this
  exact this
theorem parse_words {r : RP} (h : r.right) (hw : r.wf) : parseW (words r) = (r, 0) := by
  obtain ⟨kind, err, se, sq, qu, us, ex⟩ := r
  obtain ⟨⟨h1, h2, h3, h4⟩, h5⟩ := h
  have h1 : 0 ≤ kind := h1
  have h2 : kind ≤ 6 := h2
  have h3 : 0 ≤ err := h3
  have h4 : err ≤ 20 := h4
  have kb := kind_back ⟨h1, h2⟩
  have eb := err_back ⟨h3, h4⟩
  have e0 : ((kind.toNat : Nat) : Int) = kind := by omega
  have e1 : ((err.toNat : Nat) : Int) = err := by omega
  by_cases h0 : err = 0
  · have e2 : words ⟨kind, err, se, sq, qu, us, ex⟩ = [nameB kind K7, nameB err E21, decL se, decL sq, decL qu, decL us, decL ex] := by
      unfold words
      rw [if_pos h0]; rfl
    have hn : numsB [decL se, decL sq, decL qu, decL us, decL ex] = some [se, sq, qu, us, ex] := nums_dec (l := [se, sq, qu, us, ex]) hw
    have kb1 : (ofB (nameB kind K7) K7).1 = kind.toNat := by rw [kb]
    have eb1 : (ofB (nameB err E21) E21).1 = err.toNat := by rw [eb]
    have hf : Fits [nameB kind K7, nameB err E21, decL se, decL sq, decL qu, decL us, decL ex] := ⟨by show (ofB (nameB kind K7) K7).2 = true; rw [kb], by show 2 ≤ 7; omega, by show (ofB (nameB err E21) E21).2 = true; rw [eb], by show 7 = (if (ofB (nameB err E21) E21).1 = 0 then 7 else 2); rw [eb1, if_pos (by omega)]⟩
    rw [e2, parse_fits hf]
    show finR ((ofB (nameB kind K7) K7).1 : Int) ((ofB (nameB err E21) E21).1 : Int) (numsB [decL se, decL sq, decL qu, decL us, decL ex]) = _
    rw [kb1, eb1, hn, e0, e1]
    rfl
  · have e2 : words ⟨kind, err, se, sq, qu, us, ex⟩ = [nameB kind K7, nameB err E21] := by
      unfold words
      rw [if_neg h0]; rfl
    have hz : se = 0 ∧ sq = 0 ∧ qu = 0 ∧ us = 0 ∧ ex = 0 := h5.resolve_left h0
    obtain ⟨rfl, rfl, rfl, rfl, rfl⟩ := hz
    have kb1 : (ofB (nameB kind K7) K7).1 = kind.toNat := by rw [kb]
    have eb1 : (ofB (nameB err E21) E21).1 = err.toNat := by rw [eb]
    have hf : Fits [nameB kind K7, nameB err E21] := ⟨by show (ofB (nameB kind K7) K7).2 = true; rw [kb], Nat.le_refl _, by show (ofB (nameB err E21) E21).2 = true; rw [eb], by show 2 = (if (ofB (nameB err E21) E21).1 = 0 then 7 else 2); rw [eb1, if_neg (by omega)]⟩
    rw [e2, parse_fits hf]
    show finR ((ofB (nameB kind K7) K7).1 : Int) ((ofB (nameB err E21) E21).1 : Int) (numsB []) = _
    rw [kb1, eb1, e0, e1, show numsB [] = some [] from nums_dec (l := []) (fun _ h => nomatch h)]
    rfl
theorem parse_line {r : RP} (h : r.right) (hw : r.wf) : parseB (lineB r) = (r, 0) := by
  unfold parseB lineB
  rw [if_pos h, sp_join _ (words_ne r) (words_no32 r)]
  exact parse_words h hw
theorem nums_back {ws : List (List UInt8)} {l : List Nat} (h : numsB ws = some l) : l.map decL = ws ∧ (∀ n ∈ l, n < 4294967296) ∧ l.length = ws.length := by
  unfold numsB at h
  split at h
  · rename_i hx
    have h := (Option.some.inj h).symm
    subst h
    refine ⟨?_, fun n hn => ?_, by rw [List.length_map]⟩
    · rw [List.map_map]
      conv => rhs; rw [← List.map_id ws]
      exact List.map_congr_left fun x hm => (numOf_back (hx x hm)).1
    · obtain ⟨x, hm, rfl⟩ := List.mem_map.1 hn
      have := (numOf_back (hx x hm)).2
      omega
  · cases h
theorem parse_back {ws : List (List UInt8)} {r : RP} (h : parseW ws = (r, 0)) : words r = ws ∧ r.right ∧ r.wf := by
  by_cases hc : Fits ws
  · rw [parse_fits hc] at h
    obtain ⟨c1, c2, c3, c4⟩ := hc
    cases hl : numsB (ws.drop 2) with
    | some l =>
      rw [hl] at h
      obtain ⟨g1, g2, g3⟩ := nums_back hl
      have h := (Prod.mk.inj h).1
      have n1 := name_of c1
      have n2 := name_of c3
      have l1 := ofB_lt c1
      have l2 := ofB_lt c3
      clear hl c1 c3
      generalize (ofB (ws.getD 0 []) K7).1 = k at *
      generalize (ofB (ws.getD 1 []) E21).1 = e at *
      have l1 : k < 7 := l1
      have l2 : e < 21 := l2
      match ws, c2 with
      | a :: b :: r2, _ =>
        have n1 : nameB (k : Int) K7 = a := n1
        have n2 : nameB (e : Int) E21 = b := n2
        have g1 : l.map decL = r2 := g1
        have g3 : l.length = r2.length := g3
        have c4 : r2.length + 1 + 1 = if e = 0 then 7 else 2 := c4
        subst h
        by_cases he : e = 0
        · rw [if_pos he] at c4
          obtain ⟨x1, x2, x3, x4, x5, rfl⟩ : ∃ x1 x2 x3 x4 x5, l = [x1, x2, x3, x4, x5] := by
            have hl5 : l.length = 5 := by omega
            match l, hl5 with
            | [x1, x2, x3, x4, x5], _ => exact ⟨x1, x2, x3, x4, x5, rfl⟩
          refine ⟨?_, ⟨⟨by show (0 : Int) ≤ (k : Int); omega, by show (k : Int) ≤ 6; omega, by show (0 : Int) ≤ (e : Int); omega, by show (e : Int) ≤ 20; omega⟩, .inl (by show (e : Int) = 0; omega)⟩, g2⟩
          show [nameB (k : Int) K7, nameB (e : Int) E21] ++ (if (e : Int) = 0 then [x1, x2, x3, x4, x5].map decL else []) = _
          rw [if_pos (by omega), n1, n2, g1]; rfl
        · rw [if_neg he] at c4
          have hl0 : l = [] := List.length_eq_zero_iff.1 (by omega)
          subst hl0
          refine ⟨?_, ⟨⟨by show (0 : Int) ≤ (k : Int); omega, by show (k : Int) ≤ 6; omega, by show (0 : Int) ≤ (e : Int); omega, by show (e : Int) ≤ 20; omega⟩, .inr ⟨rfl, rfl, rfl, rfl, rfl⟩⟩, fun n hn => ?_⟩
          · show [nameB (k : Int) K7, nameB (e : Int) E21] ++ (if (e : Int) = 0 then _ else []) = _
            rw [if_neg (by omega), n1, n2, ← g1]; rfl
          · have hn : n ∈ [0, 0, 0, 0, 0] := hn
            simp at hn
            omega
    | none =>
      rw [hl] at h
      exact absurd (show (4 : Int) = 0 from (Prod.mk.inj h).2) (by decide)
  · rw [parse_not hc] at h
    exact absurd (show (4 : Int) = 0 from (Prod.mk.inj h).2) (by decide)
theorem line_parse {s : List UInt8} {r : RP} (h : parseB s = (r, 0)) : lineB r = s ∧ r.right ∧ r.wf := by
  obtain ⟨h1, h2, h3⟩ := parse_back h
  refine ⟨?_, h2, h3⟩
  unfold lineB
  rw [if_pos h2, h1]
  exact join_sp s
theorem parse_bad (s : List UInt8) : (parseB s).2 = 0 ∨ parseB s = (RP.zero, 4) := by
  unfold parseB
  by_cases hc : Fits (sp s)
  · rw [parse_fits hc]
    cases numsB ((sp s).drop 2) with
    | some l => exact .inl rfl
    | none => exact .inr rfl
  · exact .inr (parse_not hc)
end Go.Proofs.YtmphajilnkgcaaaGreatDoor.Rpl

namespace Go.Mir
open Go.RowKit

/-! ### an id -/
def idA (x : List UInt8) : Array Value := (bytesV x).toArray
theorem idA_toList (x : List UInt8) : (idA x).toList = bytesV x := by simp [idA]
theorem idA_size (x : List UInt8) : (idA x).size = x.length := by rw [← Array.length_toList, idA_toList, bytesV_length]
theorem idA_one (x : List UInt8) : (idA x).all (·.oneCell') = true := by
  have := all_oneCell_toArray (bytesV_one x)
  rw [← idA_toList, Array.toArray_toList] at this; exact this
theorem idA_arr (x : List UInt8) : (x.map (fun b : UInt8 => Value.int .u8 (b.toNat : Int))).toArray = idA x := rfl
theorem run_equal_ids {P : Program} (w : World) (d : Nat) {t e : TypeId} {n : Nat} (hu : P.underlying t = some (.array n e)) (he : P.underlying e = some (.int .u8)) (hi : (P.info? e).isSome = true) (hc : P.cellsOf e = 1) (hp : P.plainKey e = true) (a b : List UInt8) (ha : a.length = n) (hb : b.length = n) :
    (Op.equalIn (d + 2) t (.agg (idA a)) (.agg (idA b))).run P w = .ok (a == b) w :=
  run_equal_bytes w d hu he (Option.isSome_iff_exists.1 hi) hc hp a b ha hb
/-- a row of its own, and parts of it -/
theorem range_row {w : World} {b : Nat} {M : Array Value} {t : TypeId} {fr : Nat × Nat} (h : w.heap[b]? = some (.cells M t fr)) (A B C : List Value) (hM : M.toList = A ++ B ++ C) : w.rangeAt b A.length B := fun j v hv => by
  have hj := (List.getElem?_eq_some_iff.1 hv).1
  rw [cell_of_row _ _ _ _ _ _ h, ← Array.getElem?_toList, hM, List.getElem?_append_left (by rw [List.length_append]; omega), List.getElem?_append_right (by omega), Nat.add_sub_cancel_left]; exact hv
/-- a value copied into a new block -/
def boxAt (w : World) (Z X : Array Value) (t : TypeId) : World := (w.alloc (.cells Z t)).setRow w.heap.size X
theorem box_new (w : World) (Z : Array Value) (t : TypeId) : (w.alloc (.cells Z t)).heap[w.heap.size]? = some (.cells Z t (0, 0)) := heap_alloc_last _ _
theorem box_row (w : World) (Z X : Array Value) (t : TypeId) : ((w.alloc (.cells Z t)).setRow w.heap.size X).heap[w.heap.size]? = some (.cells X t (0, 0)) := setRow_heap _ _ _ _ _ _ (box_new w Z t)
theorem box_below (w : World) (Z X : Array Value) (t : TypeId) : Below w.heap.size w ((w.alloc (.cells Z t)).setRow w.heap.size X) := below_setRow (Below.allocs _ _) (Nat.le_refl _) _
theorem box_size (w : World) (Z X : Array Value) (t : TypeId) : ((w.alloc (.cells Z t)).setRow w.heap.size X).heap.size = w.heap.size + 1 := by simp [World.setRow]

theorem two_allocs (w : World) (o o2 : Obj) : ((w.alloc o).alloc o2).heap[w.heap.size]? = some o ∧ ((w.alloc o).alloc o2).heap[w.heap.size + 1]? = some o2 ∧ ((w.alloc o).alloc o2).heap.size = w.heap.size + 2 ∧ Below w.heap.size w ((w.alloc o).alloc o2) := by
  refine ⟨block_old _ (heap_alloc_last _ _), ?_, by simp, (Below.allocs _ _).alloc (by simp) _⟩
  have := heap_alloc_last (w.alloc o) o2
  simpa using this

/-! ### a literal of one aggregate -/
theorem fold_put (off : Nat) : ∀ (L : List Value) (s : Nat) (A : Array Value), off + s + L.length ≤ A.size →
    ((L.zipIdx s).foldl (fun cs (x : Value × Nat) => cs.setIfInBounds (off + x.2) x.1) A).size = A.size ∧ ∀ i, ((L.zipIdx s).foldl (fun cs (x : Value × Nat) => cs.setIfInBounds (off + x.2) x.1) A)[i]? = if off + s ≤ i ∧ i < off + s + L.length then L[i - (off + s)]? else A[i]?
  | [], s, A, _ => ⟨rfl, fun i => by rw [if_neg (by simp <;> omega)]; rfl⟩
  | v :: L, s, A, h => by
    simp only [List.length_cons] at h
    obtain ⟨h1, h2⟩ := fold_put off L (s + 1) (A.setIfInBounds (off + s) v) (by simp; omega)
    rw [List.zipIdx_cons, List.foldl_cons]
    refine ⟨by rw [h1]; simp, fun i => ?_⟩
    rw [h2 i, Array.getElem?_setIfInBounds]
    by_cases hi : off + (s + 1) ≤ i ∧ i < off + (s + 1) + L.length
    · rw [if_pos hi, if_pos (by simp; omega), show i - (off + s) = (i - (off + (s + 1))) + 1 by omega, List.getElem?_cons_succ]
    · rw [if_neg hi]
      by_cases ho : off + s = i
      · subst ho
        rw [if_pos rfl, if_pos (by omega), if_pos (by simp)]; simp
      · rw [if_neg ho, if_neg (by simp; omega)]
theorem fill_one (Z M : Array Value) (size : Nat) (hZ : Z.size = size) (hM : M.size = size) : Instr.fill (fun i => some (i * size, size)) Z [(0, .agg M)] = some M := by
  have hc : (Value.agg M).cells = M := rfl
  simp only [Instr.fill, hc]
  rw [if_neg (by simp [hM, hZ])]
  simp only [Option.some.injEq, Nat.zero_mul]
  rw [← Array.foldl_toList, Array.toList_zipIdx]
  obtain ⟨h1, h2⟩ := fold_put 0 M.toList 0 Z (by simp; omega)
  apply Array.ext_getElem?
  intro i
  rw [h2 i]
  by_cases hi : i < M.size
  · rw [if_pos (by simp; omega)]; simp
  · rw [if_neg (by simp; omega), Array.getElem?_eq_none (by omega), Array.getElem?_eq_none (by omega)]
theorem wpList_buildOne {P : Program} {ops : Array Oper} {rest : List Oper} {o : Oper} {a : Act} {w : World} {Q : Exit → Act → World → Prop} (hg : o.guard = none) (t e : TypeId) (x : Operand) (ho : o.op = .buildSlice t 1 #[(0, x)])
    (M : Array Value) (hx : a.eval x = .agg M) (size : Nat) (hu : P.underlying t = some (.slice e)) (hie : (P.info? e).map (fun i => (i.zero.isSome, i.size)) = some (true, size)) (hsm : size ≤ 16777216) (hpos : 0 < size) (hM : M.size = size)
    (h : wpList P ops Q rest (a.put o.dst (.slice (some ⟨w.heap.size, 0, none⟩) 1 1)) (w.alloc (.cells M e))) : wpList P ops Q (o :: rest) a w := by
  obtain ⟨ie, hi, he⟩ := Option.map_eq_some_iff.1 hie
  obtain ⟨hz, rfl⟩ := Prod.mk.inj he
  obtain ⟨z, hz⟩ := Option.isSome_iff_exists.1 hz
  refine wpList_buildSlice hg t e 1 #[(0, x)] ho M ie z hu hi hz (by rw [Nat.one_mul]; omega) (by omega) ?_ h
  have : (#[(0, x)].map fun (p : Nat × Operand) => (p.1, a.eval p.2)).toList = [(0, .agg M)] := by simp [hx]
  rw [this]
  exact fill_one _ M _ (by simp) hM

/-- is it the operation that fills this slot? the store into what this slot holds? (guards for an arm, cheap) -/
theorem wpAt {P : Program} {ops : Array Oper} {rest : List Oper} {a : Act} {w : World} {Q : Exit → Act → World → Prop} (n : Nat) {op : Op} {t : TypeId} {p : String} {af : Array Edge} {g : Option (Nat × Bool)} (h : wpList P ops Q (⟨some n, op, t, p, af, g⟩ :: rest) a w) : wpList P ops Q (⟨some n, op, t, p, af, g⟩ :: rest) a w := h
theorem wpStoreAt {P : Program} {ops : Array Oper} {rest : List Oper} {a : Act} {w : World} {Q : Exit → Act → World → Prop} (n : Nat) {d : Option Nat} {ty : TypeId} {y : Operand} {t : TypeId} {p : String} {af : Array Edge} {g : Option (Nat × Bool)} (h : wpList P ops Q (⟨d, .store ty (.tmp n) y, t, p, af, g⟩ :: rest) a w) : wpList P ops Q (⟨d, .store ty (.tmp n) y, t, p, af, g⟩ :: rest) a w := h

theorem turns_setRow (w : World) (g : Nat) (cs : Array Value) : Turns (fun i => i = g) w (w.setRow g cs) := ⟨rfl, rfl, rfl, by simp [World.setRow], fun k _ hk => setRow_other w g k cs hk⟩

/-! ### ids, one behind the other -/
theorem Is.range {w : World} {b o n c size : Nat} {ids : List (List UInt8)} (h : Is w (some ⟨b, o, none⟩) n c size ids) (hs : size ≤ 9223372036854775807) (i : Nat) (hi : i < ids.length) : w.rangeAt b (o + i * size) (idA ids[i]).toList := fun j v hv => by
  rw [idA_toList] at hv
  exact (h.one i hi hs).at hv
theorem Is.nil (w : World) (size : Nat) : Is w none 0 0 size [] := ⟨Sl.nil _ _, fun _ h => by simp at h, rfl⟩

/-! ### a block: a hash, a parent, ids -/
structure BlkD where
  hash : List UInt8
  par : List UInt8
  txs : List (List UInt8)
def blkA (h p : List UInt8) (q : Option Addr) (n c : Nat) : Array Value := (bytesV h ++ bytesV p ++ [Value.slice q n c]).toArray
theorem blkA_toList (h p : List UInt8) (q : Option Addr) (n c : Nat) : (blkA h p q n c).toList = bytesV h ++ bytesV p ++ [Value.slice q n c] := by simp [blkA]
/-- a block's value, in a world -/
structure BlkAt (w : World) (M : Array Value) (d : BlkD) (q : Option Addr) (n c : Nat) : Prop where
  arr : M = blkA d.hash d.par q n c
  hlen : d.hash.length = 32
  plen : d.par.length = 32
  ids : Is w q n c 32 d.txs
theorem BlkAt.below {w w' : World} {M : Array Value} {d : BlkD} {q : Option Addr} {n c : Nat} (h : BlkAt w M d q n c) (hb : Below w.heap.size w w') : BlkAt w' M d q n c := ⟨h.arr, h.hlen, h.plen, h.ids.below hb⟩
theorem BlkAt.size {w : World} {M : Array Value} {d : BlkD} {q : Option Addr} {n c : Nat} (h : BlkAt w M d q n c) : M.size = 65 := by
  rw [h.arr, ← Array.length_toList, blkA_toList]; simp [bytesV_length, h.hlen, h.plen]
theorem BlkAt.one {w : World} {M : Array Value} {d : BlkD} {q : Option Addr} {n c : Nat} (h : BlkAt w M d q n c) : M.all (·.oneCell') = true := by
  have := all_oneCell_toArray (cs := M.toList) (fun v hv => by
    rw [h.arr, blkA_toList] at hv
    simp only [List.mem_append, List.mem_singleton] at hv
    rcases hv with (hv | hv) | hv
    · exact bytesV_one _ v hv
    · exact bytesV_one _ v hv
    · rw [hv]; rfl)
  rwa [Array.toArray_toList] at this
/-- its parts, where it lies in a row of its own -/
theorem BlkAt.parts {w wb : World} {M : Array Value} {d : BlkD} {q : Option Addr} {n c : Nat} (h : BlkAt w M d q n c) {b : Nat} {t : TypeId} {fr : Nat × Nat} (hr : wb.heap[b]? = some (.cells M t fr)) :
    wb.rangeAt b 0 (idA d.hash).toList ∧ wb.rangeAt b 32 (idA d.par).toList ∧ wb.cell? ⟨b, 64, none⟩ = some (.slice q n c) := by
  have hM : M.toList = bytesV d.hash ++ bytesV d.par ++ [Value.slice q n c] := by rw [h.arr, blkA_toList]
  refine ⟨?_, ?_, ?_⟩
  · have := range_row hr [] (bytesV d.hash) (bytesV d.par ++ [Value.slice q n c]) (by rw [hM]; simp)
    rw [idA_toList]; exact this
  · have := range_row hr (bytesV d.hash) (bytesV d.par) [Value.slice q n c] hM
    rw [bytesV_length, h.hlen] at this
    rw [idA_toList]; exact this
  · have := range_row hr (bytesV d.hash ++ bytesV d.par) [Value.slice q n c] [] (by rw [hM]; simp)
    rw [List.length_append, bytesV_length, bytesV_length, h.hlen, h.plen] at this
    exact this 0 _ rfl

/-! ### a region that draws its order, whose calls make memory and hand back plain values -/
/-- worlds in which nothing below 'w' has turned -/
def Grown (w : World) : Type := { w' : World // Below w.heap.size w w' }
instance (w : World) : Nonempty (Grown w) := ⟨⟨w, Below.refl _ _⟩⟩
def Grown.v {w : World} (x : Grown w) : World := x.1
theorem Grown.b {w : World} (x : Grown w) : Below w.heap.size w x.v := x.2
theorem wp_region_grow {P : Program} {id : Nat} {Q : Exit → Act → World → Prop} {a : Act} {w : World} {l : List Oper} (hm : P.follows .mixedOrders = true) (hB : Region.lexB .any l.toArray = true)
    (h : wpQuiet P l.toArray (fun w' => ∃ x : Grown w, w' = x.v) (fun a' => ∀ w', Below w.heap.size w w' → Q .normal a' w') l a) : (Code.region id l.toArray true).wp P Q a w := by
  refine wp_region_quiet (C := fun w' => ∃ x : Grown w, w' = x.v) hm hB ⟨⟨w.drew, ⟨rfl, rfl, rfl, Nat.le_refl _, fun _ _ => rfl⟩⟩, rfl⟩ ?_
  have key : (fun a' : Act => ∀ w', Below w.heap.size w w' → Q .normal a' w') = (fun a' => ∀ w', (∃ x : Grown w, w' = x.v) → Q .normal a' w') := by
    funext a'
    apply propext
    exact ⟨fun h w' ⟨x, hx⟩ => h w' (by rw [hx]; exact x.b), fun h w' hb => h w' ⟨⟨w', hb⟩, rfl⟩⟩
  rw [← key]; simpa using h
/-- a callee's contract, met in such a world -/
theorem Calls.grow_of {P : Program} {f : FuncId} {args : Array Value} {w : World} {x : Grown w} {v : Value} (h : Calls P f args x.v fun e w' => e = .returned v ∧ Below x.v.heap.size x.v w') :
    Calls P f args x.v fun e w'' => e = .returned v ∧ ∃ y : Grown w, w'' = y.v :=
  h.mono fun _ w' ⟨he, hb⟩ => ⟨he, ⟨w', x.b.trans (hb.mono x.b.size)⟩, rfl⟩
theorem Calls.grow_same {P : Program} {f : FuncId} {args : Array Value} {w : World} {x : Grown w} {v : Value} (h : Calls P f args x.v fun e w' => e = .returned v ∧ x.v = w') :
    Calls P f args x.v fun e w'' => e = .returned v ∧ ∃ y : Grown w, w'' = y.v :=
  h.mono fun _ _ ⟨he, hb⟩ => ⟨he, x, hb.symm⟩
/-- a whole row loaded -/
theorem wpQuiet_load {P : Program} {ops : Array Oper} {w : World} {Q : Act → Prop} {a : Act} {op : Oper} {rest : List Oper} (hw : Region.wanted op (yielded ops a.tmps) = true) (ty : TypeId) (x : Operand) (ho : op.op = .load ty x)
    (b o : Nat) (hx : a.eval x = .pointer (some ⟨b, o, none⟩)) (M : Array Value) (d : TypeDesc) (hc : ∀ y : Grown w, y.v.rangeAt b o M.toList)
    (hu : P.underlying ty = some d) (hd : d.isRow = true) (hi : (P.info? ty).map (·.size) = some M.size)
    (h : wpQuiet P ops (fun w' => ∃ x : Grown w, w' = x.v) Q rest (a.put op.dst (.agg M))) : wpQuiet P ops (fun w' => ∃ x : Grown w, w' = x.v) Q (op :: rest) a := by
  unfold wpQuiet
  rw [if_pos hw]
  refine ⟨.agg M, fun w' ⟨y, hy⟩ => ?_, h⟩
  subst hy
  unfold Oper.quietAt execOp
  simp only [ho, hx, Instr.loadAt, Instr.sureAddr, Sem.run_bind, Sem.run_pure, Result.andThen_ok, run_loadVar_mid y.v b o ty M.toList d (hc y) hu hd (by simpa using hi)]
  simp [Oper.quietUpon]
theorem wpQuietAt {P : Program} {ops : Array Oper} {C : World → Prop} {Q : Act → Prop} {a : Act} {rest : List Oper} (n : Nat) {op : Op} {t : TypeId} {p : String} {af : Array Edge} {g : Option (Nat × Bool)} (h : wpQuiet P ops C Q (⟨some n, op, t, p, af, g⟩ :: rest) a) : wpQuiet P ops C Q (⟨some n, op, t, p, af, g⟩ :: rest) a := h
theorem wpQuietGd {P : Program} {ops : Array Oper} {C : World → Prop} {Q : Act → Prop} {a : Act} {rest : List Oper} {d : Option Nat} {op : Op} {t : TypeId} {p : String} {af : Array Edge} {g : Nat × Bool} (h : wpQuiet P ops C Q (⟨d, op, t, p, af, some g⟩ :: rest) a) : wpQuiet P ops C Q (⟨d, op, t, p, af, some g⟩ :: rest) a := h
/-- an operation whose guard does not let it by -/
theorem wpQuiet_skip {P : Program} {ops : Array Oper} {C : World → Prop} {Q : Act → Prop} {a : Act} {o : Oper} {rest : List Oper} (hw : Region.wanted o (yielded ops a.tmps) = false) (h : wpQuiet P ops C Q rest (a.put o.dst undef)) : wpQuiet P ops C Q (o :: rest) a := by
  unfold wpQuiet; rw [if_neg (by rw [hw]; exact Bool.false_ne_true)]; exact h
/-- a whole row loaded, ahead of the operations that write -/
theorem wpStill_load {P : Program} {ops : Array Oper} {w : World} {Q : Act → Prop} {a : Act} {op : Oper} {rest : List Oper} (hw : Region.wanted op (yielded ops a.tmps) = true) (ty : TypeId) (x : Operand) (ho : op.op = .load ty x)
    (b o : Nat) (hx : a.eval x = .pointer (some ⟨b, o, none⟩)) (M : Array Value) (d : TypeDesc) (hc : w.rangeAt b o M.toList)
    (hu : P.underlying ty = some d) (hd : d.isRow = true) (hi : (P.info? ty).map (·.size) = some M.size)
    (h : wpStill P ops w Q rest (a.put op.dst (.agg M))) : wpStill P ops w Q (op :: rest) a := by
  unfold wpStill
  rw [if_pos hw]
  unfold Oper.still execOp
  simp only [ho, hx, Instr.loadAt, Instr.sureAddr, Sem.run_bind, Sem.run_pure, Result.andThen_ok, run_loadVar_mid w b o ty M.toList d hc hu hd (by simpa using hi)]
  simpa [Oper.stillUpon] using h
theorem wp_region_tail {P : Program} {id : Nat} {Q : Exit → Act → World → Prop} {a : Act} {w : World} {l : List Oper} (n : Nat) (hm : P.follows .mixedOrders = true) (hB : Region.lexTailB .any l.toArray n = true)
    (h : wpStill P l.toArray w.drew (fun a' => wpList P l.toArray Q (l.drop n) a' w.drew) (l.take n) a) : (Code.region id l.toArray true).wp P Q a w := wp_region_still_tail n hm hB h
theorem below_drew1 (B : Nat) (w : World) : Below B w w.drew := ⟨rfl, rfl, rfl, Nat.le_refl _, fun _ _ => rfl⟩
theorem range_grown {w : World} {b o : Nat} {L : List Value} (h : w.rangeAt b o L) (y : Grown w) : y.v.rangeAt b o L := fun j v hv => by
  have := h j v hv
  rw [y.b.cell (block_lt_of_cell this)]; exact this
theorem cell_grown {w : World} {p : Addr} {v : Value} (h : w.cell? p = some v) (y : Grown w) : y.v.cell? p = some v := by
  rw [y.b.cell (block_lt_of_cell h)]; exact h
end Go.Mir

namespace Go.Mir
open Go.RowKit

/-- the plan is one that any order comes to -/
def planB (ops : Array Oper) : List (Nat × Bool) → Array Bool → Bool
  | [], listed => (Region.ready .any ops listed).isEmpty
  | (i, true) :: r, listed => (ops[i]?).isSome && Region.free .any ops listed i && (Region.ready .any ops listed).contains i && planB ops r (listed.setIfInBounds i true)
  | (i, false) :: r, listed => (ops[i]?).isSome && Region.ready .any ops listed == [i] && planB ops r (listed.setIfInBounds i true)
/-- the operation at a place of the text -/
def nthO : List Oper → Nat → Option Oper
  | [], _ => none
  | o :: _, 0 => some o
  | _ :: l, n + 1 => nthO l n
theorem nthO_eq : ∀ (l : List Oper) (n : Nat), l.toArray[n]? = nthO l n
  | [], n => by simp [nthO]
  | o :: l, 0 => by simp [nthO]
  | o :: l, n + 1 => by
    have := nthO_eq l n
    simpa [nthO] using this
def planOps (l : List Oper) : List (Nat × Bool) → List (Oper × Bool)
  | [] => []
  | (i, b) :: r => match nthO l i with
    | some o => (o, b) :: planOps l r
    | none => planOps l r
def wpEager (P : Program) (ops : Array Oper) (S : World → Prop) (Q : Exit → Act → World → Prop) : List (Oper × Bool) → Act → World → Prop
  | [], a, w => Q .normal a w
  | (o, true) :: r, a, w => ∃ v, YieldsIf P ops S o v a ∧ wpEager P ops S Q r (a.put o.dst v) w
  | (o, false) :: r, a, w => if Region.wanted o (yielded ops a.tmps) then o.wp P a w (fun a' w' => S w' ∧ wpEager P ops S Q r a' w') Q else wpEager P ops S Q r (a.put o.dst undef) w
theorem wpAnyH_eager {P : Program} {l : List Oper} {ops : Array Oper} (hl : l.toArray = ops) {S : World → Prop} {Q : Exit → Act → World → Prop} (hs : Region.noSelect ops = true) (hQ : ∀ c a d v w, Q (.panic c) (a.put d v) w → Q (.panic c) a w) :
    ∀ (π : List (Nat × Bool)) (listed : Array Bool) (a : Act) (w : World), planB ops π listed = true → S w → wpEager P ops S Q (planOps l π) a w → wpAnyH P .any ops Q S π.length listed a w
  | [], listed, a, w, hp, _, h => by
    refine wpAnyH_done ?_ h _
    simpa [planB, List.isEmpty_iff] using hp
  | (i, true) :: r, listed, a, w, hp, hS, h => by
    simp only [planB, Bool.and_eq_true] at hp
    obtain ⟨⟨⟨h1, h2⟩, h3⟩, h4⟩ := hp
    obtain ⟨o, ho⟩ := Option.isSome_iff_exists.1 h1
    have hn : nthO l i = some o := by rw [← nthO_eq, hl]; exact ho
    simp only [planOps, hn, wpEager] at h
    obtain ⟨v, hy, h⟩ := h
    exact wpAnyH_take ho hs h2 h3 (fun c a w => hQ c a _ _ w) hy hS (wpAnyH_eager hl hs hQ r _ _ _ h4 hS h)
  | (i, false) :: r, listed, a, w, hp, hS, h => by
    simp only [planB, Bool.and_eq_true, beq_iff_eq] at hp
    obtain ⟨⟨h1, h2⟩, h4⟩ := hp
    obtain ⟨o, ho⟩ := Option.isSome_iff_exists.1 h1
    have hn : nthO l i = some o := by rw [← nthO_eq, hl]; exact ho
    simp only [planOps, hn, wpEager] at h
    refine wpAnyH_all h2 (by simp) fun j hj => ?_
    rw [List.mem_singleton] at hj
    subst hj
    unfold wpOp
    simp only [ho]
    split at h
    · rename_i hw
      rw [if_pos hw]
      exact .inl (Oper.wp_mono (fun a' w' ⟨h5, h6⟩ => ⟨h5, wpAnyH_eager hl hs hQ r _ _ _ h4 h5 h6⟩) h)
    · rename_i hw
      rw [if_neg hw]
      exact ⟨hS, wpAnyH_eager hl hs hQ r _ _ _ h4 hS h⟩
/-- the beginning -/
theorem wp_region_eager_in {P : Program} {id : Nat} {Q : Exit → Act → World → Prop} {a : Act} {w : World} {l : List Oper} (S : World → Prop) (π : List (Nat × Bool)) (hm : P.follows .mixedOrders = true)
    (hp : (planB l.toArray π (Array.replicate l.length false) && Region.noSelect l.toArray && π.length == l.length) = true) (hS : S w.drew)
    (h : wpEager P l.toArray S (NoPanic Q) (planOps l π) a w.drew) : (Code.region id l.toArray true).wp P Q a w := by
  refine wp_region_noPanic ?_
  simp only [Bool.and_eq_true, beq_iff_eq] at hp
  obtain ⟨⟨h1, h2⟩, h3⟩ := hp
  have := wpAnyH_eager (P := P) (Q := NoPanic Q) (l := l) rfl h2 (fun _ _ _ _ _ h => h) π (Array.replicate l.length false) a w.drew h1 hS h
  refine wp_region_held hm (S := S) ?_
  rw [h3] at this
  have hz : l.toArray.size = l.length := List.size_toArray ..
  rw [hz]
  exact this
theorem wp_region_eager {P : Program} {id : Nat} {Q : Exit → Act → World → Prop} {a : Act} {w : World} {l : List Oper} (π : List (Nat × Bool)) (hm : P.follows .mixedOrders = true)
    (hp : (planB l.toArray π (Array.replicate l.length false) && Region.noSelect l.toArray && π.length == l.length) = true)
    (h : wpEager P l.toArray (Below w.heap.size w) (NoPanic Q) (planOps l π) a w.drew) : (Code.region id l.toArray true).wp P Q a w :=
  wp_region_eager_in (Below w.heap.size w) π hm hp ⟨rfl, rfl, rfl, Nat.le_refl _, fun _ _ => rfl⟩ h
/-- the next operation, written out -/
theorem eagerOpen {P : Program} {ops : Array Oper} {S : World → Prop} {Q : Exit → Act → World → Prop} {l : List Oper} {i : Nat} {b : Bool} {r : List (Nat × Bool)} {a : Act} {w : World} {o : Oper} (ho : nthO l i = some o)
    (h : wpEager P ops S Q ((o, b) :: planOps l r) a w) : wpEager P ops S Q (planOps l ((i, b) :: r)) a w := by
  unfold planOps; rw [ho]; exact h
theorem eagerEnd {P : Program} {ops : Array Oper} {S : World → Prop} {Q : Exit → Act → World → Prop} {l : List Oper} {a : Act} {w : World} (h : Q .normal a w) : wpEager P ops S (NoPanic Q) (planOps l []) a w := h
/-- its steps -/
theorem wpEager_nil {P : Program} {ops : Array Oper} {S : World → Prop} {Q : Exit → Act → World → Prop} {a : Act} {w : World} (h : Q .normal a w) : wpEager P ops S (NoPanic Q) [] a w := h
theorem wpEager_take {P : Program} {ops : Array Oper} {S : World → Prop} {Q : Exit → Act → World → Prop} {o : Oper} {r : List (Oper × Bool)} {a : Act} {w : World} {v : Value} (hw : Region.wanted o (yielded ops a.tmps) = true)
    (hy : ∀ w', S w' → (execOp a.eval o).run P w' = .ok (.value v) w') (h : wpEager P ops S Q r (a.put o.dst v) w) : wpEager P ops S Q ((o, true) :: r) a w := ⟨v, .inl ⟨hw, hy⟩, h⟩
theorem wpEager_skip {P : Program} {ops : Array Oper} {S : World → Prop} {Q : Exit → Act → World → Prop} {o : Oper} {r : List (Oper × Bool)} {a : Act} {w : World} (hw : Region.wanted o (yielded ops a.tmps) = false)
    (h : wpEager P ops S Q r (a.put o.dst undef) w) : wpEager P ops S Q ((o, true) :: r) a w := ⟨undef, .inr ⟨hw, rfl⟩, h⟩
theorem wpEager_off {P : Program} {ops : Array Oper} {S : World → Prop} {Q : Exit → Act → World → Prop} {o : Oper} {r : List (Oper × Bool)} {a : Act} {w : World} (hw : Region.wanted o (yielded ops a.tmps) = false)
    (h : wpEager P ops S Q r (a.put o.dst undef) w) : wpEager P ops S Q ((o, false) :: r) a w := by
  unfold wpEager; rw [if_neg (by rw [hw]; exact Bool.false_ne_true)]; exact h
theorem wpEager_load {P : Program} {ops : Array Oper} {S : World → Prop} {Q : Exit → Act → World → Prop} {op : Oper} {r : List (Oper × Bool)} {a : Act} {w : World} (hw : Region.wanted op (yielded ops a.tmps) = true) (ty : TypeId) (x : Operand) (ho : op.op = .load ty x)
    (b o : Nat) (hx : a.eval x = .pointer (some ⟨b, o, none⟩)) (M : Array Value) (d : TypeDesc) (hc : ∀ w', S w' → w'.rangeAt b o M.toList)
    (hu : P.underlying ty = some d) (hd : d.isRow = true) (hi : (P.info? ty).map (·.size) = some M.size)
    (h : wpEager P ops S Q r (a.put op.dst (.agg M)) w) : wpEager P ops S Q ((op, true) :: r) a w := by
  refine wpEager_take hw (fun w' hb => ?_) h
  unfold execOp
  simp only [ho, hx, Instr.loadAt, Instr.sureAddr, Sem.run_bind, Sem.run_pure, Result.andThen_ok, run_loadVar_mid w' b o ty M.toList d (hc w' hb) hu hd (by simpa using hi)]
/-- at a call: the way back is shut till 'S' is shown -/
theorem wpEager_op {P : Program} {ops : Array Oper} {S : World → Prop} {Q : Exit → Act → World → Prop} {o : Oper} {r : List (Oper × Bool)} {a : Act} {w : World} (hw : Region.wanted o (yielded ops a.tmps) = true)
    (h : ∀ K : Act → World → Prop, Shut (∀ a w, S w → wpEager P ops S Q r a w → K a w) → Oper.wp P o a w K Q) : wpEager P ops S Q ((o, false) :: r) a w := by
  unfold wpEager; rw [if_pos hw]; exact h _ fun _ _ h1 h2 => ⟨h1, h2⟩
theorem eagerLoadAt {P : Program} {ops : Array Oper} {S : World → Prop} {Q : Exit → Act → World → Prop} {r : List (Oper × Bool)} {a : Act} {w : World} (n : Nat) {d : Option Nat} {ty : TypeId} {t : TypeId} {p : String} {af : Array Edge} {g : Option (Nat × Bool)} {b : Bool}
    (h : wpEager P ops S Q ((⟨d, .load ty (.tmp n), t, p, af, g⟩, b) :: r) a w) : wpEager P ops S Q ((⟨d, .load ty (.tmp n), t, p, af, g⟩, b) :: r) a w := h
theorem range_below {w w' : World} {b o : Nat} {L : List Value} (h : w.rangeAt b o L) (hb : Below w.heap.size w w') : w'.rangeAt b o L := fun j v hv => by
  have := h j v hv
  rw [hb.cell (block_lt_of_cell this)]; exact this
theorem cell_below {w w' : World} {p : Addr} {v : Value} (h : w.cell? p = some v) (hb : Below w.heap.size w w') : w'.cell? p = some v := by
  rw [hb.cell (block_lt_of_cell h)]; exact h

theorem eagerAt {P : Program} {ops : Array Oper} {S : World → Prop} {Q : Exit → Act → World → Prop} {r : List (Oper × Bool)} {a : Act} {w : World} (n : Nat) {op : Op} {t : TypeId} {p : String} {af : Array Edge} {g : Option (Nat × Bool)} {b : Bool}
    (h : wpEager P ops S Q ((⟨some n, op, t, p, af, g⟩, b) :: r) a w) : wpEager P ops S Q ((⟨some n, op, t, p, af, g⟩, b) :: r) a w := h
theorem wpEager_build {P : Program} {ops : Array Oper} {S : World → Prop} {Q : Exit → Act → World → Prop} {o : Oper} {r : List (Oper × Bool)} {a : Act} {w : World} (hw : Region.wanted o (yielded ops a.tmps) = true) (t : TypeId) (parts : Array (Nat × Operand)) (ho : o.op = .build t parts)
    (vals : List (Nat × Value)) (hv : (parts.toList.map fun p => (p.1, a.eval p.2)) = vals) (cells : Array Value) (h : P.built t vals = some cells) (k : wpEager P ops S Q r (a.put o.dst (.agg cells)) w) : wpEager P ops S Q ((o, true) :: r) a w := by
  refine wpEager_take hw (fun w' _ => ?_) k
  have hb : P.built t (parts.map fun p => (p.1, a.eval p.2)).toList = some cells := by rw [Array.toList_map, hv]; exact h
  unfold execOp
  simp only [ho, Sem.run_bind, Sem.run_pure, Result.andThen_ok, run_build w' t _ cells hb]
end Go.Mir

namespace Go.Proofs.YtmphajilnkgcaaaGreatDoor.Rdr
open Go.RowKit Go.Mir

/-! ### plain -/
structure RD where
  l : List UInt8
  pos : Nat
  bad : Option Int
def RD.fail (s : RD) (e : Int) : RD := if s.bad = none ∧ e ≠ 0 then ⟨s.l, s.pos, some e⟩ else s
def RD.takeB (s : RD) (n : Int) (fits : Bool) : List UInt8 := if s.bad = none ∧ fits = true ∧ 0 ≤ n ∧ n ≤ (s.l.length : Int) - (s.pos : Int) then (s.l.drop s.pos).take n.toNat else []
def RD.takeS (s : RD) (n : Int) (fits : Bool) : RD :=
  if s.bad ≠ none then s else if fits = false ∨ n < 0 then ⟨s.l, s.pos, some 1⟩ else if (s.l.length : Int) - (s.pos : Int) < n then ⟨s.l, s.pos, some 2⟩ else ⟨s.l, s.pos + n.toNat, none⟩
def RD.err (s : RD) : Int := s.bad.getD 0
def RD.new (l : List UInt8) : RD := ⟨l, 0, none⟩

/-! ### in memory -/
/-- bytes that are only read -/
def Rd (w : World) (base : Nat) (v : Value) (l : List UInt8) : Prop :=
  (v = .slice none 0 0 ∧ l = []) ∨ ∃ g cap cur, v = .slice (some ⟨g, 0, none⟩) l.length cap ∧ base ≤ g ∧ w.heap[g]? = some (.cells cur 5 (0, 0)) ∧ l.length ≤ cap ∧ cap ≤ maxLen ∧ l.length ≤ cur.size ∧ cur.toList.take l.length = bytesV l
theorem Rd.touch {S : Nat → Prop} {w w' : World} {base : Nat} {v : Value} {l : List UInt8} (h : Rd w base v l) (ht : Turns S w w') (hS : ∀ k M fr, w.heap[k]? = some (.cells M 5 fr) → ¬ S k) : Rd w' base v l := by
  rcases h with h | ⟨g, cap, cur, h1, h2, h3, h4⟩
  · exact .inl h
  · exact .inr ⟨g, cap, cur, h1, h2, ht.keep h3 (hS g cur _ h3), h4⟩
theorem Rd.below {w w' : World} {base : Nat} {v : Value} {l : List UInt8} (h : Rd w base v l) (hb : Below w.heap.size w w') : Rd w' base v l :=
  h.touch (Turns.of_below (S := fun _ => False) hb) (fun _ _ _ _ h => h)
theorem Rd.bs {w : World} {base : Nat} {v : Value} {l : List UInt8} (h : Rd w base v l) : ∃ p c, v = .slice p l.length c ∧ Bs w p l.length c l := by
  rcases h with ⟨rfl, rfl⟩ | ⟨g, cap, cur, rfl, hb, hg, hn, hm, hz, ht⟩
  · exact ⟨none, 0, rfl, Sl.nil _ _⟩
  · refine ⟨_, _, rfl, ⟨by rw [bytesV_length, Nat.mul_one], hn, by simpa [maxLen] using hm, fun h => (by cases h), fun a ha j u hu => ?_⟩⟩
    obtain rfl := Option.some.inj ha
    have hj : j < l.length := by
      have := (List.getElem?_eq_some_iff.1 hu).1
      rwa [bytesV_length] at this
    rw [add_none, Nat.zero_add, cell_of_row _ _ _ _ _ _ hg, ← Array.getElem?_toList]
    rw [← ht, List.getElem?_take, if_pos hj] at hu
    exact hu
theorem Rd.of_own {w : World} {base : Nat} {v : Value} {l : List UInt8} (h : w.ownsRow base 5 1 v l.length (bytesV l)) : Rd w base v l := by
  rcases h.2 with ⟨rfl, hn⟩ | ⟨g, cap, cur, rfl, hb, hg, hn, hm, hs, ht⟩
  · exact .inl ⟨rfl, List.length_eq_zero_iff.1 hn⟩
  · exact .inr ⟨g, cap, cur, rfl, hb, hg, hn, hm, by rw [hs]; omega, by rw [Nat.mul_one] at ht; exact ht⟩
theorem Rd.base {w : World} {base b2 : Nat} {v : Value} {l : List UInt8} (h : Rd w base v l) (hb : b2 ≤ base) : Rd w b2 v l := by
  rcases h with h | ⟨g, cap, cur, h1, h2, h3⟩
  · exact .inl h
  · exact .inr ⟨g, cap, cur, h1, Nat.le_trans hb h2, h3⟩
/-- some of the bytes -/
theorem Bs.part {w : World} {p : Option Addr} {n c : Nat} {l : List UInt8} (h : Bs w p n c l) (k m : Nat) (hk : k + m ≤ n) (hm : 0 < m) : ∃ b o, p = some ⟨b, o, none⟩ ∧ Bs w (some ⟨b, o + k, none⟩) m m ((l.drop k).take m) := by
  have hn := h.length
  obtain ⟨b, o, rfl⟩ := Sl.addr h (by omega) (by omega)
  have h1 := h.le
  have h2 := h.max
  refine ⟨b, o, rfl, ⟨by rw [bytesV_length, List.length_take, List.length_drop, Nat.mul_one]; omega, Nat.le_refl _, by omega, fun hp => (by cases hp), fun a ha j u hu => ?_⟩⟩
  obtain rfl := Option.some.inj ha
  have h1 : (bytesV l)[k + j]? = some u := by
    simp only [bytesV, List.getElem?_map, List.getElem?_take, List.getElem?_drop] at hu ⊢
    split at hu
    · exact hu
    · simp at hu
  have := h.cell _ rfl (k + j) u h1
  rw [add_none] at this ⊢
  rwa [Nat.add_assoc]
/-- the fault -/
def FaultAt (w : World) (base : Nat) : Option Int → Value → Prop
  | none, bv => bv = .nilIface
  | some e, bv => e ≠ 0 ∧ (-9223372036854775808 ≤ e ∧ e ≤ 9223372036854775807) ∧ ∃ fb a0, bv = .iface 101 (.pointer (some ⟨fb, 0, none⟩)) ∧ base ≤ fb ∧ w.heap[fb]? = some (.cells #[.int .i64 a0, .int .i64 e] 105 (0, 0))
theorem FaultAt.touch {S : Nat → Prop} {w w' : World} {base : Nat} {b : Option Int} {bv : Value} (h : FaultAt w base b bv) (ht : Turns S w w') (hS : ∀ k M fr, w.heap[k]? = some (.cells M 105 fr) → ¬ S k) : FaultAt w' base b bv := by
  cases b with
  | none => exact h
  | some e =>
    obtain ⟨h1, h2, fb, a0, h3, h4, h5⟩ := h
    exact ⟨h1, h2, fb, a0, h3, h4, ht.keep h5 (hS _ _ _ h5)⟩
def rA (v : Value) (pos : Nat) (bv : Value) : Array Value := #[.bool true, v, .int .i64 (pos : Int), bv]
structure RIn (w : World) (base rb : Nat) (v bv : Value) (s : RD) : Prop where
  row : w.heap[rb]? = some (.cells (rA v s.pos bv) 89 (0, 0))
  low : base ≤ rb
  bytes : Rd w base v s.l
  fault : FaultAt w base s.bad bv
  at1 : s.pos ≤ s.l.length
  len : s.l.length ≤ 140737488355328
def RAt (w : World) (base rb : Nat) (s : RD) : Prop := ∃ v bv, RIn w base rb v bv s
theorem RIn.below {w w' : World} {base rb : Nat} {v bv : Value} {s : RD} (h : RIn w base rb v bv s) (hb : Below w.heap.size w w') : RIn w' base rb v bv s :=
  ⟨Below.keepOld hb h.row, h.low, h.bytes.below hb, h.fault.touch (Turns.of_below (S := fun _ => False) hb) (fun _ _ _ _ h => h), h.at1, h.len⟩
theorem RAt.below {w w' : World} {base rb : Nat} {s : RD} (h : RAt w base rb s) (hb : Below w.heap.size w w') : RAt w' base rb s := by
  obtain ⟨v, bv, h⟩ := h
  exact ⟨v, bv, h.below hb⟩
theorem RIn.lt {w : World} {base rb : Nat} {v bv : Value} {s : RD} (h : RIn w base rb v bv s) : rb < w.heap.size := (Array.getElem?_eq_some_iff.1 h.row).1
theorem RIn.no8 {w : World} {base rb : Nat} {v bv : Value} {s : RD} (h : RIn w base rb v bv s) : ∀ k M fr, w.heap[k]? = some (.cells M 5 fr) → ¬ k = rb := fun k M fr hk e => by
  subst e
  rw [h.row] at hk
  injection hk with e1
  injection e1 with _ e2
  exact absurd e2 (by decide)
theorem RIn.noF {w : World} {base rb : Nat} {v bv : Value} {s : RD} (h : RIn w base rb v bv s) : ∀ k M fr, w.heap[k]? = some (.cells M 105 fr) → ¬ k = rb := fun k M fr hk e => by
  subst e
  rw [h.row] at hk
  injection hk with e1
  injection e1 with _ e2
  exact absurd e2 (by decide)
theorem RIn.cells {w : World} {base rb : Nat} {v bv : Value} {s : RD} (h : RIn w base rb v bv s) : w.cell? ⟨rb, 0, none⟩ = some (.bool true) ∧ w.cell? ⟨rb, 1, none⟩ = some v ∧ w.cell? ⟨rb, 2, none⟩ = some (.int .i64 (s.pos : Int)) ∧ w.cell? ⟨rb, 3, none⟩ = some bv ∧ ∀ j, w.frozen? ⟨rb, j, none⟩ = false := by
  refine ⟨?_, ?_, ?_, ?_, fun j => ?_⟩
  · rw [cell_of_row _ _ _ _ _ _ h.row]; rfl
  · rw [cell_of_row _ _ _ _ _ _ h.row]; rfl
  · rw [cell_of_row _ _ _ _ _ _ h.row]; rfl
  · rw [cell_of_row _ _ _ _ _ _ h.row]; rfl
  · simp [World.frozen?, h.row]
/-- what a call leaves of a reader -/
structure LeftR (base rb : Nat) (s' : RD) (w w' : World) : Prop where
  there : RAt w' base rb s'
  turn : Turns (fun k => k = rb) w w'
  same1 : w'.cell? ⟨rb, 1, none⟩ = w.cell? ⟨rb, 1, none⟩
theorem LeftR.same {w w' : World} {base rb : Nat} {s : RD} (h : RAt w base rb s) (hb : Below w.heap.size w w') : LeftR base rb s w w' := ⟨h.below hb, Turns.of_below hb, by
  obtain ⟨v, bv, h⟩ := h
  rw [h.cells.2.1]
  exact (h.below hb).cells.2.1⟩
theorem LeftR.trans {w w1 w2 : World} {base rb : Nat} {s1 s2 : RD} (h : LeftR base rb s1 w w1) (h2 : LeftR base rb s2 w1 w2) : LeftR base rb s2 w w2 := ⟨h2.there, h.turn.trans h2.turn (fun _ _ h => h), h2.same1.trans h.same1⟩
theorem LeftR.belowB {w w' : World} {base rb B : Nat} {s s' : RD} (h0 : RAt w base rb s) (hB : B ≤ base) (h : LeftR base rb s' w w') : Below B w w' := by
  obtain ⟨v, bv, h0⟩ := h0
  exact h.2.below (by have := h0.lt; have := h0.low; omega) (fun i hi => by have := h0.low; omega)

theorem RAt.turnLow {S : Nat → Prop} {w w' : World} {base rb : Nat} {s : RD} (h : RAt w base rb s) (ht : Turns S w w') (hS : ∀ k, S k → k < base) : RAt w' base rb s := by
  obtain ⟨v, bv, h⟩ := h
  refine ⟨v, bv, ht.keep h.row (fun hs => by have := hS _ hs; have := h.low; omega), h.low, ?_, ?_, h.at1, h.len⟩
  · rcases h.bytes with h1 | ⟨g, cap, cur, h1, h2, h3, h4⟩
    · exact .inl h1
    · exact .inr ⟨g, cap, cur, h1, h2, ht.keep h3 (fun hs => by have := hS _ hs; omega), h4⟩
  · have h1 := h.fault
    cases hb : s.bad with
    | none => rw [hb] at h1; exact h1
    | some e =>
      rw [hb] at h1
      obtain ⟨h2, h3, fb, a0, h4, h5, h6⟩ := h1
      exact ⟨h2, h3, fb, a0, h4, h5, ht.keep h6 (fun hs => by have := hS _ hs; omega)⟩
/-- what is made behind a call is no part of the reader: its bytes lie where they lay -/
theorem RAt.turnNew {S : Nat → Prop} {w w1 w' : World} {base rb : Nat} {s s' : RD} (h0 : RAt w base rb s) (h : LeftR base rb s' w w1) (ht : Turns S w1 w') (hS : ∀ k M t fr, S k → w1.heap[k]? = some (.cells M t fr) → t = 5 ∧ w.heap.size ≤ k) : RAt w' base rb s' := by
  have hl := h
  obtain ⟨v0, bv0, h0⟩ := h0
  obtain ⟨v, bv, h1⟩ := h.there
  have hv : v = v0 := by
    have e1 := h1.cells.2.1
    rw [hl.same1, h0.cells.2.1] at e1
    exact (Option.some.inj e1).symm
  subst hv
  have hrow := ht.keep h1.row (fun hs => by have := (hS _ _ _ _ hs h1.row).1; revert this; decide)
  refine ⟨v, bv, hrow, h1.low, ?_, ?_, h1.at1, h1.len⟩
  · rcases h1.bytes with h2 | ⟨g, cap, cur, e1, e2, e3, e4⟩
    · exact .inl h2
    · refine .inr ⟨g, cap, cur, e1, e2, ht.keep e3 (fun hs => ?_), e4⟩
      have h3 := (hS _ _ _ _ hs e3).2
      rcases h0.bytes with ⟨h2, _⟩ | ⟨g', cap', cur', f1, f2, f3, f4⟩
      · rw [e1] at h2; cases h2
      · rw [e1] at f1
        obtain ⟨h4, _, _⟩ := Value.slice.inj f1
        have h5 : g = g' := congrArg (fun a : Option Addr => (a.getD ⟨0, 0, none⟩).block) h4
        have h6 := (Array.getElem?_eq_some_iff.1 f3).1
        omega
  · have h2 := h1.fault
    cases hb : s'.bad with
    | none => rw [hb] at h2; exact h2
    | some e =>
      rw [hb] at h2
      obtain ⟨g1, g2, fb, a0, g3, g4, g5⟩ := h2
      exact ⟨g1, g2, fb, a0, g3, g4, ht.keep g5 (fun hs => by have := (hS _ _ _ _ hs g5).1; revert this; decide)⟩
/-! ### walks -/
theorem none_any {base rb : Nat} {s : RD} (w : World) (h : RAt w base rb s) : Calls Tryz.prog 54 #[.pointer (some ⟨rb, 0, none⟩)] w fun e w' => e = .returned (.bool false) ∧ w = w' := by
  obtain ⟨v, bv, h⟩ := h
  have hc := h.cells.1
  clear h
  go_enter Tryz.func54, Tryz.ntmps54
  go_wp2_with fail
  go_ret
  exact ⟨rfl, rfl⟩
theorem build_reader (p : Option Addr) (n c : Nat) : Tryz.prog.built 89 [(0, .bool true), (1, .slice p n c)] = some #[.bool true, .slice p n c, .int .i64 0, .nilIface] := by kernel_rfl
theorem info8 : (Tryz.prog.info? 5).map (fun i => (i.zero, i.size, i.bytes)) = some (some (.int .u8 0), 1, 1) := by kernel_rfl
theorem wpList_build {P : Program} {w : World} {ops : Array Oper} {rest : List Oper} {o : Oper} {a : Act} {Q : Exit → Act → World → Prop} (hgd : o.guard = none) (t : TypeId) (parts : Array (Nat × Operand)) (ho : o.op = .build t parts)
    (vals : List (Nat × Value)) (hv : (parts.toList.map fun p => (p.1, a.eval p.2)) = vals) (cells : Array Value) (h : P.built t vals = some cells) (k : wpList P ops Q rest (a.put o.dst (.agg cells)) w) : wpList P ops Q (o :: rest) a w := by
  refine wpList_plain hgd fun K hK => ?_
  unfold Oper.wp execOp
  have hb : P.built t (parts.map fun p => (p.1, a.eval p.2)).toList = some cells := by rw [Array.toList_map, hv]; exact h
  simp only [ho, Sem.run_bind, Sem.run_pure, Result.andThen_ok, run_build w t _ cells hb]
  exact hK _ _ k
def NewP (l : List UInt8) (w : World) (e : Ending) (w' : World) : Prop := ∃ rb, e = .returned (.pointer (some ⟨rb, 0, none⟩)) ∧ RAt w' w.heap.size rb (RD.new l) ∧ Below w.heap.size w w'
set_option maxRecDepth 100000 in
theorem new_any (w : World) (p : Option Addr) (n c : Nat) (l : List UInt8) (hb : Bs w p n c l) (hn : n ≤ 140737488355328) : Calls Tryz.prog 26 #[.slice p n c] w (NewP l w) := by
  have HBS := Lib.hid hb
  have hle := hb.le
  have hmax := hb.max
  have HLN := Lib.hid hb.length
  clear hb
  go_enter Tryz.func26, Tryz.ntmps26
  go_wp2_with (refine wpList_append_nx rfl _ _ 27 rfl (base := w.heap.size) Tryz.underlying27 info8 rfl (by omega) rfl (World.ownsRow_nil _ _ _ _) rfl HBS.out (bytesV_one _) ⟨by omega, by omega⟩ (Nat.le_refl _) ?_)
  intro p9 c9 w9 ho9 hg9 _ _
  have HB9 : Hid (Below w.heap.size w w9) := (Below.refl _ _).grown hg9 (Nat.le_refl _) (fun k hk => by simp [Value.ownBlock] at hk)
  have HR9 : Hid (Rd w9 w.heap.size (.slice p9 n c9) l) := by
    have := ho9
    rw [← HLN.out] at this ⊢
    exact Rd.of_own this
  have HBX := Lib.hid (Below.allocs w9 (.cells (rA (.slice p9 n c9) 0 .nilIface) 89))
  have HFIN : Hid (NewP l w (.returned (.pointer (some ⟨w9.heap.size, 0, none⟩))) (w9.alloc (.cells (rA (.slice p9 n c9) 0 .nilIface) 89))) :=
    ⟨_, rfl, ⟨_, _, ⟨heap_alloc_last _ _, HB9.out.size, HR9.out.below HBX.out, rfl, Nat.zero_le _, by show l.length ≤ _; rw [HLN.out]; exact hn⟩⟩, HB9.out.trans (HBX.out.mono HB9.out.size)⟩
  clear ho9 hg9
  go_wp2_with ((with_reducible refine wpAt 5 ?_); refine wpList_build rfl 89 _ rfl [(0, .bool true), (1, .slice p9 n c9)] rfl _ (build_reader _ _ _) ?_)
  go_ret
  exact HFIN.out
theorem left_any {base rb : Nat} {s : RD} (w : World) (h : RAt w base rb s) : Calls Tryz.prog 46 #[.pointer (some ⟨rb, 0, none⟩)] w fun e w' => e = .returned (.int .i64 ((s.l.length - s.pos : Nat) : Int)) ∧ Below w.heap.size w w' := by
  have H := Lib.hid h
  obtain ⟨v, bv, h⟩ := h
  obtain ⟨_, hc1, hc2, _, _⟩ := h.cells
  obtain ⟨p, c, hv, hbs⟩ := h.bytes.bs
  rw [hv] at hc1
  have hg1 := cell_grown hc1
  have hg2 := cell_grown hc2
  have hat := h.at1
  have hlen := h.len
  have hle := hbs.le
  have hmax := hbs.max
  have hsub : (s.l.length : Int) - (s.pos : Int) = ((s.l.length - s.pos : Nat) : Int) := by omega
  have hw1 : IntKind.i64.wrap ((s.l.length : Int) - (s.pos : Int)) = ((s.l.length - s.pos : Nat) : Int) := by rw [hsub]; exact IntWalk.i64_in _ (by omega)
  have hw2 : IntKind.i64.wrap ((s.l.length - s.pos : Nat) : Int) = ((s.l.length - s.pos : Nat) : Int) := IntWalk.i64_in _ (by omega)
  clear h hv hbs
  go_enter Tryz.func46, Tryz.ntmps46
  go_wp2_with fail
  refine (none_any w H.out).mono ?_
  rintro e w' ⟨rfl, rfl⟩
  go_upto_region 3 with fail
  refine wp_region_grow (by kernel_rfl) (by kernel_rfl) ?_
  repeat (first
    | ((with_reducible refine wpQuietGd ?_); (with_reducible refine wpQuiet_skip ?_ ?_); (· rfl); simp only [Act.put, List.setIfInBounds_toArray, List.set_cons_zero, List.set_cons_succ])
    | quiet_step (fail))
  refine wpQuiet_nil ?_
  intro w2 hb2
  have HB2 := Lib.hid hb2
  clear hb2
  go_wp2_with fail
  go_ret
  exact ⟨rfl, HB2.out⟩
theorem build_fault (a e : Int) : Tryz.prog.built 105 [(0, .int .i64 a), (1, .int .i64 e)] = some #[.int .i64 a, .int .i64 e] := by kernel_rfl
theorem fail_any {base rb : Nat} {s : RD} (w : World) (h : RAt w base rb s) (z : Int) (hz : -9223372036854775808 ≤ z ∧ z ≤ 9223372036854775807) : Calls Tryz.prog 55 #[.pointer (some ⟨rb, 0, none⟩), .int .i64 z] w fun e w' => e = .returned (.tuple #[]) ∧ LeftR base rb (s.fail z) w w' := by
  have H := Lib.hid h
  obtain ⟨v, bv, h⟩ := h
  obtain ⟨_, hc1, hc2, hc3, hfz⟩ := h.cells
  have HI := Lib.hid h
  obtain ⟨l, pos, bad⟩ := s
  cases bad with
  | some b =>
    obtain ⟨_, _, fb, a0, hbv, _⟩ := h.fault
    rw [hbv] at hc3
    clear h hbv
    go_enter Tryz.func55, Tryz.ntmps55
    go_wp2_with fail
    refine (none_any w H.out).mono ?_
    rintro e w' ⟨rfl, rfl⟩
    go_wp2_with fail
    go_end0
    refine ⟨rfl, ?_⟩
    have : RD.fail ⟨l, pos, some b⟩ z = ⟨l, pos, some b⟩ := by unfold RD.fail; rw [if_neg (by simp)]
    rw [this]
    exact LeftR.same H.out (Below.refl _ _)
  | none =>
    have hbv : bv = .nilIface := h.fault
    rw [hbv] at hc3
    by_cases h0 : z = 0
    · subst h0
      clear h hbv
      go_enter Tryz.func55, Tryz.ntmps55
      go_wp2_with fail
      refine (none_any w H.out).mono ?_
      rintro e w' ⟨rfl, rfl⟩
      go_wp2_with fail
      go_end0
      refine ⟨rfl, ?_⟩
      have : RD.fail ⟨l, pos, none⟩ 0 = ⟨l, pos, none⟩ := by unfold RD.fail; rw [if_neg (by simp)]
      rw [this]
      exact LeftR.same H.out (Below.refl _ _)
    · have hz1 : (z == 0) = false := beq_eq_false_iff_ne.2 h0
      have hz2 : (z != 0) = true := by simp [h0]
      have HE : Hid (RD.fail ⟨l, pos, none⟩ z = ⟨l, pos, some z⟩) := by show _ = _; unfold RD.fail; rw [if_pos ⟨rfl, h0⟩]
      have HFIN : Hid (LeftR base rb ⟨l, pos, some z⟩ w ((w.alloc (.cells #[.int .i64 (pos : Int), .int .i64 z] 105)).setCell ⟨rb, 3, none⟩ (.iface 101 (.pointer (some ⟨w.heap.size, 0, none⟩))))) := by
        have hb := Below.allocs w (.cells #[.int .i64 (pos : Int), .int .i64 z] 105)
        have hI := HI.out.below hb
        have ht := (Turns.refl (fun k => k = rb) (w.alloc (.cells #[.int .i64 (pos : Int), .int .i64 z] 105))).setCell (p := ⟨rb, 3, none⟩) (fun _ => rfl) (.iface 101 (.pointer (some ⟨w.heap.size, 0, none⟩)))
        have hlt := HI.out.lt
        have hrow2 := heap_setCell_same _ rb 3 _ _ (.iface 101 (.pointer (some ⟨w.heap.size, 0, none⟩))) hI.row
        refine ⟨⟨v, .iface 101 (.pointer (some ⟨w.heap.size, 0, none⟩)), ⟨?_, hI.low, hI.bytes.touch ht hI.no8, ⟨h0, hz, w.heap.size, _, rfl, ?_, ht.keep (heap_alloc_last _ _) (by omega)⟩, hI.at1, hI.len⟩⟩, (Turns.of_below hb).trans ht (fun _ _ h => h), ?_⟩
        · rw [hrow2]; rfl
        · have := HI.out.low; omega
        · rw [HI.out.cells.2.1, cell_of_row _ _ _ _ _ _ hrow2]; rfl
      have hb0 := Below.allocs w (.cells #[.int .i64 (pos : Int), .int .i64 z] 105)
      have hcx : (w.alloc (.cells #[.int .i64 (pos : Int), .int .i64 z] 105)).cell? ⟨rb, 3, none⟩ = some .nilIface := cell_below hc3 hb0
      have hfx := (HI.out.below hb0).cells.2.2.2.2 3
      clear h hbv h0 hb0
      go_enter Tryz.func55, Tryz.ntmps55
      go_wp2_with fail
      refine (none_any w H.out).mono ?_
      rintro e w' ⟨rfl, rfl⟩
      go_wp2_with ((with_reducible refine wpAt 24 ?_); refine wpList_build rfl 105 _ rfl [(0, .int .i64 (pos : Int)), (1, .int .i64 z)] rfl _ (build_fault _ _) ?_)
      go_end0
      rw [HE.out]
      exact ⟨rfl, HFIN.out⟩
end Go.Proofs.YtmphajilnkgcaaaGreatDoor.Rdr

namespace Go.Proofs.YtmphajilnkgcaaaGreatDoor.Rpl
open Go.RowKit Go.Mir Go.Mir.Hx Go.Mir.Parts

def strV (ls : List (List UInt8)) : List Value := ls.map fun x => .string (S x)
theorem strV_length (ls : List (List UInt8)) : (strV ls).length = ls.length := by simp [strV]
theorem strV_get (ls : List (List UInt8)) (j : Nat) (h : j < ls.length) : (strV ls)[j]? = some (.string (S ls[j])) := by simp [strV, h]
theorem strV_one (ls : List (List UInt8)) : ∀ u ∈ strV ls, u.oneCell' = true := by
  intro u hu; simp only [strV, List.mem_map] at hu; obtain ⟨_, _, rfl⟩ := hu; rfl
/-- a []string that reads as these -/
abbrev Ws (w : World) (p : Option Addr) (n c : Nat) (ls : List (List UInt8)) : Prop := Sl w p n c 1 (strV ls)
theorem Ws.length {w : World} {p : Option Addr} {n c : Nat} {ls : List (List UInt8)} (h : Ws w p n c ls) : ls.length = n := by
  have := h.len; simpa [strV_length] using this
theorem Ws.str {w : World} {b o : Nat} {n c : Nat} {ls : List (List UInt8)} (h : Ws w (some ⟨b, o, none⟩) n c ls) {j : Nat} (hj : j < ls.length) : w.cell? ⟨b, o + j, none⟩ = some (.string (S ls[j])) := h.at (strV_get ls j hj)
theorem Ws.row {w : World} {g : Nat} {cs : Array Value} {t : TypeId} {fr : Nat × Nat} {ls : List (List UInt8)} (hr : w.heap[g]? = some (.cells cs t fr)) (hc : cs.toList = strV ls) (hm : ls.length ≤ 9223372036854775807) : Ws w (some ⟨g, 0, none⟩) ls.length ls.length ls :=
  ⟨by rw [strV_length, Nat.mul_one], Nat.le_refl _, hm, fun h => (by cases h), fun a ha j u hu => by
    obtain rfl := Option.some.inj ha
    rw [add_none, cell_of_row _ _ _ _ _ _ hr, ← Array.getElem?_toList, hc, Nat.zero_add]
    exact hu⟩
set_option maxRecDepth 100000 in
theorem nameE_any (n : Int) (p : Option Addr) (m c : Nat) (ls : List (List UInt8)) (w : World) (h : Ws w p m c ls) (hn : -9223372036854775808 ≤ n ∧ n ≤ 9223372036854775807) :
    Calls Tryz.prog 39 #[.int .i64 n, .slice p m c] w fun e w' => e = .returned (.string (S (nameB n ls))) ∧ w = w' := by
  have hle := h.le
  have hmax := h.max
  skip
  by_cases h0 : n < 0
  · have d1 : decide (n < 0) = true := decide_eq_true h0
    have HQ : Hid (nameB n ls = [63]) := name_out (fun hh => by omega)
    clear h0 hn
    go_enter Tryz.func39, Tryz.ntmps39
    go_wp2_with fail
    go_ret
    exact ⟨by rw [HQ.out]; rfl, rfl⟩
  · have d1 : decide (n < 0) = false := decide_eq_false h0
    obtain ⟨k, rfl⟩ : ∃ k : Nat, n = (k : Int) := ⟨n.toNat, by omega⟩
    have hml := h.length
    by_cases h1 : k < m
    · have d2 : decide ((m : Int) ≤ (k : Int)) = false := decide_eq_false (by omega)
      have d3 : decide (m ≤ k) = false := decide_eq_false (by omega)
      have hkl : k < ls.length := by omega
      have HQ : Hid (nameB (k : Int) ls = ls[k]'hkl) := name_in hkl
      obtain ⟨b, o, rfl⟩ := h.addr (by omega) (by omega)
      have hc := h.str hkl
      generalize ls[k]'hkl = x at *
      clear h0 hn h hml
      go_enter Tryz.func39, Tryz.ntmps39
      go_wp2_with fail
      go_ret
      exact ⟨by rw [HQ.out]; rfl, rfl⟩
    · have d2 : decide ((m : Int) ≤ (k : Int)) = true := decide_eq_true (by omega)
      have d3 : decide (m ≤ k) = true := decide_eq_true (by omega)
      have HQ : Hid (nameB (k : Int) ls = [63]) := name_out (fun hh => by omega)
      clear h0 h1 hn h hml
      go_enter Tryz.func39, Tryz.ntmps39
      go_wp2_with fail
      go_ret
      exact ⟨by rw [HQ.out]; rfl, rfl⟩
set_option maxRecDepth 100000 in
theorem nameK_any (n : Int) (p : Option Addr) (m c : Nat) (ls : List (List UInt8)) (w : World) (h : Ws w p m c ls) (hn : -9223372036854775808 ≤ n ∧ n ≤ 9223372036854775807) :
    Calls Tryz.prog 37 #[.int .i64 n, .slice p m c] w fun e w' => e = .returned (.string (S (nameB n ls))) ∧ w = w' := by
  have hle := h.le
  have hmax := h.max
  skip
  by_cases h0 : n < 0
  · have d1 : decide (n < 0) = true := decide_eq_true h0
    have HQ : Hid (nameB n ls = [63]) := name_out (fun hh => by omega)
    clear h0 hn
    go_enter Tryz.func37, Tryz.ntmps37
    go_wp2_with fail
    go_ret
    exact ⟨by rw [HQ.out]; rfl, rfl⟩
  · have d1 : decide (n < 0) = false := decide_eq_false h0
    obtain ⟨k, rfl⟩ : ∃ k : Nat, n = (k : Int) := ⟨n.toNat, by omega⟩
    have hml := h.length
    by_cases h1 : k < m
    · have d2 : decide ((m : Int) ≤ (k : Int)) = false := decide_eq_false (by omega)
      have d3 : decide (m ≤ k) = false := decide_eq_false (by omega)
      have hkl : k < ls.length := by omega
      have HQ : Hid (nameB (k : Int) ls = ls[k]'hkl) := name_in hkl
      obtain ⟨b, o, rfl⟩ := h.addr (by omega) (by omega)
      have hc := h.str hkl
      generalize ls[k]'hkl = x at *
      clear h0 hn h hml
      go_enter Tryz.func37, Tryz.ntmps37
      go_wp2_with fail
      go_ret
      exact ⟨by rw [HQ.out]; rfl, rfl⟩
    · have d2 : decide ((m : Int) ≤ (k : Int)) = true := decide_eq_true (by omega)
      have d3 : decide (m ≤ k) = true := decide_eq_true (by omega)
      have HQ : Hid (nameB (k : Int) ls = [63]) := name_out (fun hh => by omega)
      clear h0 h1 hn h hml
      go_enter Tryz.func37, Tryz.ntmps37
      go_wp2_with fail
      go_ret
      exact ⟨by rw [HQ.out]; rfl, rfl⟩
set_option maxRecDepth 100000 in
theorem rname_any (n : Int) (p : Option Addr) (m c : Nat) (ls : List (List UInt8)) (w : World) (h : Ws w p m c ls) (hn : -9223372036854775808 ≤ n ∧ n ≤ 9223372036854775807) :
    Calls Tryz.prog 22 #[.int .i64 n, .slice p m c] w fun e w' => e = .returned (.string (S (nameB n ls))) ∧ w = w' := by
  have hle := h.le
  have hmax := h.max
  skip
  by_cases h0 : n < 0
  · have d1 : decide (n < 0) = true := decide_eq_true h0
    have HQ : Hid (nameB n ls = [63]) := name_out (fun hh => by omega)
    clear h0 hn
    go_enter Tryz.func22, Tryz.ntmps22
    go_wp2_with fail
    go_ret
    exact ⟨by rw [HQ.out]; rfl, rfl⟩
  · have d1 : decide (n < 0) = false := decide_eq_false h0
    obtain ⟨k, rfl⟩ : ∃ k : Nat, n = (k : Int) := ⟨n.toNat, by omega⟩
    have hml := h.length
    by_cases h1 : k < m
    · have d2 : decide ((m : Int) ≤ (k : Int)) = false := decide_eq_false (by omega)
      have d3 : decide (m ≤ k) = false := decide_eq_false (by omega)
      have hkl : k < ls.length := by omega
      have HQ : Hid (nameB (k : Int) ls = ls[k]'hkl) := name_in hkl
      obtain ⟨b, o, rfl⟩ := h.addr (by omega) (by omega)
      have hc := h.str hkl
      generalize ls[k]'hkl = x at *
      clear h0 hn h hml
      go_enter Tryz.func22, Tryz.ntmps22
      go_wp2_with fail
      go_ret
      exact ⟨by rw [HQ.out]; rfl, rfl⟩
    · have d2 : decide ((m : Int) ≤ (k : Int)) = true := decide_eq_true (by omega)
      have d3 : decide (m ≤ k) = true := decide_eq_true (by omega)
      have HQ : Hid (nameB (k : Int) ls = [63]) := name_out (fun hh => by omega)
      clear h0 h1 hn h hml
      go_enter Tryz.func22, Tryz.ntmps22
      go_wp2_with fail
      go_ret
      exact ⟨by rw [HQ.out]; rfl, rfl⟩
set_option maxRecDepth 100000 in
set_option maxHeartbeats 800000 in
theorem numE_any (s : List UInt8) (p : Option Addr) (m c : Nat) (ls : List (List UInt8)) (w : World) (h : Ws w p m c ls) :
    Calls Tryz.prog 49 #[.string (S s), .slice p m c] w fun e w' => e = .returned (.tuple #[.int .i64 ((ofB s ls).1 : Int), .bool (ofB s ls).2]) ∧ w = w' := by
  have hle := h.le
  have hmax := h.max
  have HML := Lib.hid h.length
  have H := Lib.hid h
  clear h
  go_enter Tryz.func49, Tryz.ntmps49
  go_wp2_with fail
  go_loopw [10] (fun j wr => ∃ i : Nat, i ≤ m ∧ j = .int .i64 i ∧ (∀ q, q < i → ls[q]? ≠ some s) ∧ wr = w) (fun j _ => m - (intOf j).toNat)
  case atStart => exact ⟨0, by omega, rfl, fun q hq => absurd hq (Nat.not_lt_zero _), rfl⟩
  case round =>
    obtain ⟨i, hi, rfl, hno, rfl⟩ := hrel
    have HNO := Lib.hid hno
    clear hno
    by_cases hlt : i < m
    · have hd : decide ((i : Int) < (m : Int)) = true := decide_eq_true (by omega)
      have hd2 : decide (i < m) = true := decide_eq_true hlt
      have hil : i < ls.length := by rw [HML.out]; exact hlt
      obtain ⟨b, o, rfl⟩ := H.out.addr (by omega) (by omega)
      have hc := H.out.str hil
      have HGE : Hid (ls[i]? = some (ls[i]'hil)) := List.getElem?_eq_getElem hil
      generalize ls[i]'hil = x at *
      by_cases hx : x = s
      · have hb : (x == s) = true := beq_iff_eq.2 hx
        have HQ : Hid (ofB s ls = (i, true)) := ofB_hit (by rw [HGE.out, hx]) HNO.out
        clear hx
        go_wp2_with fail
        go_ret2
        exact ⟨by rw [HQ.out]; rfl, rfl⟩
      · have hb : (x == s) = false := beq_eq_false_iff_ne.2 hx
        have HN2 : Hid (∀ q, q < i + 1 → ls[q]? ≠ some s) := fun q hq => by
          by_cases hqi : q = i
          · subst hqi; rw [HGE.out]; exact fun e => hx (Option.some.inj e)
          · exact HNO.out q (by omega)
        clear hx
        go_wp2_with fail
        go_roundw
        case rel => exact ⟨i + 1, by omega, by go_num, HN2.out, by first | rfl | trivial⟩
        case measure => simp [intOf]; omega
    · have hd : decide ((i : Int) < (m : Int)) = false := decide_eq_false (by omega)
      have hd2 : decide (i < m) = false := decide_eq_false hlt
      have HQ : Hid (ofB s ls = (0, false)) := ofB_miss (fun q => by
        by_cases hq : q < i
        · exact HNO.out q hq
        · rw [List.getElem?_eq_none (by rw [HML.out]; omega)]; exact fun e => by cases e)
      go_wp2_with fail
      go_ret2
      exact ⟨by rw [HQ.out]; rfl, rfl⟩
set_option maxRecDepth 100000 in
set_option maxHeartbeats 800000 in
theorem numK_any (s : List UInt8) (p : Option Addr) (m c : Nat) (ls : List (List UInt8)) (w : World) (h : Ws w p m c ls) :
    Calls Tryz.prog 48 #[.string (S s), .slice p m c] w fun e w' => e = .returned (.tuple #[.int .i64 ((ofB s ls).1 : Int), .bool (ofB s ls).2]) ∧ w = w' := by
  have hle := h.le
  have hmax := h.max
  have HML := Lib.hid h.length
  have H := Lib.hid h
  clear h
  go_enter Tryz.func48, Tryz.ntmps48
  go_wp2_with fail
  go_loopw [10] (fun j wr => ∃ i : Nat, i ≤ m ∧ j = .int .i64 i ∧ (∀ q, q < i → ls[q]? ≠ some s) ∧ wr = w) (fun j _ => m - (intOf j).toNat)
  case atStart => exact ⟨0, by omega, rfl, fun q hq => absurd hq (Nat.not_lt_zero _), rfl⟩
  case round =>
    obtain ⟨i, hi, rfl, hno, rfl⟩ := hrel
    have HNO := Lib.hid hno
    clear hno
    by_cases hlt : i < m
    · have hd : decide ((i : Int) < (m : Int)) = true := decide_eq_true (by omega)
      have hd2 : decide (i < m) = true := decide_eq_true hlt
      have hil : i < ls.length := by rw [HML.out]; exact hlt
      obtain ⟨b, o, rfl⟩ := H.out.addr (by omega) (by omega)
      have hc := H.out.str hil
      have HGE : Hid (ls[i]? = some (ls[i]'hil)) := List.getElem?_eq_getElem hil
      generalize ls[i]'hil = x at *
      by_cases hx : x = s
      · have hb : (x == s) = true := beq_iff_eq.2 hx
        have HQ : Hid (ofB s ls = (i, true)) := ofB_hit (by rw [HGE.out, hx]) HNO.out
        clear hx
        go_wp2_with fail
        go_ret2
        exact ⟨by rw [HQ.out]; rfl, rfl⟩
      · have hb : (x == s) = false := beq_eq_false_iff_ne.2 hx
        have HN2 : Hid (∀ q, q < i + 1 → ls[q]? ≠ some s) := fun q hq => by
          by_cases hqi : q = i
          · subst hqi; rw [HGE.out]; exact fun e => hx (Option.some.inj e)
          · exact HNO.out q (by omega)
        clear hx
        go_wp2_with fail
        go_roundw
        case rel => exact ⟨i + 1, by omega, by go_num, HN2.out, by first | rfl | trivial⟩
        case measure => simp [intOf]; omega
    · have hd : decide ((i : Int) < (m : Int)) = false := decide_eq_false (by omega)
      have hd2 : decide (i < m) = false := decide_eq_false hlt
      have HQ : Hid (ofB s ls = (0, false)) := ofB_miss (fun q => by
        by_cases hq : q < i
        · exact HNO.out q hq
        · rw [List.getElem?_eq_none (by rw [HML.out]; omega)]; exact fun e => by cases e)
      go_wp2_with fail
      go_ret2
      exact ⟨by rw [HQ.out]; rfl, rfl⟩
theorem built_errs : Tryz.prog.built 74 [(0, .string ⟨#[111, 107]⟩), (1, .string ⟨#[97, 114, 103]⟩), (2, .string ⟨#[115, 104, 111, 114, 116]⟩), (3, .string ⟨#[108, 111, 110, 103]⟩), (4, .string ⟨#[102, 111, 114, 109]⟩), (5, .string ⟨#[110, 111, 110, 101]⟩), (6, .string ⟨#[116, 119, 105, 99, 101]⟩), (7, .string ⟨#[110, 105, 108]⟩), (8, .string ⟨#[115, 101, 97, 108]⟩), (9, .string ⟨#[115, 117, 109]⟩), (10, .string ⟨#[115, 116, 97, 116, 101]⟩), (11, .string ⟨#[104, 97, 108, 116, 101, 100]⟩), (12, .string ⟨#[115, 101, 115, 115, 105, 111, 110]⟩), (13, .string ⟨#[101, 120, 112, 105, 114, 101, 100]⟩), (14, .string ⟨#[115, 101, 113]⟩), (15, .string ⟨#[113, 117, 111, 116, 97]⟩), (16, .string ⟨#[109, 97, 110, 121]⟩), (17, .string ⟨#[100, 105, 115, 107]⟩), (18, .string ⟨#[100, 111, 119, 110]⟩), (19, .string ⟨#[112, 97, 114, 101, 110, 116]⟩), (20, .string ⟨#[100, 101, 101, 112]⟩)] = some (strV E21).toArray := by kernel_rfl
theorem built_kinds : Tryz.prog.built 71 [(0, .string ⟨#[110, 111, 110, 101]⟩), (1, .string ⟨#[111, 112, 101, 110]⟩), (2, .string ⟨#[117, 112, 108, 111, 97, 100]⟩), (3, .string ⟨#[97, 115, 107]⟩), (4, .string ⟨#[99, 108, 111, 115, 101]⟩), (5, .string ⟨#[99, 111, 110, 110, 101, 99, 116]⟩), (6, .string ⟨#[100, 105, 115, 99, 111, 110, 110, 101, 99, 116]⟩)] = some (strV K7).toArray := by kernel_rfl
def Z21 : Array Value := (List.replicate 21 (Value.string ⟨#[]⟩)).toArray
theorem zero21 (w : World) : (zeroValue 74).run Tryz.prog w = .ok (.agg Z21) w := by kernel_rfl
theorem info21 (n : Nat) (h : n = 21) : (Tryz.prog.info? 74).map (·.size) = some n := by subst h; kernel_rfl
theorem one21 : ((strV E21).toArray).all (·.oneCell') = true := by kernel_rfl
set_option maxRecDepth 100000 in
theorem errs_any (w : World) : Calls Tryz.prog 38 #[] w fun e w' => e = .returned (.agg (strV E21).toArray) ∧ Below w.heap.size w w' := by
  have hz := zero21
  go_enter Tryz.func38, Tryz.ntmps38
  go_upto_region 1 with fail
  go_wp2_with (first
    | refine Rdr.wpList_build rfl 74 _ rfl [(0, .string ⟨#[111, 107]⟩), (1, .string ⟨#[97, 114, 103]⟩), (2, .string ⟨#[115, 104, 111, 114, 116]⟩), (3, .string ⟨#[108, 111, 110, 103]⟩), (4, .string ⟨#[102, 111, 114, 109]⟩), (5, .string ⟨#[110, 111, 110, 101]⟩), (6, .string ⟨#[116, 119, 105, 99, 101]⟩), (7, .string ⟨#[110, 105, 108]⟩), (8, .string ⟨#[115, 101, 97, 108]⟩), (9, .string ⟨#[115, 117, 109]⟩), (10, .string ⟨#[115, 116, 97, 116, 101]⟩), (11, .string ⟨#[104, 97, 108, 116, 101, 100]⟩), (12, .string ⟨#[115, 101, 115, 115, 105, 111, 110]⟩), (13, .string ⟨#[101, 120, 112, 105, 114, 101, 100]⟩), (14, .string ⟨#[115, 101, 113]⟩), (15, .string ⟨#[113, 117, 111, 116, 97]⟩), (16, .string ⟨#[109, 97, 110, 121]⟩), (17, .string ⟨#[100, 105, 115, 107]⟩), (18, .string ⟨#[100, 111, 119, 110]⟩), (19, .string ⟨#[112, 97, 114, 101, 110, 116]⟩), (20, .string ⟨#[100, 101, 101, 112]⟩)] rfl _ built_errs ?_
    | refine wpList_store_row rfl 74 _ _ rfl w.heap.size (strV E21).toArray rfl rfl 74 Z21 (heap_alloc_last _ _) (info21 _ rfl) rfl one21 ?_)
  have HS := Lib.hid (setRow_heap _ _ _ (strV E21).toArray _ _ (heap_alloc_last w (.cells Z21 74)))
  refine bodyPost_ret (results_cell_row rfl _ _ _ _ _ _ _ rfl HS.out Tryz.underlying74 rfl (info21 _ rfl)) rfl ?_
  exact ⟨rfl, below_setRow (Below.allocs w _) (Nat.le_refl _) _⟩
def Z7 : Array Value := (List.replicate 7 (Value.string ⟨#[]⟩)).toArray
theorem zero7 (w : World) : (zeroValue 71).run Tryz.prog w = .ok (.agg Z7) w := by kernel_rfl
theorem info7 (n : Nat) (h : n = 7) : (Tryz.prog.info? 71).map (·.size) = some n := by subst h; kernel_rfl
theorem one7 : ((strV K7).toArray).all (·.oneCell') = true := by kernel_rfl
set_option maxRecDepth 100000 in
theorem kinds_any (w : World) : Calls Tryz.prog 36 #[] w fun e w' => e = .returned (.agg (strV K7).toArray) ∧ Below w.heap.size w w' := by
  have hz := zero7
  go_enter Tryz.func36, Tryz.ntmps36
  go_upto_region 1 with fail
  go_wp2_with (first
    | refine Rdr.wpList_build rfl 71 _ rfl [(0, .string ⟨#[110, 111, 110, 101]⟩), (1, .string ⟨#[111, 112, 101, 110]⟩), (2, .string ⟨#[117, 112, 108, 111, 97, 100]⟩), (3, .string ⟨#[97, 115, 107]⟩), (4, .string ⟨#[99, 108, 111, 115, 101]⟩), (5, .string ⟨#[99, 111, 110, 110, 101, 99, 116]⟩), (6, .string ⟨#[100, 105, 115, 99, 111, 110, 110, 101, 99, 116]⟩)] rfl _ built_kinds ?_
    | refine wpList_store_row rfl 71 _ _ rfl w.heap.size (strV K7).toArray rfl rfl 71 Z7 (heap_alloc_last _ _) (info7 _ rfl) rfl one7 ?_)
  have HS := Lib.hid (setRow_heap _ _ _ (strV K7).toArray _ _ (heap_alloc_last w (.cells Z7 71)))
  refine bodyPost_ret (results_cell_row rfl _ _ _ _ _ _ _ rfl HS.out Tryz.underlying71 rfl (info7 _ rfl)) rfl ?_
  exact ⟨rfl, below_setRow (Below.allocs w _) (Nat.le_refl _) _⟩
set_option maxRecDepth 100000 in
theorem errName_any (n : Int) (w : World) (hn : -9223372036854775808 ≤ n ∧ n ≤ 9223372036854775807) :
    Calls Tryz.prog 18 #[.int .i64 n] w fun e w' => e = .returned (.string (S (nameB n E21))) ∧ Below w.heap.size w w' := by
  have hz := zero21
  have HN := Lib.hid hn
  clear hn
  go_enter Tryz.func18, Tryz.ntmps18
  go_wp2_with fail
  refine (errs_any w).mono ?_
  rintro e w1 ⟨rfl, hb1⟩
  go_upto_region 2 with (refine wpList_store_row rfl 74 _ _ rfl w1.heap.size (strV E21).toArray rfl rfl 74 Z21 (heap_alloc_last _ _) (info21 _ rfl) rfl one21 ?_)
  try simp only [Act.put]
  have hws : Ws ((w1.alloc (.cells Z21 74)).setRow w1.heap.size (strV E21).toArray) (some ⟨w1.heap.size, 0, none⟩) 21 21 E21 := Ws.row (ls := E21) (setRow_heap _ _ _ (strV E21).toArray _ _ (heap_alloc_last w1 (.cells Z21 74))) rfl (by decide)
  have HB2 := Lib.hid (hb1.trans ((below_setRow (Below.allocs w1 (.cells Z21 74)) (Nat.le_refl _) (strV E21).toArray).mono hb1.size))
  have HWS := Lib.hid hws
  clear hb1 hws
  generalize (w1.alloc (.cells Z21 74)).setRow w1.heap.size (strV E21).toArray = w2 at *
  go_wp2_with fail
  refine (nameE_any n _ 21 21 E21 w2 HWS.out HN.out).mono ?_
  rintro e w' ⟨rfl, rfl⟩
  go_wp2_with fail
  go_ret
  exact ⟨rfl, HB2.out⟩
set_option maxRecDepth 100000 in
theorem kindName_any (n : Int) (w : World) (hn : -9223372036854775808 ≤ n ∧ n ≤ 9223372036854775807) :
    Calls Tryz.prog 17 #[.int .i64 n] w fun e w' => e = .returned (.string (S (nameB n K7))) ∧ Below w.heap.size w w' := by
  have hz := zero7
  have HN := Lib.hid hn
  clear hn
  go_enter Tryz.func17, Tryz.ntmps17
  go_wp2_with fail
  refine (kinds_any w).mono ?_
  rintro e w1 ⟨rfl, hb1⟩
  go_upto_region 2 with (refine wpList_store_row rfl 71 _ _ rfl w1.heap.size (strV K7).toArray rfl rfl 71 Z7 (heap_alloc_last _ _) (info7 _ rfl) rfl one7 ?_)
  try simp only [Act.put]
  have hws : Ws ((w1.alloc (.cells Z7 71)).setRow w1.heap.size (strV K7).toArray) (some ⟨w1.heap.size, 0, none⟩) 7 7 K7 := Ws.row (ls := K7) (setRow_heap _ _ _ (strV K7).toArray _ _ (heap_alloc_last w1 (.cells Z7 71))) rfl (by decide)
  have HB2 := Lib.hid (hb1.trans ((below_setRow (Below.allocs w1 (.cells Z7 71)) (Nat.le_refl _) (strV K7).toArray).mono hb1.size))
  have HWS := Lib.hid hws
  clear hb1 hws
  generalize (w1.alloc (.cells Z7 71)).setRow w1.heap.size (strV K7).toArray = w2 at *
  go_wp2_with fail
  refine (nameK_any n _ 7 7 K7 w2 HWS.out HN.out).mono ?_
  rintro e w' ⟨rfl, rfl⟩
  go_wp2_with fail
  go_ret
  exact ⟨rfl, HB2.out⟩
set_option maxRecDepth 100000 in
theorem errOf_any (s : List UInt8) (w : World) :
    Calls Tryz.prog 31 #[.string (S s)] w fun e w' => e = .returned (.tuple #[.int .i64 ((ofB s E21).1 : Int), .bool (ofB s E21).2]) ∧ Below w.heap.size w w' := by
  have hz := zero21
  go_enter Tryz.func31, Tryz.ntmps31
  go_wp2_with fail
  refine (errs_any w).mono ?_
  rintro e w1 ⟨rfl, hb1⟩
  go_upto_region 2 with (refine wpList_store_row rfl 74 _ _ rfl w1.heap.size (strV E21).toArray rfl rfl 74 Z21 (heap_alloc_last _ _) (info21 _ rfl) rfl one21 ?_)
  try simp only [Act.put]
  have hws : Ws ((w1.alloc (.cells Z21 74)).setRow w1.heap.size (strV E21).toArray) (some ⟨w1.heap.size, 0, none⟩) 21 21 E21 := Ws.row (ls := E21) (setRow_heap _ _ _ (strV E21).toArray _ _ (heap_alloc_last w1 (.cells Z21 74))) rfl (by decide)
  have HB2 := Lib.hid (hb1.trans ((below_setRow (Below.allocs w1 (.cells Z21 74)) (Nat.le_refl _) (strV E21).toArray).mono hb1.size))
  have HWS := Lib.hid hws
  clear hb1 hws
  generalize (w1.alloc (.cells Z21 74)).setRow w1.heap.size (strV E21).toArray = w2 at *
  generalize hO : ofB s E21 = O at *
  obtain ⟨o1, o2⟩ := O
  go_wp2_with fail
  refine (numE_any s _ 21 21 E21 w2 HWS.out).mono ?_
  rintro e w' ⟨rfl, rfl⟩
  rw [hO]
  go_wp2_with fail
  go_ret2
  exact ⟨by rw [hO]; rfl, HB2.out⟩
set_option maxRecDepth 100000 in
theorem kindOf_any (s : List UInt8) (w : World) :
    Calls Tryz.prog 30 #[.string (S s)] w fun e w' => e = .returned (.tuple #[.int .i64 ((ofB s K7).1 : Int), .bool (ofB s K7).2]) ∧ Below w.heap.size w w' := by
  have hz := zero7
  go_enter Tryz.func30, Tryz.ntmps30
  go_wp2_with fail
  refine (kinds_any w).mono ?_
  rintro e w1 ⟨rfl, hb1⟩
  go_upto_region 2 with (refine wpList_store_row rfl 71 _ _ rfl w1.heap.size (strV K7).toArray rfl rfl 71 Z7 (heap_alloc_last _ _) (info7 _ rfl) rfl one7 ?_)
  try simp only [Act.put]
  have hws : Ws ((w1.alloc (.cells Z7 71)).setRow w1.heap.size (strV K7).toArray) (some ⟨w1.heap.size, 0, none⟩) 7 7 K7 := Ws.row (ls := K7) (setRow_heap _ _ _ (strV K7).toArray _ _ (heap_alloc_last w1 (.cells Z7 71))) rfl (by decide)
  have HB2 := Lib.hid (hb1.trans ((below_setRow (Below.allocs w1 (.cells Z7 71)) (Nat.le_refl _) (strV K7).toArray).mono hb1.size))
  have HWS := Lib.hid hws
  clear hb1 hws
  generalize (w1.alloc (.cells Z7 71)).setRow w1.heap.size (strV K7).toArray = w2 at *
  generalize hO : ofB s K7 = O at *
  obtain ⟨o1, o2⟩ := O
  go_wp2_with fail
  refine (numK_any s _ 7 7 K7 w2 HWS.out).mono ?_
  rintro e w' ⟨rfl, rfl⟩
  rw [hO]
  go_wp2_with fail
  go_ret2
  exact ⟨by rw [hO]; rfl, HB2.out⟩
set_option maxRecDepth 100000 in
theorem rerrs_any (w : World) : Calls Tryz.prog 24 #[] w fun e w' => e = .returned (.slice (some ⟨w.heap.size, 0, none⟩) 21 21) ∧ Ws w' (some ⟨w.heap.size, 0, none⟩) 21 21 E21 ∧ Below w.heap.size w w' := by
  go_enter Tryz.func24, Tryz.ntmps24
  go_wp2_with fail
  go_ret
  exact ⟨rfl, Ws.row (ls := E21) (heap_alloc_last w _) rfl (by decide), Below.allocs _ _⟩
set_option maxRecDepth 100000 in
theorem rkinds_any (w : World) : Calls Tryz.prog 23 #[] w fun e w' => e = .returned (.slice (some ⟨w.heap.size, 0, none⟩) 7 7) ∧ Ws w' (some ⟨w.heap.size, 0, none⟩) 7 7 K7 ∧ Below w.heap.size w w' := by
  go_enter Tryz.func23, Tryz.ntmps23
  go_wp2_with fail
  go_ret
  exact ⟨rfl, Ws.row (ls := K7) (heap_alloc_last w _) rfl (by decide), Below.allocs _ _⟩
end Go.Proofs.YtmphajilnkgcaaaGreatDoor.Rpl
