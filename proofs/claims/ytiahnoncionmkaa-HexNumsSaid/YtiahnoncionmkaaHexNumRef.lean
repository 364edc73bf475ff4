/- LAYER 12: the walk of the reference's NumOf. Conditions: texts of at most 2^40. -/
import Derived.Test.YtiahnoncionmkaaHexNumOf
import Derived.IntWalk
namespace Go.Proofs.Ytiahnoncionmkaa.HexW
open Go.RowKit Bld Go.Mir Go.Mir.Hx Go.Mir.Parts

theorem less_eq (a b : List UInt8) (h : a.length = b.length) (ha : ∀ c ∈ a, isD c) (hb : ∀ c ∈ b, isD c) : (Op.bytesLess a b || a == b) = decide (val a ≤ val b) := by
  have h1 := less_val a b h ha hb
  have h2 := less_val b a h.symm hb ha
  rw [Bool.eq_iff_iff, Bool.or_eq_true, h1, beq_iff_eq, decide_eq_true_eq]
  constructor
  · rintro (h | h)
    · omega
    · rw [h]; exact Nat.le_refl _
  · intro hle
    by_cases he : val a = val b
    · refine .inr ?_
      clear h1 h2
      induction a generalizing b with
      | nil => cases b with
        | nil => rfl
        | cons y b => simp at h
      | cons x a ih => cases b with
        | nil => simp at h
        | cons y b =>
          have hl : a.length = b.length := by simpa using h
          have va := val_lt a (fun c hc => ha c (by simp [hc]))
          have vb := val_lt b (fun c hc => hb c (by simp [hc]))
          have hx := ha x (by simp)
          have hy := hb y (by simp)
          unfold isD at hx hy
          rw [val_cons, val_cons, ← hl] at he
          rw [← hl] at vb
          have hxy : x.toNat - 48 = y.toNat - 48 := by
            have h1 := congrArg (· / 10 ^ a.length) he
            have hp : 0 < 10 ^ a.length := by omega
            rw [Nat.add_comm, Nat.add_mul_div_right _ _ hp, Nat.div_eq_of_lt va, Nat.add_comm _ (val b), Nat.add_mul_div_right _ _ hp, Nat.div_eq_of_lt vb] at h1
            omega
          have : x = y := UInt8.toNat_inj.1 (by omega)
          subst this
          rw [ih b hl (fun c hc => ha c (by simp [hc])) (fun c hc => hb c (by simp [hc])) (by omega) (by omega)]
    · exact .inl (by omega)

set_option maxRecDepth 100000 in
set_option maxHeartbeats 400000 in
theorem rNumOf_any (l : List UInt8) (most : Nat) (w : World) (hl : l.length ≤ 1099511627776) (hm : most < 18446744073709551616) :
    Calls Try.prog 18 #[.string (S l), .int .u64 (most : Int)] w (NumP l most w) := by
  by_cases h0 : l.length = 0
  · have HN : Hid (numOf l most = (0, 4)) := numOf_bad (fun h => h.1 (List.length_eq_zero_iff.1 h0)) most
    have hq : ((l.length : Int) == 0) = true := by rw [beq_iff_eq]; omega
    clear h0
    go_enter Try.func18, Try.ntmps18
    go_wp2_with fail
    go_ret2
    exact ⟨by rw [HN.out]; rfl, Below.refl _ _⟩
  · have hpos : 0 < l.length := by omega
    have hq : ((l.length : Int) == 0) = false := by rw [beq_eq_false_iff_ne]; omega
    clear h0
    by_cases hz : 1 < l.length ∧ l[0] = 48
    · have HN : Hid (numOf l most = (0, 4)) := numOf_bad (fun h => by
        have := h.2.2 (by rw [List.getElem?_eq_getElem hpos, hz.2]); omega) most
      have hd : decide ((1 : Int) < (l.length : Int)) = true := decide_eq_true (by omega)
      have hb : ((l[0].toNat : Int) == 48) = true := by rw [hz.2]; rfl
      clear hz
      go_enter Try.func18, Try.ntmps18
      go_wp2_with fail
      go_ret2
      exact ⟨by rw [HN.out]; rfl, Below.refl _ _⟩
    · have HZ : Hid (l[0]? = some 48 → l.length = 1) := fun h => by
        rw [List.getElem?_eq_getElem hpos] at h
        by_cases h1 : 1 < l.length
        · exact absurd ⟨h1, Option.some.inj h⟩ hz
        · omega
      have hb : 1 < l.length → ((l[0].toNat : Int) == 48) = false := fun h1 => by
        rw [beq_eq_false_iff_ne]; intro e
        exact hz ⟨h1, UInt8.toNat_inj.1 (by have h0 : (48 : UInt8).toNat = 48 := rfl; omega)⟩
      clear hz
      by_cases h1 : 1 < l.length
      all_goals
        first
          | have hd1 : decide ((1 : Int) < (l.length : Int)) = true := decide_eq_true (by omega)
          | have hd1 : decide ((1 : Int) < (l.length : Int)) = false := decide_eq_false (by omega)
        first
          | replace hb := hb h1
          | clear hb
        clear h1
        go_enter Try.func18, Try.ntmps18
        go_wp2_with fail
        go_loop [6] (fun j => ∃ k : Nat, k ≤ l.length ∧ j = .int .i64 k ∧ ∀ c ∈ l.take k, isD c) (fun j => l.length - (intOf j).toNat)
        case atStart => exact ⟨0, by omega, rfl, fun c hc => by simp at hc⟩
        case round =>
          obtain ⟨k, hk, rfl, hdg⟩ := hrel
          have HDG := Lib.hid hdg
          clear hdg
          by_cases hlt : k < l.length
          · have hdk : decide ((k : Int) < (l.length : Int)) = true := decide_eq_true (by omega)
            by_cases hc : isD (l[k]'hlt)
            · have HC := Lib.hid hc
              have b1 : decide (((l[k]'hlt).toNat : Int) < 48) = false := decide_eq_false (by have := hc.1; omega)
              have b2 : decide ((57 : Int) < ((l[k]'hlt).toNat : Int)) = false := decide_eq_false (by have := hc.2; omega)
              clear hc
              go_wp2_with fail
              go_round
              case rel => exact ⟨k + 1, by omega, by go_num, fun c hc => by
                rw [take_snoc l k hlt, List.mem_append, List.mem_singleton] at hc
                rcases hc with hc | hc
                · exact HDG.out c hc
                · rw [hc]; exact HC.out⟩
              case measure => simp [intOf]; omega
            · have HN := Lib.hid (numOf_bad (l := l) (fun h => hc (h.2.1 _ (List.getElem_mem _))) most)
              by_cases h48 : (l[k]'hlt).toNat < 48
              · have b1 : decide (((l[k]'hlt).toNat : Int) < 48) = true := decide_eq_true (by omega)
                clear hc
                go_wp2_with fail
                go_ret2
                exact ⟨by rw [HN.out]; rfl, Below.refl _ _⟩
              · have b1 : decide (((l[k]'hlt).toNat : Int) < 48) = false := decide_eq_false (by omega)
                have b2 : decide ((57 : Int) < ((l[k]'hlt).toNat : Int)) = true := decide_eq_true (by unfold isD at hc; omega)
                clear hc
                go_wp2_with fail
                go_ret2
                exact ⟨by rw [HN.out]; rfl, Below.refl _ _⟩
          · obtain rfl : k = l.length := by omega
            have HNI : Hid (Nice l) := ⟨fun e => by rw [e] at hpos; simp at hpos, fun c hc => HDG.out c (by rw [List.take_length]; exact hc), HZ.out⟩
            have HTG := Lib.hid (too_great l most HNI.out)
            have HLE : Hid ((decL most).length = l.length → (Op.bytesLess l (decL most) || l == decL most) = decide (val l ≤ most)) := fun h => by
              rw [less_eq l _ h.symm HNI.out.2.1 (dec_digits most), val_dec]
            have hdl := dec_len most hm
            have hdk : decide ((l.length : Int) < (l.length : Int)) = false := decide_eq_false (by omega)
            go_wp2_with fail
            refine (rNum_any most hm _).mono ?_
            rintro e w' ⟨rfl, rfl⟩
            generalize decL most = T at *
            by_cases hlong : T.length < l.length
            · have HN := Lib.hid (numOf_many HNI.out (HTG.out.1 (.inl hlong)))
              go_wp2_with fail
              go_ret2
              exact ⟨by rw [HN.out]; rfl, Below.refl _ _⟩
            · by_cases hsame : T.length = l.length
              · have hcmp := HLE.out hsame
                have hleq : ((l.length : Int) == (T.length : Int)) = true := by rw [beq_iff_eq]; omega
                have hgt : decide ((T.length : Int) < (l.length : Int)) = false := decide_eq_false (by omega)
                by_cases hsm : val l ≤ most
                · rw [decide_eq_true hsm] at hcmp
                  clear hsame
                  have HN := Lib.hid (numOf_ok HNI.out hsm)
                  go_wp2_with fail
                  go_loop [8, 9] (fun n j => ∃ k : Nat, k ≤ l.length ∧ j = .int .i64 k ∧ n = .int .u64 ((val (l.take k) : Nat) : Int)) (fun _ j => l.length - (intOf j).toNat)
                  case atStart => exact ⟨0, by omega, rfl, rfl⟩
                  case round =>
                    obtain ⟨k, hk, rfl, rfl⟩ := hrel
                    by_cases hlt : k < l.length
                    · have hdk : decide ((k : Int) < (l.length : Int)) = true := decide_eq_true (by omega)
                      have hc := HNI.out.2.1 (l[k]'hlt) (List.getElem_mem _)
                      unfold isD at hc
                      obtain ⟨hc1, hc2⟩ := hc
                      have HV := Lib.hid (val_snoc (l.take k) (l[k]'hlt))
                      have hv2 := val_mono l (k + 1)
                      rw [take_snoc l k hlt, HV.out] at hv2
                      have HTK := Lib.hid (take_snoc l k hlt)
                      obtain ⟨d, hd⟩ : ∃ d, (l[k]'hlt).toNat = 48 + d := ⟨(l[k]'hlt).toNat - 48, by omega⟩
                      have HD := Lib.hid hd
                      have hbd : 10 * val (l.take k) + d ≤ most ∧ d ≤ 9 := by omega
                      clear hv2 hd
                      generalize hX : val (l.take k) = X at *
                      have HX := Lib.hid hX
                      clear hX
                      go_wp2_with fail
                      go_round
                      case rel => exact ⟨k + 1, by omega, by go_num, by rw [HTK.out, HV.out, HD.out, IntWalk.u64_in _ (by omega)]; go_num⟩
                      case measure => simp [intOf]; omega
                    · obtain rfl : k = l.length := by omega
                      have hdk : decide ((l.length : Int) < (l.length : Int)) = false := decide_eq_false (by omega)
                      rw [List.take_length]
                      go_wp2_with fail
                      go_ret2
                      exact ⟨by rw [HN.out]; rfl, Below.refl _ _⟩
                · rw [decide_eq_false hsm] at hcmp
                  have HN := Lib.hid (numOf_many HNI.out (show most < val l by omega))
                  clear hsame
                  go_wp2_with fail
                  go_ret2
                  exact ⟨by rw [HN.out]; rfl, Below.refl _ _⟩
              · have hleq : ((l.length : Int) == (T.length : Int)) = false := by rw [beq_eq_false_iff_ne]; omega
                have hgt : decide ((T.length : Int) < (l.length : Int)) = false := decide_eq_false (by omega)
                have hsm : val l ≤ most := by
                  by_cases h : val l ≤ most
                  · exact h
                  · rcases HTG.out.2 (by omega) with h2 | h2
                    · omega
                    · omega
                clear hsame
                have HN := Lib.hid (numOf_ok HNI.out hsm)
                go_wp2_with fail
                go_loop [8, 9] (fun n j => ∃ k : Nat, k ≤ l.length ∧ j = .int .i64 k ∧ n = .int .u64 ((val (l.take k) : Nat) : Int)) (fun _ j => l.length - (intOf j).toNat)
                case atStart => exact ⟨0, by omega, rfl, rfl⟩
                case round =>
                  obtain ⟨k, hk, rfl, rfl⟩ := hrel
                  by_cases hlt : k < l.length
                  · have hdk : decide ((k : Int) < (l.length : Int)) = true := decide_eq_true (by omega)
                    have hc := HNI.out.2.1 (l[k]'hlt) (List.getElem_mem _)
                    unfold isD at hc
                    obtain ⟨hc1, hc2⟩ := hc
                    have HV := Lib.hid (val_snoc (l.take k) (l[k]'hlt))
                    have hv2 := val_mono l (k + 1)
                    rw [take_snoc l k hlt, HV.out] at hv2
                    have HTK := Lib.hid (take_snoc l k hlt)
                    obtain ⟨d, hd⟩ : ∃ d, (l[k]'hlt).toNat = 48 + d := ⟨(l[k]'hlt).toNat - 48, by omega⟩
                    have HD := Lib.hid hd
                    have hbd : 10 * val (l.take k) + d ≤ most ∧ d ≤ 9 := by omega
                    clear hv2 hd
                    generalize hX : val (l.take k) = X at *
                    have HX := Lib.hid hX
                    clear hX
                    go_wp2_with fail
                    go_round
                    case rel => exact ⟨k + 1, by omega, by go_num, by rw [HTK.out, HV.out, HD.out, IntWalk.u64_in _ (by omega)]; go_num⟩
                    case measure => simp [intOf]; omega
                  · obtain rfl : k = l.length := by omega
                    have hdk : decide ((l.length : Int) < (l.length : Int)) = false := decide_eq_false (by omega)
                    rw [List.take_length]
                    go_wp2_with fail
                    go_ret2
                    exact ⟨by rw [HN.out]; rfl, Below.refl _ _⟩
end Go.Proofs.Ytiahnoncionmkaa.HexW
