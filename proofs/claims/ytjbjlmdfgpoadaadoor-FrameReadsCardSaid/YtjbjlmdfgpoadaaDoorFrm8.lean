/- FRAMES: all frames one behind the other, plain; the reference's Scan. Conditions: at most 4000 bytes. -/
import Derived.Test.YtjbjlmdfgpoadaaDoorFrm7
import Derived.Test.YtjbjlmdfgpoadaaDoorLs
import Derived.Test.YtjbjlmdfgpoadaaDoorWriter3
namespace Go.Proofs.YtjbjlmdfgpoadaaDoor.Frm
open Go.RowKit Go.Mir Go.Mir.Parts Wr Cod Cut

theorem one_ok {l : List UInt8} (h : (one l).2.2 = 0) : 9 ≤ (one l).2.1 ∧ (one l).2.1 ≤ l.length ∧ (one l).2.1 = 8 + (one l).1.length ∧ frame (one l).1 = l.take (one l).2.1 ∧ 1 ≤ (one l).1.length ∧ (one l).1.length ≤ 65536 := by
  unfold one at h ⊢
  split at h
  · simp at h
  rename_i h1
  rw [if_neg h1]
  split at h
  · simp at h
  rename_i h2
  rw [if_neg h2]
  split at h
  · simp at h
  rename_i h3
  rw [if_neg h3]
  split at h
  · rename_i h4
    rw [if_pos h4]
    have hl : ((l.drop 8).take (Rdr.beN (l.take 4))).length = Rdr.beN (l.take 4) := by rw [List.length_take, List.length_drop]; omega
    refine ⟨by dsimp only; omega, by dsimp only; omega, by dsimp only; rw [hl], h4, by dsimp only; omega, by dsimp only; omega⟩
  · simp at h
theorem one_bad {l : List UInt8} (h : ¬ (one l).2.2 = 0) : (one l).1 = [] ∧ (one l).2.1 = 0 := by
  unfold one at h ⊢
  split
  · exact ⟨rfl, rfl⟩
  rename_i h1
  rw [if_neg h1] at h
  split
  · exact ⟨rfl, rfl⟩
  rename_i h2
  rw [if_neg h2] at h
  split
  · exact ⟨rfl, rfl⟩
  rename_i h3
  rw [if_neg h3] at h
  split
  · rename_i h4
    rw [if_pos h4] at h
    simp at h
  · exact ⟨rfl, rfl⟩
theorem one_err (l : List UInt8) : (one l).2.2 = 0 ∨ (one l).2.2 = 2 ∨ (one l).2.2 = 4 ∨ (one l).2.2 = 9 := by
  unfold one
  split
  · simp
  split
  · simp
  split
  · simp
  split <;> simp
def scan (l : List UInt8) : List (List UInt8) × Nat :=
  if h : (one l).2.2 = 0 then ((one l).1 :: (scan (l.drop (one l).2.1)).1, (one l).2.1 + (scan (l.drop (one l).2.1)).2) else ([], 0)
termination_by l.length
decreasing_by all_goals (have := one_ok h; rw [List.length_drop]; omega)
theorem scan_ok {l : List UInt8} (h : (one l).2.2 = 0) : scan l = ((one l).1 :: (scan (l.drop (one l).2.1)).1, (one l).2.1 + (scan (l.drop (one l).2.1)).2) := by rw [scan, dif_pos h]
theorem scan_no {l : List UInt8} (h : ¬ (one l).2.2 = 0) : scan l = ([], 0) := by rw [scan, dif_neg h]
/-- as far as one has come -/
def sumF (pre : List (List UInt8)) : Nat := (pre.map fun x => 8 + x.length).sum
theorem sumF_snoc (pre : List (List UInt8)) (x : List UInt8) : sumF (pre ++ [x]) = sumF pre + (8 + x.length) := by simp [sumF]
def At (l : List UInt8) (pre : List (List UInt8)) (at_ : Nat) : Prop := at_ ≤ l.length ∧ (9 * pre.length ≤ at_ ∧ at_ = sumF pre) ∧ scan l = (pre ++ (scan (l.drop at_)).1, at_ + (scan (l.drop at_)).2)
theorem At.zero (l : List UInt8) : At l [] 0 := ⟨by omega, ⟨by simp, rfl⟩, by simp⟩
theorem At.next {l : List UInt8} {pre : List (List UInt8)} {k : Nat} (h : At l pre k) (ho : (one (l.drop k)).2.2 = 0) : At l (pre ++ [(one (l.drop k)).1]) (k + (one (l.drop k)).2.1) := by
  obtain ⟨h1, ⟨h2, h2'⟩, h3⟩ := h
  obtain ⟨o1, o2, o3, _⟩ := one_ok ho
  rw [List.length_drop] at o2
  refine ⟨by omega, ⟨by rw [List.length_append, List.length_singleton]; omega, by rw [sumF_snoc, ← h2', o3]⟩, ?_⟩
  rw [h3, scan_ok ho, List.drop_drop]
  simp only [List.append_assoc, List.singleton_append, Prod.mk.injEq, true_and]
  omega
theorem At.end {l : List UInt8} {pre : List (List UInt8)} {k : Nat} (h : At l pre k) (ho : ¬ (one (l.drop k)).2.2 = 0) : scan l = (pre, k) := by
  rw [h.2.2, scan_no ho]; simp
theorem At.last {l : List UInt8} {pre : List (List UInt8)} {k k1 : Nat} (h : At l pre k) (ho : ¬ (one (l.drop k)).2.2 = 0) (h1 : At l pre k1) : scan l = (pre, k1) := by
  have he := h.end ho
  have h3 := h1.2.2
  rw [he] at h3
  by_cases hb : (one (l.drop k1)).2.2 = 0
  · rw [scan_ok hb] at h3
    have := congrArg List.length (congrArg Prod.fst h3)
    simp at this
  · exact h1.end hb
def RScanP (l : List UInt8) (w : World) (e : Ending) (w' : World) : Prop := ∃ v, e = .returned (.tuple #[v, .int .i64 ((scan l).2 : Int)]) ∧ Ls w' w.heap.size v (scan l).1 ∧ Below w.heap.size w w'
set_option maxRecDepth 100000 in
set_option maxHeartbeats 1600000 in
theorem rscan_any (p : Option Addr) (n c : Nat) (l : List UInt8) (w : World) (hB : Bs w p n c l) (hn : n ≤ 1000000) :
    Calls Tryd.prog 13 #[.slice p n c] w (RScanP l w) := by
  have HB := Lib.hid hB
  have HN := Lib.hid hB.length
  have hle := hB.le
  have hmax := hB.max
  clear hB
  go_enter Tryd.func13, Tryd.ntmps13
  go_wp2_with fail
  go_loopw [4, 5] (fun x j wr => ∃ (k : Nat) (pre : List (List UInt8)), j = .int .i64 k ∧ Ls wr w.heap.size x pre ∧ At l pre k ∧ Below w.heap.size w wr) (fun _ j _ => n - (intOf j).toNat)
  case atStart => exact ⟨0, [], rfl, Ls.nil _ _, At.zero l, Below.refl _ _⟩
  case round =>
    obtain ⟨k, pre, rfl, hls, hat, hbl⟩ := hrel
    have hk : k ≤ n := by rw [← HN.out]; exact hat.1
    have hpre : 9 * pre.length ≤ k := hat.2.1.1
    have HAT := Lib.hid hat
    have HLS := Lib.hid hls
    have HBL := Lib.hid hbl
    have hcut := cutR (HB.out.below hbl) k (k : Int) rfl hk
    have hone := rone_any _ _ _ _ wr (bs_drop (HB.out.below hbl) k hk) (by omega)
    have HONE := Lib.hid hone
    clear hat hls hbl hone
    go_wp2_with fail
    refine HONE.out.mono ?_
    rintro e w1 ⟨p1, c1, rfl, ho1, hb1⟩
    have HB1 := Lib.hid (HBL.out.trans (hb1.mono HBL.out.size))
    have HL1 := Lib.hid (HLS.out.below hb1)
    have HO1 := Lib.hid ho1
    have HBW := Lib.hid hb1
    clear ho1 hb1 HONE HLS hcut
    obtain ⟨body, m, ev, hoe⟩ : ∃ body m ev, one (l.drop k) = (body, m, ev) := ⟨_, _, _, rfl⟩
    rw [hoe] at HO1 ⊢
    have HOE := Lib.hid hoe
    clear hoe
    by_cases hev : ev = 0
    · subst hev
      have hok := one_ok (l := l.drop k) (by rw [HOE.out])
      have hnx := HAT.out.next (by rw [HOE.out])
      rw [HOE.out] at hok hnx
      rw [List.length_drop, HN.out] at hok
      dsimp only at hok hnx
      obtain ⟨ok1, ok2, ok3, _⟩ := hok
      clear ok3
      have hw : IntKind.i64.wrap ((k : Int) + (m : Int)) = ((k + m : Nat) : Int) := by rw [IntWalk.i64_in _ (by omega)]; omega
      have hw2 : IntKind.i64.wrap ((k : Int) + (m : Int)) = (k : Int) + (m : Int) := by rw [IntWalk.i64_in _ (by omega)]
      obtain ⟨hs, hh1, hh2⟩ := HL1.out.all
      have HH1 := Lib.hid hh1
      have HH2 := Lib.hid hh2
      have HNX := Lib.hid hnx
      clear hh1 hh2 hnx HOE HAT
      have hbd : Hid (pre.length + 1 ≤ 9223372036854775807 ∧ (pre.length + 1) * 24 ≤ 140737488355328) := by show _ ∧ _; omega
      have hal : Below w1.heap.size w1 (w1.alloc (.cells #[.slice p1 body.length c1] 22)) := Below.allocs _ _
      have HAL := Lib.hid hal
      have hnew := hdr_sl w1 (.slice p1 body.length c1) 22 w1.heap.size rfl
      have HNEW := Lib.hid hnew
      have HOW := Lib.hid (own_touch HH1.out (Turns.of_below (S := fun _ => False) hal) (fun _ _ h => h))
      clear hal hnew
      go_upto_region 7 with (at_builtin; refine wpList_append_nx rfl _ _ 32 rfl (base := w.heap.size) Tryd.underlying32 infoS rfl (by omega) rfl HOW.out rfl HNEW.out (by simp [Value.oneCell']) hbd.out (by have := HB1.out.size; have := HAL.out.size; omega) ?_)
      intro p' c' w2 hown hg hnx _
      have hpush := Ls.push HH1.out HH2.out HAL.out (own_bs HO1.out) (fun a ha _ => no_own HH1.out HO1.out a ha) hown hg (by simpa using hnx)
      have hb2 := (HB1.out.trans (HAL.out.mono HB1.out.size)).grown hg (by have := HB1.out.size; have := HAL.out.size; omega) (fun i hi => (HH1.out.lt i hi).1)
      have HPU := Lib.hid hpush
      have HB2 := Lib.hid hb2
      clear hpush hb2 hown hg hnx HOW HNEW HAL hbd HH1 HH2 HL1 HO1 HB1
      go_wp2_with fail
      go_roundw
      case rel => exact ⟨k + m, _, by go_num, HPU.out, HNX.out, HB2.out⟩
      case measure => simp [intOf]; omega
    · have hz : (ev != 0) = true := by rw [bne_iff_ne]; exact hev
      have hend := HAT.out.end (by rw [HOE.out]; exact hev)
      have HEND := Lib.hid hend
      clear hend hev HOE HAT
      go_wp2_with fail
      go_ret2
      exact ⟨_, by rw [HEND.out]; rfl, by rw [HEND.out]; exact HL1.out, HB1.out⟩
end Go.Proofs.YtjbjlmdfgpoadaaDoor.Frm
