/- LAYER 12: the walks of the text of bytes. Conditions: bytes and texts of at most 2^40. -/
import Derived.Test.YtiahnoncionmkaaHexPlain
import Derived.Test.YtiahnoncionmkaaBuild
import Derived.Test.YtiahnoncionmkaaParts
import Derived.BigQuiet
import Derived.Deep.QuietTactic
namespace Go.Proofs.Ytiahnoncionmkaa.HexW
open Go.RowKit Bld Go.Mir Go.Mir.Hx Go.Mir.Parts

theorem signs_at (i : Nat) (h : i < 16) (h' : i < (⟨#[48, 49, 50, 51, 52, 53, 54, 55, 56, 57, 97, 98, 99, 100, 101, 102]⟩ : ByteArray).size) : (⟨#[48, 49, 50, 51, 52, 53, 54, 55, 56, 57, 97, 98, 99, 100, 101, 102]⟩ : ByteArray)[i] = sgn i := by
  have key : ∀ j : Fin 16, (⟨#[48, 49, 50, 51, 52, 53, 54, 55, 56, 57, 97, 98, 99, 100, 101, 102]⟩ : ByteArray)[j.val]'(j.isLt) = sgn j.val := by decide
  exact key ⟨i, h⟩

/-! ### a sign's half byte -/
theorem sign_any (c : Nat) (w : World) (h1 : c ≤ 2147483647) :
    Calls Try.prog 25 #[.int .i32 (c : Int)] w fun e w' => e = .returned (.tuple #[.int .u8 (((dig c).getD 0 : Nat) : Int), .bool (dig c).isSome]) ∧ w = w' := by
  by_cases ha : 48 ≤ c ∧ c ≤ 57
  · have HR : Hid (dig c = some (c - 48)) := by show _ = _; unfold dig; rw [if_pos (by omega)]
    obtain ⟨ha1, ha2⟩ := ha
    have b1 : decide ((48 : Int) ≤ (c : Int)) = true := by simp; omega
    have b2 : decide ((c : Int) ≤ 57) = true := by simp; omega
    go_enter Try.func25, Try.ntmps25
    go_wp2
    go_ret2
    rw [HR.out]
    refine ⟨?_, rfl⟩
    simp
    omega
  · by_cases hb : 97 ≤ c ∧ c ≤ 102
    · have HR : Hid (dig c = some (c - 87)) := by show _ = _; unfold dig; rw [if_neg ha, if_pos hb]
      obtain ⟨hb1, hb2⟩ := hb
      clear ha
      have b0 : decide ((48 : Int) ≤ (c : Int)) = true := by simp; omega
      have b1 : decide ((c : Int) ≤ 57) = false := by simp; omega
      have b2 : decide ((97 : Int) ≤ (c : Int)) = true := by simp; omega
      have b3 : decide ((c : Int) ≤ 102) = true := by simp; omega
      go_enter Try.func25, Try.ntmps25
      go_wp2
      go_ret2
      rw [HR.out]
      refine ⟨?_, rfl⟩
      simp
      omega
    · have HR : Hid (dig c = none) := by show _ = _; unfold dig; rw [if_neg ha, if_neg hb]
      by_cases h48 : 48 ≤ c
      · have b0 : decide ((48 : Int) ≤ (c : Int)) = true := by simp; omega
        have b1 : decide ((c : Int) ≤ 57) = false := by simp; omega
        by_cases h97 : 97 ≤ c
        · have b2 : decide ((97 : Int) ≤ (c : Int)) = true := by simp; omega
          have b3 : decide ((c : Int) ≤ 102) = false := by simp; omega
          clear ha hb
          go_enter Try.func25, Try.ntmps25
          go_wp2
          go_ret2
          rw [HR.out]
          exact ⟨rfl, rfl⟩
        · have b2 : decide ((97 : Int) ≤ (c : Int)) = false := by simp; omega
          clear ha hb
          go_enter Try.func25, Try.ntmps25
          go_wp2
          go_ret2
          rw [HR.out]
          exact ⟨rfl, rfl⟩
      · have b0 : decide ((48 : Int) ≤ (c : Int)) = false := by simp; omega
        have b2 : decide ((97 : Int) ≤ (c : Int)) = false := by simp; omega
        clear ha hb
        go_enter Try.func25, Try.ntmps25
        go_wp2
        go_ret2
        rw [HR.out]
        exact ⟨rfl, rfl⟩

set_option maxRecDepth 100000 in
theorem pairs_any (p : Option Addr) (n c : Nat) (l : List UInt8) (w : World) (h : Bs w p n c l) (hn : n ≤ 1099511627776) (h0 : 0 < n) :
    Calls Try.prog 19 #[.slice p n c] w fun e w' => e = .returned (.string ⟨(pairsL l).toArray⟩) ∧ Below w.heap.size w w' := by
  have H := Lib.hid h
  have hl := h.length
  clear h
  go_enter Try.func19, Try.ntmps19
  go_wp2
  have HZ : Hid (BAt (w.alloc (.cells #[.pointer none, .slice none 0 0] 47)) w.heap.size (.slice none 0 0) []) := BAt.fresh w _ rfl
  go_loopw [8] (fun j wr => ∃ (k : Nat) (v : Value), k ≤ n ∧ j = .int .i64 k ∧ BAt wr w.heap.size v (pairsL (l.take k)) ∧ Below w.heap.size w wr ∧ ∀ i, foot w.heap.size v i → w.heap.size ≤ i) (fun j _ => n - (intOf j).toNat)
  case atStart => exact ⟨0, _, by omega, rfl, HZ.out, Below.allocs _ _, fun i hi => by
    rcases hi with rfl | hi
    · exact Nat.le_refl _
    · simp [Value.ownBlock] at hi⟩
  case round =>
    obtain ⟨k, v, hk, rfl, hB, hb, hf⟩ := hrel
    by_cases hlt : k < n
    · obtain ⟨b, o, rfl⟩ := H.out.addr (by omega) (by omega)
      have hc := Bs.byte (H.out.below hb) (j := k) (by omega)
      have hx := (l[k]'(by omega)).toNat_lt
      have HTK := Lib.hid (take_snoc l k (by omega))
      have HPL := Lib.hid (pairsL_length (l.take k))
      have hd : decide ((k : Int) < (n : Int)) = true := by simp; omega
      generalize l[k]'(by omega) = x at *
      have HB := Lib.hid hB
      have HBB := Lib.hid hb
      have HF := Lib.hid hf
      clear hB hb hf
      go_wp2_with fail
      refine (writeByte_any _ v _ _ _ HB.out (by rw [HPL.out, List.length_take]; omega)).mono ?_
      rintro e w1 ⟨rfl, v1, hB1, ht1, hn1⟩
      have HB1 := Lib.hid hB1
      have HT1 := Lib.hid ht1
      have HN1 := Lib.hid hn1
      have HB2 : Hid (Below w.heap.size w w1) := HBB.out.trans (ht1.below HBB.out.size HF.out)
      have HF1 : Hid (∀ i, foot w.heap.size v1 i → w.heap.size ≤ i) := fun i hi => by
        rcases hi with rfl | hi
        · exact Nat.le_refl _
        · by_cases hlt : i < wr.heap.size
          · exact HF.out i (.inr (hn1 i hi hlt))
          · have := HBB.out.size; omega
      clear hB1 ht1 hn1 hc
      go_wp2_with fail
      refine (writeByte_any _ v1 _ _ _ HB1.out (by rw [List.length_append, HPL.out, List.length_take, List.length_singleton]; omega)).mono ?_
      rintro e w2 ⟨rfl, v2, hB2, ht2, hn2⟩
      have HBX := Lib.hid hB2
      have HB3 : Hid (Below w.heap.size w w2) := HB2.out.trans (ht2.below HB2.out.size HF1.out)
      have HF2 : Hid (∀ i, foot w.heap.size v2 i → w.heap.size ≤ i) := fun i hi => by
        rcases hi with rfl | hi
        · exact Nat.le_refl _
        · by_cases hlt : i < w1.heap.size
          · exact HF1.out i (.inr (hn2 i hi hlt))
          · have := HB2.out.size; omega
      clear hB2 ht2 hn2
      go_wp2_with fail
      go_roundw
      case rel =>
        refine ⟨k + 1, v2, by omega, by go_num, ?_, HB3.out, HF2.out⟩
        have := HBX.out
        rw [signs_at _ (by omega), signs_at _ (by omega)] at this
        rw [HTK.out, pairsL_snoc]
        exact this
      case measure => simp [intOf]; omega
    · have hk' : k = l.length := by omega
      rw [hk', List.take_length] at hB
      have HB := Lib.hid hB
      have HBB := Lib.hid hb
      have HF := Lib.hid hf
      have HN : Hid (pairsL l ≠ []) := fun e => by
        have := congrArg List.length e
        rw [pairsL_length, List.length_nil] at this; omega
      have hd : decide ((k : Int) < (n : Int)) = false := by simp; omega
      clear hB hb hf hk'
      go_wp2_with fail
      refine (string_any _ v _ _ HB.out HN.out w.heap.size HF.out).mono ?_
      rintro e w1 ⟨rfl, hb1⟩
      have HB1 := Lib.hid hb1
      clear hb1
      go_wp2_with fail
      go_ret
      exact ⟨rfl, HBB.out.trans HB1.out⟩

/-! ### signs read -/
def ReadP (l : List UInt8) (w : World) (e : Ending) (w' : World) : Prop := Below w.heap.size w w' ∧ ((∃ b p c, readL l = some b ∧ l ≠ [] ∧ e = .returned (.tuple #[.slice p b.length c, .bool true]) ∧ Bs w' p b.length c b ∧ (∀ a, p = some a → w.heap.size ≤ a.block)) ∨ ((readL l = none ∨ l = []) ∧ ∃ v, e = .returned (.tuple #[v, .bool false])))
theorem own_ne_iter {w : World} {base e size n : Nat} {v : Value} {xs : List Value} {k pos : Nat} {s : ByteArray} (h : w.ownsRow base e size v n xs) (hk : w.heap[k]? = some (.stringIter s pos)) : ∀ i, v.ownBlock = some i → ¬ i = k := by
  intro i hi e1
  subst e1
  rcases h.2 with ⟨rfl, _⟩ | ⟨g, cap, cur, rfl, _, hg, _⟩
  · simp [Value.ownBlock] at hi
  · simp [Value.ownBlock] at hi
    subst hi
    rw [hk] at hg; cases hg
theorem turns_iterAt (w : World) (k : Nat) (s : ByteArray) (pos : Nat) : Turns (fun i => i = k) w (w.iterAt k s pos) :=
  ⟨rfl, rfl, rfl, by rw [Lib.iterAt_size]; exact Nat.le_refl _, fun i _ hi => Lib.iterAt_other w k i s pos hi⟩

theorem or_half (h n : Nat) (hh : h < 16) (hn : n < 16) : bits BinOp.or IntKind.u8 ((h : Int) * 16) (n : Int) = ((UInt8.ofNat (16 * h + n)).toNat : Int) := by
  have key : ∀ a b : Fin 16, bits BinOp.or IntKind.u8 ((a.val : Int) * 16) (b.val : Int) = ((UInt8.ofNat (16 * a.val + b.val)).toNat : Int) := by decide
  exact key ⟨h, hh⟩ ⟨n, hn⟩
theorem read_bad (l : List UInt8) (k : Nat) (hk : k < l.length) (h : dig l[k].toNat = none) : readL l = none := by
  have h1 := st_bad l[k] h (l.take k) (l.drop (k + 1)) ([], 0, false)
  rw [← List.drop_eq_getElem_cons hk, List.take_append_drop] at h1
  have h2 := st_end l
  rw [h1] at h2; exact h2.symm
theorem read_fin (l : List UInt8) (y : List UInt8 × Nat × Bool) (h : st ([], 0, false) l = some y) : readL l = if y.2.2 then none else some y.1 := by
  have h2 := st_end l
  rw [h] at h2; exact h2.symm
theorem next_rune (wr : World) (it : Nat) (s : ByteArray) (k : Nat) (hit : wr.heap[it]? = some (.stringIter s k)) (hp : k < s.size) :
    ∃ D Wd : Nat, (∀ ty, (Instr.next (.pointer (some ⟨it, 0, none⟩)) true ty).run Try.prog wr = .ok (.tuple #[.bool true, .int .i64 k, .int .i32 (D : Int)]) (wr.iterAt it s (k + Wd))) ∧ D ≤ 2147483647 ∧ ((D < 128 ∧ D = (s[k]'hp).toNat ∧ Wd = 1) ∨ (128 ≤ D ∧ 128 ≤ (s[k]'hp).toNat ∧ 1 ≤ Wd)) := by
  refine ⟨(Utf8.decode s k).1, (Utf8.decode s k).2, fun ty => Lib.run_next_any_at wr it s k ty hit hp, decode_le s k, ?_⟩
  by_cases ha : (s[k]'hp).toNat < 128
  · rw [decode_ascii s k hp ha]; exact .inl ⟨ha, rfl, rfl⟩
  · have h1 := decode_high s k hp (by omega)
    exact .inr ⟨h1.1, by omega, h1.2⟩
theorem byte_at (s : ByteArray) (k : Nat) (h : k < s.size) : s[k] = s.data.toList[k]'(by simpa using h) := rfl

set_option maxRecDepth 100000 in
theorem read_any (s : ByteArray) (w : World) (hs : s.size ≤ 1099511627776) :
    Calls Try.prog 20 #[.string s] w (ReadP s.data.toList w) := by
  obtain ⟨i0, hi0, hz0, hz1, hz2⟩ := info_parts infoB
  obtain ⟨w1, hmk, hown, hgr⟩ := run_make_own (P := Try.prog) w w.heap.size 30 5 i0 _ 1 Try.underlying30 hi0 hz0 hz1 .i64 .i64 (s.size / 2) (by rw [hz2]; omega) (by unfold maxLen; omega) (Nat.le_refl _)
  have hb1 : Below w.heap.size w w1 := (Below.refl _ _).grown hgr (Nat.le_refl _) (fun k hk => by cases hk)
  have hsz : w.heap.size ≤ w1.heap.size := hb1.size
  rw [show ((s.size / 2 : Nat) : Int) = (s.size : Int) / 2 by omega] at hmk
  clear hi0 hz0 hz1 hz2
  have HO := Lib.hid hown
  have HB1 := Lib.hid hb1
  clear hown hgr hb1
  go_enter Try.func20, Try.ntmps20
  go_wp2
  clear hmk
  have HW1 : Hid (w1.iter s 0 = w1.alloc (.stringIter s 0)) := rfl
  have hls : s.data.toList.length = s.size := by simp
  have HLS := Lib.hid hls
  clear hls
  go_loopw [4, 5, 6] (fun o h f wr => ∃ (k : Nat) (y : List UInt8 × Nat × Bool) (p : Option Addr) (c : Nat), k ≤ s.size ∧ st ([], 0, false) (s.data.toList.take k) = some y ∧ o = .slice p y.1.length c ∧ h = .int .u8 (y.2.1 : Int) ∧ f = .bool y.2.2 ∧ y.2.1 < 16 ∧ y.1.length ≤ k ∧
    wr.ownsRow w.heap.size 5 1 (.slice p y.1.length c) y.1.length (bytesV y.1) ∧ wr.heap[w1.heap.size]? = some (.stringIter s k) ∧ Below w.heap.size w wr) (fun _ _ _ wr => s.size - wr.iterPos w1.heap.size)
  case atStart =>
    refine ⟨0, ([], 0, false), _, _, by omega, rfl, rfl, rfl, rfl, by decide, by simp, ?_, World.iter_heap _ _ _, ?_⟩
    · rw [HW1.out]; exact HO.out.alloc _
    · rw [HW1.out]; exact HB1.out.alloc hsz _
  case round =>
    obtain ⟨k, ⟨o, h, f⟩, p, c, hk, hst, rfl, rfl, rfl, hh, hol, hown, hit, hb⟩ := hrel
    simp only at hst hh hol hown
    have HST := Lib.hid hst
    have HOW := Lib.hid hown
    have HIT := Lib.hid hit
    have HBB := Lib.hid hb
    clear hst hown hit hb
    by_cases hlt : k < s.size
    · obtain ⟨D, Wd, hnx, hD1, hD2⟩ := next_rune wr _ s k HIT.out hlt
      have HTK := Lib.hid (take_snoc s.data.toList k (by rw [HLS.out]; exact hlt))
      have HIT1 := Lib.hid (Lib.iterAt_heap wr _ s k (k + Wd) HIT.out)
      have HB2 := Lib.hid (Lib.below_iterAt HBB.out hsz s (k + Wd))
      have HOW2 : Hid ((wr.iterAt w1.heap.size s (k + Wd)).ownsRow w.heap.size 5 1 (.slice p o.length c) o.length (bytesV o)) := own_touch HOW.out (turns_iterAt _ _ _ _) (fun i hi e => own_ne_iter HOW.out HIT.out i hi e)
      have HD2 := Lib.hid hD2
      clear hD2
      cases hdg : dig D with
      | none =>
        have HDG : Hid (dig D = none) := hdg
        have HRN : Hid (readL s.data.toList = none) := by
          refine read_bad _ k (by rw [HLS.out]; exact hlt) ?_
          rw [← byte_at s k hlt]
          rcases HD2.out with ⟨_, e, _⟩ | ⟨_, e, _⟩
          · rw [← e]; exact hdg
          · exact dig_high e
        clear hdg
        go_wp2_with fail
        refine (sign_any D _ hD1).mono ?_
        rintro e w' ⟨rfl, rfl⟩
        rw [HDG.out]
        go_wp2_with fail
        go_ret2
        exact ⟨HB2.out, .inr ⟨.inl HRN.out, _, rfl⟩⟩
      | some n =>
        have HDG : Hid (dig D = some n) := hdg
        have hn16 := dig_lt hdg
        obtain ⟨h128, hDk, rfl⟩ : D < 128 ∧ D = (s[k]'hlt).toNat ∧ Wd = 1 := by
          rcases HD2.out with h | ⟨h, _⟩
          · exact h
          · rw [dig_high h] at hdg; cases hdg
        have HDK := Lib.hid hDk
        have HST2 : Hid (st ([], 0, false) (s.data.toList.take (k + 1)) = some (stp (o, h, f) n)) := by
          show _ = _
          rw [HTK.out, st_snoc, HST.out, ← byte_at s k hlt, ← hDk, hdg]; rfl
        clear hdg hDk
        cases f with
        | false =>
          go_wp2_with fail
          refine (sign_any D _ hD1).mono ?_
          rintro e w' ⟨rfl, rfl⟩
          rw [HDG.out]
          go_wp2_with fail
          go_roundw
          case rel => exact ⟨k + 1, stp (o, h, false) n, p, c, by omega, HST2.out, rfl, rfl, rfl, hn16, by show o.length ≤ _; omega, HOW2.out, HIT1.out, HB2.out⟩
          case measure => simp [World.iterPos, HIT.out, HIT1.out]; omega
        | true =>
          go_wp2_with fail
          refine (sign_any D _ hD1).mono ?_
          rintro e w' ⟨rfl, rfl⟩
          rw [HDG.out]
          have hor := or_half h n hh hn16
          obtain ⟨x, hx⟩ : ∃ x, x = UInt8.ofNat (16 * h + n) := ⟨_, rfl⟩
          rw [← hx] at hor
          have HX := Lib.hid hx
          clear hx
          have HS : Hid (Bs ((wr.iterAt w1.heap.size s (k + 1)).alloc (.cells #[.int .u8 ((x).toNat : Int)] 5)) (some ⟨(wr.iterAt w1.heap.size s (k + 1)).heap.size, 0, none⟩) 1 1 [x]) := Bs.made _ [x] _ _ _ 1 rfl rfl (by omega)
          have HOX : Hid (((wr.iterAt w1.heap.size s (k + 1)).alloc (.cells #[.int .u8 ((x).toNat : Int)] 5)).ownsRow w.heap.size 5 1 (.slice p o.length c) o.length (bytesV o)) := HOW2.out.alloc _
          have hbs := HB2.out.size
          go_wp2_with (at_builtin; refine wpList_append_nx rfl _ _ 30 rfl (base := w.heap.size) Try.underlying30 infoB rfl (by omega) rfl HOX.out rfl HS.out (bytesV_one _) (by omega) (by simp; omega) ?_)
          intro p' c' w3 hown hg hnx hne
          have hit3 : w3.heap[w1.heap.size]? = some (.stringIter s (k + 1)) := by
            have hi1 := block_old (.cells #[.int .u8 (x.toNat : Int)] 5) HIT1.out
            rw [hg.block _ (Array.getElem?_eq_some_iff.1 hi1).1 (fun e => own_ne_iter HOW2.out HIT1.out _ e.symm rfl)]
            exact hi1
          have hb3 : Below w.heap.size w w3 := (HB2.out.alloc hbs _).grown hg (by simp; omega) (fun i hi => (HOX.out.lt i hi).1)
          have HO3 := Lib.hid hown
          have HIT3 := Lib.hid hit3
          have HB3 := Lib.hid hb3
          clear hown hg hnx hne hit3 hb3 hor
          go_wp2_with fail
          go_roundw
          case rel =>
            refine ⟨k + 1, stp (o, h, true) n, p', c', by omega, HST2.out, ?_, rfl, rfl, hn16, ?_, ?_, HIT3.out, HB3.out⟩
            · simp [stp]
            · simp [stp]; omega
            · have := HO3.out
              simp only [stp, if_true]
              rw [List.length_append, List.length_singleton, bytesV_append, ← HX.out]
              exact this
          case measure => simp [World.iterPos, HIT.out, HIT3.out]; omega
    · obtain rfl : k = s.size := by omega
      have HND : ∀ ty, (Instr.next (.pointer (some ⟨w1.heap.size, 0, none⟩)) true ty).run Try.prog wr = .ok (.tuple #[.bool false]) wr := fun ty => Lib.run_next_end_at wr _ s _ ty HIT.out (by omega)
      have HF : Hid (readL s.data.toList = if f then none else some o) := by
        refine read_fin s.data.toList (o, h, f) ?_
        rw [← HST.out]
        congr 1
        exact (List.take_of_length_le (by rw [HLS.out]; exact Nat.le_refl _)).symm
      cases f with
      | true =>
        go_wp2_with fail
        go_ret2
        exact ⟨HBB.out, .inr ⟨.inl HF.out, _, rfl⟩⟩
      | false =>
        by_cases h0 : 0 < s.size
        · have hd : decide ((0 : Int) < (s.size : Int)) = true := by simp; omega
          go_wp2_with fail
          go_ret2
          refine ⟨HBB.out, .inl ⟨o, p, c, HF.out, fun e => ?_, rfl, ?_, ?_⟩⟩
          · have h1 := HLS.out
            rw [e] at h1
            have h2 : 0 = s.size := h1
            omega
          · obtain ⟨p', c', e', hs'⟩ := own_sl HOW.out
            cases e'; exact hs'
          · intro a ha
            subst ha
            obtain ⟨g, cap, e', hg, _⟩ := own_some HOW.out (by simp)
            cases e'; exact hg
        · have hd : decide ((0 : Int) < (s.size : Int)) = false := decide_eq_false (by omega)
          have HE : Hid (s.data.toList = []) := List.length_eq_zero_iff.1 (by rw [HLS.out]; omega)
          go_wp2_with fail
          go_ret2
          refine ⟨HBB.out, .inr ⟨.inr HE.out, _, rfl⟩⟩
end Go.Proofs.Ytiahnoncionmkaa.HexW
