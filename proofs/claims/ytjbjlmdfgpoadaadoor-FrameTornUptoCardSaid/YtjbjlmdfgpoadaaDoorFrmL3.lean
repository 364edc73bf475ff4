/- LAYER 19: FrameTorn: frames one behind the other, and any beginning of one more. Conditions: the laid cell of errors.errorType; a bulk that an int holds. -/
import Derived.Test.YtjbjlmdfgpoadaaDoorFrmA
import Derived.Test.YtjbjlmdfgpoadaaDoorRef02
namespace Go.Proofs.YtjbjlmdfgpoadaaDoor.Frm
open Go.RowKit Go.Mir Go.Mir.Parts Wr Cod Cut Rdr

/-- those that may be framed -/
def oks (ls : List (List UInt8)) : List (List UInt8) := ls.filter fun x => decide (1 ≤ x.length)
theorem oks_take (ls : List (List UInt8)) (k : Nat) (hk : k < ls.length) : oks (ls.take (k + 1)) = if 1 ≤ ls[k].length then oks (ls.take k) ++ [ls[k]] else oks (ls.take k) := by
  rw [take_snoc ls k hk]
  unfold oks
  rw [List.filter_append]
  split <;> rename_i h <;> simp [h]
theorem total_cons (x : List UInt8) (r : List (List UInt8)) : R02.total (x :: r) = x.length + R02.total r := by simp [R02.total]
theorem oks_bulk : ∀ (ls : List (List UInt8)), ((oks ls).flatMap frame).length ≤ 9 * R02.total ls ∧ (oks ls).length ≤ R02.total ls
  | [] => by simp [oks]
  | x :: r => by
    have ih := oks_bulk r
    rw [total_cons]
    unfold oks at ih ⊢
    rw [List.filter_cons]
    split
    · rename_i h
      have h1 : 1 ≤ x.length := by simpa using h
      rw [List.flatMap_cons, List.length_append, frame_length, List.length_cons]
      omega
    · omega
theorem total_elem : ∀ (ls : List (List UInt8)) (j : Nat) (hj : j < ls.length), ls[j].length ≤ R02.total ls
  | x :: r, 0, _ => by rw [total_cons]; simp
  | x :: r, j + 1, hj => by
    have := total_elem r j (by simpa using hj)
    rw [total_cons]
    simp only [List.getElem_cons_succ]
    omega
theorem total_oks (ls : List (List UInt8)) : R02.total (ls.take 0) = 0 := by simp [R02.total]
set_option maxRecDepth 100000 in
set_option maxHeartbeats 3200000 in
theorem law_torn (p0 p1 : Option Addr) (n0 c0 n1 c1 : Nat) (ls : List (List UInt8)) (l1 : List UInt8) (k : Nat) (hk : k < 65536) (w : World) (hE : EType w) (hP : Pts w p0 n0 c0 ls) (hs : n0 + R02.total ls ≤ 4611686018427387904) (hB1 : Bs w p1 n1 c1 l1) :
    Calls Tryd.prog 5 #[.slice p0 n0 c0, .slice p1 n1 c1, .int .u16 (k : Int)] w fun e w' => e = .returned (.bool true) ∧ Below w.heap.size w w' := by
  have HE := Lib.hid hE
  have HP := Lib.hid hP
  have HC := Lib.hid hB1
  have HNP := Lib.hid hP.len
  have HNC := Lib.hid hB1.length
  have hla := hP.le
  have hma := hP.max
  have hlc := hB1.le
  have hmc := hB1.max
  have HFEW := Lib.hid (R02.few_any p0 n0 c0 ls 1000 w hP hs (by omega))
  clear hE hP hB1
  have HB2 : Hid (Below w.heap.size w w) := Below.refl _ _
  have HE2 := HE
  by_cases hfew : n0 + R02.total ls ≤ 1000
  rotate_left
  · have HD : Hid (decide (n0 + R02.total ls ≤ 1000) = false) := decide_eq_false hfew
    clear hfew hs
    go_enter Tryd.func5, Tryd.ntmps5
    go_wp2_with fail
    refine HFEW.out.mono ?_
    rintro e w' ⟨rfl, rfl⟩
    rw [HD.out]
    skip
    go_wp2_with fail
    refine (alive19_any _ HE2.out).mono ?_
    rintro e w9 ⟨rfl, hb9⟩
    have HB9 := Lib.hid (HB2.out.trans (hb9.mono HB2.out.size))
    clear hb9
    go_wp2_with fail
    go_ret
    exact ⟨rfl, HB9.out⟩
  have HD : Hid (decide (n0 + R02.total ls ≤ 1000) = true) := decide_eq_true hfew
  by_cases h1 : 300 < n1
  · have d1 : decide ((300 : Int) < (n1 : Int)) = true := decide_eq_true (by omega)
    go_enter Tryd.func5, Tryd.ntmps5
    go_wp2_with fail
    refine HFEW.out.mono ?_
    rintro e w' ⟨rfl, rfl⟩
    rw [HD.out]
    skip
    go_wp2_with fail
    refine (alive19_any _ HE2.out).mono ?_
    rintro e w9 ⟨rfl, hb9⟩
    have HB9 := Lib.hid (HB2.out.trans (hb9.mono HB2.out.size))
    clear hb9
    go_wp2_with fail
    go_ret
    exact ⟨rfl, HB9.out⟩
  have d1 : decide ((300 : Int) < (n1 : Int)) = false := decide_eq_false (by omega)
  by_cases hz : n1 = 0
  · have d2 : ((n1 : Int) == 0) = true := by rw [beq_iff_eq]; omega
    subst hz
    go_enter Tryd.func5, Tryd.ntmps5
    go_wp2_with fail
    refine HFEW.out.mono ?_
    rintro e w' ⟨rfl, rfl⟩
    rw [HD.out]
    skip
    go_wp2_with fail
    refine (alive19_any _ HE2.out).mono ?_
    rintro e w9 ⟨rfl, hb9⟩
    have HB9 := Lib.hid (HB2.out.trans (hb9.mono HB2.out.size))
    clear hb9
    go_wp2_with fail
    go_ret
    exact ⟨rfl, HB9.out⟩
  have d2 : ((n1 : Int) == 0) = false := by rw [beq_eq_false_iff_ne]; omega
  clear HB2 HE2
  have HTOT := Lib.hid hfew
  go_enter Tryd.func5, Tryd.ntmps5
  go_wp2_with fail
  refine HFEW.out.mono ?_
  rintro e w' ⟨rfl, rfl⟩
  rw [HD.out]
  clear HD HFEW
  go_wp2_with fail
  go_loopw [7, 8, 34] (fun x u j wr => ∃ i : Nat, i ≤ n0 ∧ j = .int .i64 i ∧ wr.ownsRow w.heap.size 5 1 x ((oks (ls.take i)).flatMap frame).length (bytesV ((oks (ls.take i)).flatMap frame)) ∧ LsA w wr w.heap.size u (oks (ls.take i)) ∧ Below w.heap.size w wr) (fun _ _ j _ => n0 - (intOf j).toNat)
  case atStart => exact ⟨0, by omega, rfl, World.ownsRow_nil _ _ _ _, LsA.nil _ _ _, Below.refl _ _⟩
  case round =>
    obtain ⟨i, hi, rfl, hob, hlw, hbl⟩ := hrel
    have HOB := Lib.hid hob
    have HLW := Lib.hid hlw
    have HBL := Lib.hid hbl
    clear hob hlw hbl
    by_cases hlt : i < n0
    · obtain ⟨b, o, rfl⟩ := HP.out.addr (by omega)
      have hil : i < ls.length := by rw [HNP.out]; exact hlt
      obtain ⟨q, m, d, hcell, hbx⟩ := (HP.out.below HBL.out).cell _ rfl i hil
      rw [add_none] at hcell
      have hote := oks_take ls i hil
      have htot := total_elem ls i hil
      have hbulk := oks_bulk (ls.take i)
      have htt := R02.total_le ls i
      have hbx0 : Bs w q m d (ls[i]'hil) := by
        obtain ⟨q', m', d', hc', hb'⟩ := HP.out.cell _ rfl i hil
        rw [add_none] at hc'
        have := cell_below hc' HBL.out
        rw [hcell] at this
        injection this with e1
        injection e1 with e2 e3 e4
        subst e2 e3 e4
        exact hb'
      have hxl := hbx.length
      generalize ls[i]'hil = x at *
      have hm1 : m ≤ 1000 := by have := HTOT.out; omega
      have hdi : decide ((i : Int) < (n0 : Int)) = true := decide_eq_true (by omega)
      have hdi2 : decide (i < n0) = true := decide_eq_true hlt
      have H1 := encode_any q m d x wr hbx (by omega)
      have HBX0 := Lib.hid hbx0
      have HBK : Hid (((oks (ls.take i)).flatMap frame).length ≤ 9000 ∧ (oks (ls.take i)).length ≤ 1000) := by show _ ∧ _; have := HTOT.out; omega
      have HXL := Lib.hid hxl
      have HOTE := Lib.hid hote
      clear hbx hbx0 hbulk htt htot hxl hote
      by_cases hx0 : m = 0
      · rw [enc_no (by rw [HXL.out]; exact hx0)] at H1
        have H1 := Lib.hid H1
        have HNX : Hid (oks (ls.take (i + 1)) = oks (ls.take i)) := by show _ = _; rw [HOTE.out, if_neg (by rw [HXL.out]; omega)]
        clear hx0
        go_wp2_with fail
        refine H1.out.mono ?_
        rintro e w1 ⟨p2, c2, rfl, -, hb1⟩
        have HB1 := Lib.hid (HBL.out.trans (hb1.mono HBL.out.size))
        have HOB1 := Lib.hid (own_touch HOB.out (Turns.of_below (S := fun _ => False) hb1) (fun _ _ h => h))
        have HLW1 := Lib.hid (HLW.out.below hb1)
        clear hb1 H1 hcell
        go_wp2_with fail
        go_roundw
        case rel => exact ⟨i + 1, by omega, by go_num, by rw [HNX.out]; exact HOB1.out, by rw [HNX.out]; exact HLW1.out, HB1.out⟩
        case measure => simp [intOf]; omega
      · have HX1 : Hid (1 ≤ x.length) := by show _ ≤ _; rw [HXL.out]; omega
        rw [enc_ok HX1.out] at H1
        dsimp only at H1
        rw [frame_length, HXL.out] at H1
        have H1 := Lib.hid H1
        have HNX : Hid (oks (ls.take (i + 1)) = oks (ls.take i) ++ [x]) := by show _ = _; rw [HOTE.out, if_pos HX1.out]
        clear hx0 HOTE
        go_wp2_with fail
        refine H1.out.mono ?_
        rintro e w1 ⟨p2, c2, rfl, ho1, hb1⟩
        have HB1 := Lib.hid (HBL.out.trans (hb1.mono HBL.out.size))
        have HO := Lib.hid (own_touch HOB.out (Turns.of_below (S := fun _ => False) hb1) (fun _ _ h => h))
        have HLW1 := Lib.hid (HLW.out.below hb1)
        have HSX := Lib.hid (own_bs ho1)
        have HBB := Lib.hid hb1
        clear hb1 H1 hcell ho1 HLW HOB
        obtain ⟨K, hK⟩ : ∃ K, ((oks (ls.take i)).flatMap frame).length = K := ⟨_, rfl⟩
        have hbk := HBK.out
        rw [hK] at HO hbk
        have HK := Lib.hid hK
        clear hK
        have hlx := HSX.out.le
        have hmx := HSX.out.max
        go_upto_region 11 with (at_builtin; refine wpList_append_nx rfl _ _ 22 rfl (base := w.heap.size) Tryd.underlying22 info8b rfl (by omega) rfl HO.out rfl HSX.out (bytesV_one _) ⟨by omega, by omega⟩ HB1.out.size ?_)
        intro p9 c9 x9 ho9 hg9 _ hp9
        have hb9 := HB1.out.grown hg9 HB1.out.size (fun k hk => (HO.out.lt k hk).1)
        have hob9 : x9.ownsRow w.heap.size 5 1 (.slice p9 (K + (8 + m)) c9) (K + (8 + m)) (bytesV ((oks (ls.take (i + 1))).flatMap frame)) := by
          rw [HNX.out, List.flatMap_append, List.flatMap_singleton, bytesV_append]; exact ho9
        have hlw9 := HLW1.out.touch (Turns.grown hg9 (fun k hk => hk)) (fun k hk hk2 => by
          obtain ⟨hs, a, _⟩ := HLW1.out.all
          exact own_apart a HO.out (by decide) k hk hk2)
        have HB9 := Lib.hid hb9
        have HOB9 := Lib.hid hob9
        obtain ⟨hs, hh1, hh2⟩ := hlw9.all
        have HH1 := Lib.hid hh1
        have HH2 := Lib.hid hh2
        clear hb9 hob9 hlw9 ho9 hg9 hp9 HLW1 HO HB1 HSX hlx hmx hh1 hh2 HBB
        have hal : Below x9.heap.size x9 (x9.alloc (.cells #[.slice q m d] 22)) := Below.allocs _ _
        have HAL := Lib.hid hal
        have HNEW := Lib.hid (hdr_sl x9 (.slice q m d) 22 x9.heap.size rfl)
        have HOW := Lib.hid (own_touch HH1.out (Turns.of_below (S := fun _ => False) hal) (fun _ _ h => h))
        clear hal
        go_upto_region 12 with (at_builtin; refine wpList_append_nx rfl _ _ 32 rfl (base := w.heap.size) Tryd.underlying32 infoS rfl (by omega) rfl HOW.out rfl HNEW.out (by simp [Value.oneCell']) ⟨by omega, by omega⟩ (by have := HB9.out.size; have := HAL.out.size; omega) ?_)
        intro p10 c10 x10 ho10 hg10 _ hp10
        have hb10 := (HB9.out.trans (HAL.out.mono HB9.out.size)).grown hg10 (by have := HB9.out.size; have := HAL.out.size; omega) (fun k hk => (HH1.out.lt k hk).1)
        have hpu := LsA.push HH1.out HH2.out (show Bs w q x.length d x by rw [HXL.out]; exact HBX0.out) (show x10.ownsRow w.heap.size 22 1 _ ((oks (ls.take i)).length + 1) (hs ++ [.slice q x.length d]) by rw [HXL.out]; exact ho10)
        have hob10 := own_touch HOB9.out ((Turns.of_below HAL.out).trans (Turns.grown hg10 (fun k hk => hk)) (fun _ _ h => h)) (fun k hk hk2 => own_apart HOB9.out HH1.out (by decide) k hk hk2)
        have HB10 := Lib.hid hb10
        have HPU := Lib.hid hpu
        have HOB10 := Lib.hid hob10
        have HLEN : Hid (((oks (ls.take (i + 1))).flatMap frame).length = K + (8 + m)) := by show _ = _; rw [HNX.out, List.flatMap_append, List.length_append, List.flatMap_singleton, frame_length, HXL.out, HK.out]
        clear hb10 hpu hob10 ho10 hg10 hp10 HOW HNEW HAL HH1 HH2 HOB9 HB9
        go_wp2_with fail
        go_roundw
        case rel => exact ⟨i + 1, by omega, by go_num, by rw [HLEN.out]; exact HOB10.out, by rw [HNX.out]; exact HPU.out, HB10.out⟩
        case measure => simp [intOf]; omega
    · have hin : i = n0 := by omega
      have htk : ls.take i = ls := List.take_of_length_le (by rw [HNP.out]; omega)
      rw [htk] at HOB HLW
      have hdi : decide ((i : Int) < (n0 : Int)) = false := decide_eq_false (by omega)
      have hdi2 : decide (i < n0) = false := decide_eq_false hlt
      have hbulk := oks_bulk ls
      have HX1 : Hid (1 ≤ l1.length) := by show _ ≤ _; rw [HNC.out]; omega
      have HX2 : Hid (l1.length ≤ 65536) := by show _ ≤ _; rw [HNC.out]; omega
      have H1 := encode_any p1 n1 c1 l1 wr (HC.out.below HBL.out) (by omega)
      rw [enc_ok HX1.out] at H1
      dsimp only at H1
      rw [frame_length, HNC.out] at H1
      have H1 := Lib.hid H1
      obtain ⟨pb, cb, hpb, -⟩ := own_sl HOB.out
      subst hpb
      have hbk : ((oks ls).flatMap frame).length ≤ 9000 := by have := HTOT.out; omega
      have HLN : Hid ((oks ls).flatMap frame = (oks ls).flatMap frame) := rfl
      have hall : ∀ x ∈ oks ls, 1 ≤ x.length ∧ x.length ≤ 65536 := fun x hx => by
        unfold oks at hx
        rw [List.mem_filter] at hx
        obtain ⟨j, hj, rfl⟩ := List.mem_iff_getElem.1 hx.1
        have h1 := total_elem ls j hj
        have h2 := HTOT.out
        have h3 : 1 ≤ ls[j].length := by simpa using hx.2
        exact ⟨h3, by omega⟩
      obtain ⟨T, hT⟩ : ∃ T, T = k % (8 + n1) := ⟨_, rfl⟩
      have hT2 : T < 8 + n1 := by rw [hT]; exact Nat.mod_lt _ (by omega)
      have hTi : (k : Int) % (8 + (n1 : Int)) = (T : Int) := by rw [hT, show (8 : Int) + (n1 : Int) = ((8 + n1 : Nat) : Int) by omega, ← Int.natCast_emod]
      have hsc := scan_frames ((frame l1).take T) (by rw [one_torn l1 HX1.out HX2.out T (by rw [HNC.out]; exact hT2)]; simp) (oks ls) hall
      have HSC := Lib.hid hsc
      have hdz : ((8 + (n1 : Int)) == 0) = false := by rw [beq_eq_false_iff_ne]; omega
      clear hsc hall hbulk htk hT HLN
      generalize hB : (oks ls).flatMap frame = B at *
      obtain ⟨K, hK⟩ : ∃ K, B.length = K := ⟨_, rfl⟩
      rw [hK] at HOB hbk
      have HK := Lib.hid hK
      rw [hK] at HSC
      rw [hK]
      clear hK hB
      go_wp2_with fail
      refine H1.out.mono ?_
      rintro e w1 ⟨p2, c2, rfl, ho1, hb1⟩
      have HB1 := Lib.hid (HBL.out.trans (hb1.mono HBL.out.size))
      have HO := Lib.hid (own_touch HOB.out (Turns.of_below (S := fun _ => False) hb1) (fun _ _ h => h))
      have HLW1 := Lib.hid (HLW.out.below hb1)
      have HSX := Lib.hid (bs_take (own_bs ho1) (k := T) (by omega))
      have hcut := cut0 (own_bs ho1) T (T : Int) rfl (by omega)
      clear hb1 H1 ho1 HLW HOB
      have hlx := HSX.out.le
      have hmx := HSX.out.max
      go_upto_region 18 with (at_builtin; refine wpList_append_nx rfl _ _ 22 rfl (base := w.heap.size) Tryd.underlying22 info8b rfl (by omega) rfl HO.out rfl HSX.out (bytesV_one _) ⟨by omega, by omega⟩ HB1.out.size ?_)
      intro p9 c9 x9 ho9 hg9 _ hp9
      rw [← bytesV_append] at ho9
      have hb9 := HB1.out.grown hg9 HB1.out.size (fun k hk => (HO.out.lt k hk).1)
      have hlw9 := HLW1.out.touch (Turns.grown hg9 (fun k hk => hk)) (fun k hk hk2 => by
        obtain ⟨hs, a, _⟩ := HLW1.out.all
        exact own_apart a HO.out (by decide) k hk hk2)
      have hE9 := HE.out.below hb9 HE.out.lt
      have hs9 := own_bs ho9
      have H2 := scan_any p9 (K + T) c9 (B ++ (frame l1).take T) x9 hE9 hs9 (bs_block hs9) (by omega)
      unfold ScanP at H2
      rw [HSC.out] at H2
      have H2 := Lib.hid H2
      have HB9 := Lib.hid hb9
      have HLW9 := Lib.hid hlw9
      clear ho9 hg9 hp9 hb9 hlw9 hE9 hs9 HO HLW1 HSX hcut hlx hmx hTi
      go_wp2_with fail
      refine H2.out.mono ?_
      rintro e w2 ⟨v, rfl, hls, hb2⟩
      obtain ⟨pv, cv, rfl, hpv⟩ := hls.sl
      have HBW := Lib.hid (HB9.out.trans (hb2.mono HB9.out.size))
      obtain ⟨pw, cw, hpw, hpt⟩ := (HLW9.out.below hb2).sl HBW.out
      subst hpw
      have HPV := Lib.hid hpv
      have HPT := Lib.hid hpt
      clear hls hpv hpt H2 HLW9 HB9 hb2
      dsimp only
      go_wp2_with fail
      refine (same_any _ _ _ _ _ _ _ _ _ HPV.out HPT.out).mono ?_
      rintro e w3 ⟨rfl, hb3⟩
      have HB2 := Lib.hid (HBW.out.trans (hb3.mono HBW.out.size))
      have HE2 := Lib.hid (HE.out.below HB2.out HE.out.lt)
      have hsame : (oks ls == oks ls) = true := by rw [beq_iff_eq]
      rw [hsame]
      clear hb3 hsame
      skip
      go_wp2_with fail
      refine (alive19_any _ HE2.out).mono ?_
      rintro e w9 ⟨rfl, hb9⟩
      have HB9 := Lib.hid (HB2.out.trans (hb9.mono HB2.out.size))
      clear hb9
      go_wp2_with fail
      go_ret
      exact ⟨rfl, HB9.out⟩
end Go.Proofs.YtjbjlmdfgpoadaaDoor.Frm
