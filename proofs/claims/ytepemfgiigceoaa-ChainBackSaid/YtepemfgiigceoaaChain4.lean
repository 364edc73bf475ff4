/- THE WALKS OF A CHAIN, on: may a block be connected. Conditions: none. -/
import Derived.Test.YtepemfgiigceoaaChain3
namespace Go.Proofs.Ytepemfgiigceoaa.Chn
open Go.RowKit Go.Mir Go.Mir.Parts Go.Proofs.Ytepemfgiigceoaa.Blk

/-- what is left of a tip told, in one word -/
def TipQ (ds : List BlkD) (w : World) (e : Ending) (w' : World) : Prop := ∃ (A : Array Value) (t : BlkD) (q : Option Addr) (n c : Nat), e = .returned (.tuple #[.agg A, .bool ds.getLast?.isSome]) ∧ BlkAt w' A t q n c ∧ (∀ d, ds.getLast? = some d → t = d) ∧ Below w.heap.size w w'
theorem tip_q {base cb depth height : Nat} {ds : List BlkD} {p : Option Addr} {c : Nat} {rows : List (List Value)} (w : World) (h : ChAt w base cb depth height ds p c rows) :
    Calls Try.prog 16 #[.pointer (some ⟨cb, 0, none⟩)] w (TipQ ds w) := by
  cases hd : ds.getLast? with
  | none =>
    have : ds = [] := List.getLast?_eq_none_iff.1 hd
    subst this
    refine (tip_none w h).mono ?_
    rintro e w' ⟨rfl, hb⟩
    exact ⟨_, ⟨zeros, zeros, []⟩, none, 0, 0, rfl, ⟨rfl, rfl, rfl, Is.nil _ _⟩, fun d hd => by simp at hd, hb⟩
  | some d =>
    have hm : d ∈ ds := List.mem_of_getLast? hd
    refine (tip_any w h d hd (h.few d hm)).mono ?_
    rintro e w' ⟨d', hd', q, c', rfl, ho, hb⟩
    rw [hd] at hd'
    cases hd'
    obtain ⟨i, hi⟩ := List.mem_iff_getElem?.1 hm
    have hlt := (List.getElem?_eq_some_iff.1 hi).1
    obtain ⟨_, _, _, h2, h3, h4, _⟩ := h.each i _ d (List.getElem?_eq_getElem (by rw [h.count]; exact hlt)) hi
    exact ⟨_, d, q, _, c', by rw [hd]; rfl, own_blk h2 h3 h4 rfl ho, fun e he => by rw [hd] at he; cases he; rfl, hb⟩
/-- may a block be connected? -/
def mayE (ds : List BlkD) (height : Nat) (b : BlkD) : Int :=
  if rightB b = false then 4 else if (match ds.getLast? with | some t => !(b.par == t.hash) | none => false) || (findR ds height b.hash).2 then 19 else if height = 4294967295 then 16 else 0

set_option maxRecDepth 100000 in
set_option maxHeartbeats 400000 in
theorem may_any {base cb depth height : Nat} {ds : List BlkD} {p : Option Addr} {c : Nat} {rows : List (List Value)} (w : World) (h : ChAt w base cb depth height ds p c rows) (M : Array Value) (b : BlkD) (q : Option Addr) (n cc : Nat) (hM : BlkAt w M b q n cc) :
    Calls Try.prog 38 #[.pointer (some ⟨cb, 0, none⟩), .agg M] w fun e w' => e = .returned (.int .i64 (mayE ds height b)) ∧ Below w.heap.size w w' := by
  obtain ⟨Z, hz, hZ⟩ := zBlk
  have HZZ := Lib.hid hZ
  have H := Lib.hid h
  have HM := Lib.hid hM
  have HS := Lib.hid hM.size
  have hb1 : Below w.heap.size w (w.alloc (.cells M 33)) := Below.allocs _ _
  have HB1 := Lib.hid hb1
  have H1 := Lib.hid (h.below hb1)
  have HR1 := Lib.hid (heap_alloc_last w (.cells M 33))
  have HHS : Hid ((idA b.hash).toList.length = 32) := by show _ = _; rw [Array.length_toList, idA_size, hM.hlen]
  clear h hb1 hZ hM
  go_enter Try.func38, Try.ntmps38
  go_wp2_with fail
  refine (none_any cb depth _ H1.out.cells.1 H.out.depth1.1).mono ?_
  rintro e w' ⟨rfl, rfl⟩
  go_wp2_with fail
  refine (tip_q _ H1.out).mono ?_
  rintro e w2 ⟨A, t, qt, nt, ct, rfl, ht, hts, hb2⟩
  generalize w.alloc (.cells M 33) = w1 at *
  have HT := Lib.hid ht
  have HTS := Lib.hid hts
  have HB2 := Lib.hid (HB1.out.trans (hb2.mono HB1.out.size))
  have HR2 := Lib.hid (Below.keepOld hb2 HR1.out)
  have HAS := Lib.hid ht.size
  have HAO := Lib.hid ht.one
  have HNW := Lib.hid (box_new w2 Z 33)
  have hbb := box_below w2 Z A 33
  have HBR := Lib.hid (box_row w2 Z A 33)
  have HB3 := Lib.hid (HB2.out.trans (hbb.mono HB2.out.size))
  have HR3 := Lib.hid (Below.keepOld hbb HR2.out)
  have HT3 := Lib.hid (ht.below hbb)
  have HP3 := Lib.hid (HM.out.parts HR3.out).1
  clear ht hts hb2 hbb
  go_wp2_with (first
    | ((with_reducible refine wpStoreAt 5 ?_); refine wpList_store_row rfl 33 _ _ rfl w2.heap.size A rfl rfl 33 Z HNW.out (infoBlk _ HAS.out) (HZZ.out.trans HAS.out.symm) HAO.out ?_)
    | ((with_reducible refine wpAt 19 ?_); refine wpList_load_mid rfl 30 _ rfl w.heap.size 0 rfl (idA b.hash).toList _ HP3.out Try.underlying30 rfl (infoI _ HHS.out) ?_))
  generalize (w2.alloc (.cells Z 33)).setRow w2.heap.size A = w3 at *
  refine (find_any _ (H.out.below HB3.out) b.hash HM.out.hlen).mono ?_
  rintro e w4 ⟨rfl, hb4⟩
  have HB4 := Lib.hid (HB3.out.trans (hb4.mono HB3.out.size))
  have HR4 := Lib.hid (Below.keepOld hb4 HR3.out)
  have HBR4 := Lib.hid (Below.keepOld hb4 HBR.out)
  have HT4 := Lib.hid (HT3.out.below hb4)
  clear hb4
  obtain ⟨v, there, hvt⟩ : ∃ v there, findR ds height b.hash = (v, there) := ⟨_, _, rfl⟩
  have HVT := Lib.hid hvt
  rw [hvt]
  clear hvt
  go_wp2_with ((with_reducible refine wpAt 24 ?_); refine wpList_load_row rfl 33 _ rfl w.heap.size rfl 33 M (0, 0) _ HR4.out Try.underlying33 rfl (infoBlk _ HS.out) ?_)
  refine (right_any M b _ _ _ _ (HM.out.below HB4.out)).mono ?_
  rintro e w5 ⟨rfl, hb5⟩
  have HB5 := Lib.hid (HB4.out.trans (hb5.mono HB4.out.size))
  have HR5 := Lib.hid (Below.keepOld hb5 HR4.out)
  have HBR5 := Lib.hid (Below.keepOld hb5 HBR4.out)
  have HT5 := Lib.hid (HT4.out.below hb5)
  clear hb5
  cases hr : rightB b with
  | false =>
    have HRES : Hid (mayE ds height b = 4) := by show _ = _; unfold mayE; rw [if_pos hr]
    clear hr
    go_wp2_with fail
    go_ret
    exact ⟨by rw [HRES.out]; rfl, HB5.out⟩
  | true =>
    have HRT := Lib.hid hr
    clear hr
    cases hl : ds.getLast? with
    | none =>
      have HTIP : Hid ((match ds.getLast? with | some t => !(b.par == t.hash) | none => false) = false) := by show _ = _; rw [hl]
      have HBN := HB5
      clear hl
      dsimp only [Option.isSome]
      cases there with
      | true =>
        have HRES : Hid (mayE ds height b = 19) := by
          show _ = _; unfold mayE; rw [HRT.out, HVT.out]; simp
        go_wp2_with fail
        go_ret
        exact ⟨by rw [HRES.out]; rfl, HBN.out⟩
      | false =>
        have hch := (H.out.below HBN.out).cells.2.1
        by_cases htop : height = 4294967295
        · have hb : ((height : Int) == 4294967295) = true := by rw [beq_iff_eq]; omega
          have HRES : Hid (mayE ds height b = 16) := by
            show _ = _; unfold mayE; rw [HRT.out, HVT.out, HTIP.out]; simp [htop]
          clear htop
          go_wp2_with fail
          go_ret
          exact ⟨by rw [HRES.out]; rfl, HBN.out⟩
        · have hb : ((height : Int) == 4294967295) = false := by rw [beq_eq_false_iff_ne]; omega
          have HRES : Hid (mayE ds height b = 0) := by
            show _ = _; unfold mayE; rw [HRT.out, HVT.out, HTIP.out]; simp [htop]
          clear htop
          go_wp2_with fail
          go_ret
          exact ⟨by rw [HRES.out]; rfl, HBN.out⟩
    | some d =>
      have htd := HTS.out d hl
      subst htd
      dsimp only [Option.isSome]
      go_wp2_with (first
        | ((with_reducible refine wpAt 30 ?_); refine wpList_load_row_g rfl 33 _ rfl w2.heap.size rfl 33 A (0, 0) _ HBR5.out Try.underlying33 rfl (infoBlk _ HAS.out) ?_)
        | ((with_reducible refine wpAt 31 ?_); refine wpList_load_row_g rfl 33 _ rfl w.heap.size rfl 33 M (0, 0) _ HR5.out Try.underlying33 rfl (infoBlk _ HS.out) ?_))
      refine (child_any A M t b _ _ _ _ _ _ _ HT5.out (HM.out.below HB5.out)).mono ?_
      rintro e w6 ⟨rfl, hb6⟩
      have HBN := Lib.hid (HB5.out.trans (hb6.mono HB5.out.size))
      clear hb6
      cases hpar : b.par == t.hash with
      | false =>
        have HRES : Hid (mayE ds height b = 19) := by
          show _ = _; unfold mayE; rw [HRT.out, hl]; simp [hpar]
        clear hpar hl
        go_wp2_with fail
        go_ret
        exact ⟨by rw [HRES.out]; rfl, HBN.out⟩
      | true =>
        have HTIP : Hid ((match ds.getLast? with | some t => !(b.par == t.hash) | none => false) = false) := by show _ = _; rw [hl]; simp [hpar]
        clear hpar hl
        cases there with
        | true =>
          have HRES : Hid (mayE ds height b = 19) := by
            show _ = _; unfold mayE; rw [HRT.out, HVT.out]; simp
          go_wp2_with fail
          go_ret
          exact ⟨by rw [HRES.out]; rfl, HBN.out⟩
        | false =>
          have hch := (H.out.below HBN.out).cells.2.1
          by_cases htop : height = 4294967295
          · have hb : ((height : Int) == 4294967295) = true := by rw [beq_iff_eq]; omega
            have HRES : Hid (mayE ds height b = 16) := by
              show _ = _; unfold mayE; rw [HRT.out, HVT.out, HTIP.out]; simp [htop]
            clear htop
            go_wp2_with fail
            go_ret
            exact ⟨by rw [HRES.out]; rfl, HBN.out⟩
          · have hb : ((height : Int) == 4294967295) = false := by rw [beq_eq_false_iff_ne]; omega
            have HRES : Hid (mayE ds height b = 0) := by
              show _ = _; unfold mayE; rw [HRT.out, HVT.out, HTIP.out]; simp [htop]
            clear htop
            go_wp2_with fail
            go_ret
            exact ⟨by rw [HRES.out]; rfl, HBN.out⟩
end Go.Proofs.Ytepemfgiigceoaa.Chn
