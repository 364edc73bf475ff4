/- THE WALKS OF THE DOCUMENT'S CHAIN, on: may a block be connected. Conditions: none. -/
import Derived.Test.YtepemfgiigceoaaChRef
namespace Go.Proofs.Ytepemfgiigceoaa.Chn
open Go.RowKit Go.Mir Go.Mir.Parts Go.Proofs.Ytepemfgiigceoaa.Blk

/-- the tip is the parent, or there is none -/
def TipOk (ds : List BlkD) (b : BlkD) : Prop := ds.getLast? = none ∨ ∃ t, ds.getLast? = some t ∧ t.hash = b.par
theorem mayE_ok {ds : List BlkD} {height : Nat} {b : BlkD} (hr : rightB b = true) (ht : TipOk ds b) : mayE ds height b = if (findR ds height b.hash).2 = true then 19 else if height = 4294967295 then 16 else 0 := by
  unfold mayE
  rw [hr]
  rcases ht with h | ⟨t, h, e⟩
  · rw [h]; simp
  · rw [h]; simp [e]
set_option maxRecDepth 100000 in
set_option maxHeartbeats 1600000 in
theorem rMay_any (dep : Int) (height : Nat) (ds : List BlkD) (p : Option Addr) (c : Nat) (rows : List (List Value)) (b : BlkD) (M : Array Value) (q : Option Addr) (n cc : Nat) (w : World) (hW : Bks w p ds.length c ds rows) (hM : BlkAt w M b q n cc) :
    Calls Try.prog 17 #[.agg (rcA dep height p ds.length c), .agg M] w fun e w' => e = .returned (.int .i64 (mayE ds height b)) ∧ Below w.heap.size w w' := by
  have HW := Lib.hid hW
  have HM := Lib.hid hM
  have hle := hW.rs.sl.le
  have hmax := hW.rs.sl.max
  have HMS := Lib.hid hM.size
  obtain ⟨RC, hRC⟩ : ∃ RC, RC = rcA dep height p ds.length c := ⟨_, rfl⟩
  have HRC := Lib.hid hRC
  rw [← hRC]
  have H2 := Lib.hid (two_allocs w (.cells RC 41) (.cells M 33))
  have HB2 := Lib.hid H2.out.2.2.2
  have HBQ2 := Lib.hid (hM.below H2.out.2.2.2)
  have HHL := Lib.hid hM.hlen
  have HPL := Lib.hid hM.plen
  clear hW hM hRC
  go_enter Try.func17, Try.ntmps17
  go_wp2_with ((with_reducible refine wpAt 5 ?_); refine wpList_load_row rfl 33 _ rfl (w.heap.size + 1) rfl 33 M (0, 0) _ H2.out.2.1 Try.underlying33 rfl (infoBlk _ HMS.out) ?_)
  generalize (w.alloc (.cells RC 41)).alloc (.cells M 33) = w2 at *
  refine (rRight_any M b _ _ _ _ HBQ2.out).mono ?_
  rintro e w3 ⟨rfl, hb3⟩
  have HB3 := Lib.hid (HB2.out.trans (hb3.mono HB2.out.size))
  have HR0 := Lib.hid (Below.keepOld hb3 H2.out.1)
  have HR1 := Lib.hid (Below.keepOld hb3 H2.out.2.1)
  have HPB := Lib.hid ((HBQ2.out.below hb3).parts (Below.keepOld hb3 H2.out.2.1))
  have HW3 := Lib.hid (HW.out.below HB3.out)
  clear hb3
  cases hr : rightB b with
  | false =>
    have HRES : Hid (mayE ds height b = 4) := by show _ = _; unfold mayE; rw [if_pos hr]
    clear hr
    go_wp2_with fail
    go_ret
    exact ⟨by rw [HRES.out]; rfl, HB3.out⟩
  | true =>
    have HRT := Lib.hid hr
    clear hr
    have hc2 : w3.cell? ⟨w.heap.size, 2, none⟩ = some (.slice p ds.length c) := by rw [cell_of_row _ _ _ _ _ _ HR0.out, HRC.out]; rfl
    have hg2 := cell_grown hc2
    have HC1 : Hid (w3.cell? ⟨w.heap.size, 1, none⟩ = some (.int .u32 (height : Int))) := by show _ = _; rw [cell_of_row _ _ _ _ _ _ HR0.out, HRC.out]; rfl
    have HRP : Hid (∀ y : Grown w3, y.v.rangeAt (w.heap.size + 1) 32 (idA b.par).toList) := fun y => range_grown HPB.out.2.1 y
    have HRH : Hid (∀ y : Grown w3, y.v.rangeAt (w.heap.size + 1) 0 (idA b.hash).toList) := fun y => range_grown HPB.out.1 y
    clear hc2
    go_wp2_with fail
    cases hl : ds.getLast? with
    | none =>
      have hds : ds = [] := List.getLast?_eq_none_iff.1 hl
      have HTIP : Hid (TipOk ds b) := .inl hl
      clear hl
      subst hds
      simp only [List.length_nil] at hg2
      have HW0 : Hid (Bks w3 p 0 c [] rows) := HW3.out
      refine wp_region_grow (by kernel_rfl) (by kernel_rfl) ?_
      repeat (first
        | ((with_reducible refine wpQuietGd ?_); (with_reducible refine wpQuiet_skip ?_ ?_); (· rfl); simp only [Act.put, List.setIfInBounds_toArray, List.set_cons_zero, List.set_cons_succ])
        | ((with_reducible refine wpQuietAt 30 ?_); refine wpQuiet_load rfl 30 _ rfl (w.heap.size + 1) 0 rfl (idA b.hash) _ HRH.out Try.underlying30 rfl (infoI _ (by rw [idA_size, HHL.out])) ?_)
        | quiet_step ((first | (go_at_call 43; exact Calls.grow_of (rhas_any [] p 0 c rows b.hash _ (HW0.out.below (Grown.b _)) HHL.out)))))
      refine wpQuiet_nil ?_
      intro w4 hb4
      have hc1 : w4.cell? ⟨w.heap.size, 1, none⟩ = some (.int .u32 (height : Int)) := cell_below HC1.out hb4
      have HB4 := Lib.hid (HB3.out.trans (hb4.mono HB3.out.size))
      clear hb4 hg2
      cases hth : (findR [] height b.hash).2 with
      | true =>
        have hx : decide ((0 : Int) ≤ hasR [] b.hash) = true := (hasR_ge [] height b.hash).trans hth
        have hxl : (0 : Int) ≤ hasR [] b.hash := of_decide_eq_true hx
        have HRES : Hid (mayE [] height b = 19) := by show _ = _; rw [mayE_ok HRT.out HTIP.out, hth]; rfl
        clear hth
        generalize hasR [] b.hash = E at *
        go_wp2_with fail
        go_ret
        exact ⟨by rw [HRES.out]; rfl, HB4.out⟩
      | false =>
        have hx : decide ((0 : Int) ≤ hasR [] b.hash) = false := (hasR_ge [] height b.hash).trans hth
        have hxl : hasR [] b.hash < 0 := by have := of_decide_eq_false hx; omega
        by_cases htop : height = 4294967295
        · have hb : ((height : Int) == 4294967295) = true := by rw [beq_iff_eq]; omega
          have HRES : Hid (mayE [] height b = 16) := by show _ = _; rw [mayE_ok HRT.out HTIP.out, hth]; simp [htop]
          clear htop hth
          generalize hasR [] b.hash = E at *
          go_wp2_with fail
          go_ret
          exact ⟨by rw [HRES.out]; rfl, HB4.out⟩
        · have hb : ((height : Int) == 4294967295) = false := by rw [beq_eq_false_iff_ne]; omega
          have HRES : Hid (mayE [] height b = 0) := by show _ = _; rw [mayE_ok HRT.out HTIP.out, hth]; simp [htop]
          clear htop hth
          generalize hasR [] b.hash = E at *
          go_wp2_with fail
          go_ret
          exact ⟨by rw [HRES.out]; rfl, HB4.out⟩
    | some t =>
      have hlen : 0 < ds.length := by cases ds with | nil => simp at hl | cons a r => simp
      have hl0 : decide ((0 : Int) < (ds.length : Int)) = true := decide_eq_true (by omega)
      obtain ⟨i, hi⟩ : ∃ i, i + 1 = ds.length := ⟨ds.length - 1, by omega⟩
      have hsub : (ds.length : Int) - 1 = (i : Int) := by omega
      have hwi : IntKind.i64.wrap ((ds.length : Int) - 1) = (i : Int) := by rw [hsub]; exact IntWalk.i64_in _ (by omega)
      have hwi2 : IntKind.i64.wrap (i : Int) = (i : Int) := IntWalk.i64_in _ (by omega)
      have hin : (i : Int) < (ds.length : Int) := by omega
      have hi0 : (0 : Int) ≤ (i : Int) := by omega
      obtain ⟨bb, oo, rfl⟩ := HW3.out.rs.sl.addr (by omega) (by omega)
      obtain ⟨q', c', hbt, hrg⟩ := HW3.out.at i (by omega)
      have htd : ds[i] = t := by
        have := hl
        rw [List.getLast?_eq_getElem?, show ds.length - 1 = i by omega, List.getElem?_eq_getElem (by omega)] at this
        exact Option.some.inj this
      rw [htd] at hbt hrg
      have HTL := Lib.hid hbt.hlen
      have HRG : Hid (∀ y : Grown w3, y.v.rangeAt bb (oo + i * 65) (idA t.hash).toList) := fun y => by
        have h1 := range_grown hrg y
        intro j v hv
        refine h1 j v ?_
        rw [blkA_toList, List.append_assoc, List.getElem?_append_left (by have := (List.getElem?_eq_some_iff.1 hv).1; rwa [idA_toList] at this)]
        rwa [idA_toList] at hv
      have hq : ∀ w, (Op.equalIn 10000 30 (.agg (idA t.hash)) (.agg (idA b.par))).run Try.prog w = .ok (t.hash == b.par) w := fun w => eqI w t.hash b.par HTL.out HPL.out
      clear hbt hrg htd
      by_cases hpar : t.hash = b.par
      · have hpb : (t.hash == b.par) = true := by rw [beq_iff_eq]; exact hpar
        have HTIP : Hid (TipOk ds b) := .inr ⟨t, hl, hpar⟩
        clear hpar hl
        refine wp_region_grow (by kernel_rfl) (by kernel_rfl) ?_
        repeat (first
          | ((with_reducible refine wpQuietGd ?_); (with_reducible refine wpQuiet_skip ?_ ?_); (· rfl); simp only [Act.put, List.setIfInBounds_toArray, List.set_cons_zero, List.set_cons_succ])
          | ((with_reducible refine wpQuietAt 21 ?_); refine wpQuiet_load rfl 30 _ rfl bb (oo + i * 65) rfl (idA t.hash) _ HRG.out Try.underlying30 rfl (infoI _ (by rw [idA_size, HTL.out])) ?_)
          | ((with_reducible refine wpQuietAt 23 ?_); refine wpQuiet_load rfl 30 _ rfl (w.heap.size + 1) 32 rfl (idA b.par) _ HRP.out Try.underlying30 rfl (infoI _ (by rw [idA_size, HPL.out])) ?_)
          | ((with_reducible refine wpQuietAt 30 ?_); refine wpQuiet_load rfl 30 _ rfl (w.heap.size + 1) 0 rfl (idA b.hash) _ HRH.out Try.underlying30 rfl (infoI _ (by rw [idA_size, HHL.out])) ?_)
          | quiet_step ((first | (go_at_call 43; exact Calls.grow_of (rhas_any ds _ _ c rows b.hash _ (HW3.out.below (Grown.b _)) HHL.out)))))
        refine wpQuiet_nil ?_
        intro w4 hb4
        clear hq
        have hc1 : w4.cell? ⟨w.heap.size, 1, none⟩ = some (.int .u32 (height : Int)) := cell_below HC1.out hb4
        have HB4 := Lib.hid (HB3.out.trans (hb4.mono HB3.out.size))
        clear hb4 hg2
        cases hth : (findR ds height b.hash).2 with
        | true =>
          have hx : decide ((0 : Int) ≤ hasR ds b.hash) = true := (hasR_ge ds height b.hash).trans hth
          have hxl : (0 : Int) ≤ hasR ds b.hash := of_decide_eq_true hx
          have HRES : Hid (mayE ds height b = 19) := by show _ = _; rw [mayE_ok HRT.out HTIP.out, hth]; rfl
          clear hth
          generalize hasR ds b.hash = E at *
          go_wp2_with fail
          go_ret
          exact ⟨by rw [HRES.out]; rfl, HB4.out⟩
        | false =>
          have hx : decide ((0 : Int) ≤ hasR ds b.hash) = false := (hasR_ge ds height b.hash).trans hth
          have hxl : hasR ds b.hash < 0 := by have := of_decide_eq_false hx; omega
          by_cases htop : height = 4294967295
          · have hb : ((height : Int) == 4294967295) = true := by rw [beq_iff_eq]; omega
            have HRES : Hid (mayE ds height b = 16) := by show _ = _; rw [mayE_ok HRT.out HTIP.out, hth]; simp [htop]
            clear htop hth
            generalize hasR ds b.hash = E at *
            go_wp2_with fail
            go_ret
            exact ⟨by rw [HRES.out]; rfl, HB4.out⟩
          · have hb : ((height : Int) == 4294967295) = false := by rw [beq_eq_false_iff_ne]; omega
            have HRES : Hid (mayE ds height b = 0) := by show _ = _; rw [mayE_ok HRT.out HTIP.out, hth]; simp [htop]
            clear htop hth
            generalize hasR ds b.hash = E at *
            go_wp2_with fail
            go_ret
            exact ⟨by rw [HRES.out]; rfl, HB4.out⟩
      · have hpb : (t.hash == b.par) = false := by rw [beq_eq_false_iff_ne]; exact hpar
        have HRES : Hid (mayE ds height b = 19) := by
          show _ = _; unfold mayE; rw [HRT.out, hl]
          have : (b.par == t.hash) = false := by rw [beq_eq_false_iff_ne]; exact fun e => hpar e.symm
          simp [this]
        clear hpar hl
        refine wp_region_grow (by kernel_rfl) (by kernel_rfl) ?_
        repeat (first
          | ((with_reducible refine wpQuietGd ?_); (with_reducible refine wpQuiet_skip ?_ ?_); (· rfl); simp only [Act.put, List.setIfInBounds_toArray, List.set_cons_zero, List.set_cons_succ])
          | ((with_reducible refine wpQuietAt 21 ?_); refine wpQuiet_load rfl 30 _ rfl bb (oo + i * 65) rfl (idA t.hash) _ HRG.out Try.underlying30 rfl (infoI _ (by rw [idA_size, HTL.out])) ?_)
          | ((with_reducible refine wpQuietAt 23 ?_); refine wpQuiet_load rfl 30 _ rfl (w.heap.size + 1) 32 rfl (idA b.par) _ HRP.out Try.underlying30 rfl (infoI _ (by rw [idA_size, HPL.out])) ?_)
          | quiet_step (fail))
        refine wpQuiet_nil ?_
        intro w4 hb4
        have HB4 := Lib.hid (HB3.out.trans (hb4.mono HB3.out.size))
        clear hb4 hg2 hq
        go_wp2_with fail
        go_ret
        exact ⟨by rw [HRES.out]; rfl, HB4.out⟩
end Go.Proofs.Ytepemfgiigceoaa.Chn
