/- FRAMES: the reference: One. Conditions: at most 2^40 bytes. -/
import Derived.Test.YtjbjlmdfgpoadaaDoorFrm5
import Derived.Test.YtjbjlmdfgpoadaaDoorCut
import Derived.Test.YtjbjlmdfgpoadaaDoorEager2
import Derived.Test.YtjbjlmdfgpoadaaDoorEager3
namespace Go.Proofs.YtjbjlmdfgpoadaaDoor.Frm
open Go.RowKit Go.Mir Go.Mir.Parts Wr Cod Cut

theorem results_tmp3 {P : Program} {fn : Func} {p q r : Tmp} (h : fn.results = #[.tmp p, .tmp q, .tmp r]) (tmps : Array Value) (w : World) :
    (results fn tmps).run P w = .ok (.tuple #[tmps.getD p undef, tmps.getD q undef, tmps.getD r undef]) w := by
  simp [results, h]
/-- the first frame -/
def one (l : List UInt8) : List UInt8 × Nat × Int :=
  if l.length < 4 then ([], 0, 2)
  else if Rdr.beN (l.take 4) < 1 ∨ 65536 < Rdr.beN (l.take 4) then ([], 0, 4)
  else if l.length < 8 + Rdr.beN (l.take 4) then ([], 0, 2)
  else if frame ((l.drop 8).take (Rdr.beN (l.take 4))) = l.take (8 + Rdr.beN (l.take 4)) then ((l.drop 8).take (Rdr.beN (l.take 4)), 8 + Rdr.beN (l.take 4), 0)
  else ([], 0, 9)
def OneP (l : List UInt8) (w : World) (e : Ending) (w' : World) : Prop := ∃ p' c', e = .returned (.tuple #[.slice p' (one l).1.length c', .int .i64 ((one l).2.1 : Int), .int .i64 (one l).2.2]) ∧ w'.ownsRow w.heap.size 5 1 (.slice p' (one l).1.length c') (one l).1.length (bytesV (one l).1) ∧ Below w.heap.size w w'
set_option maxRecDepth 100000 in
theorem rone_any (p : Option Addr) (n c : Nat) (l : List UInt8) (w : World) (hB : Bs w p n c l) (hn : n ≤ 1099511627776) :
    Calls Tryd.prog 11 #[.slice p n c] w (OneP l w) := by
  have HB := Lib.hid hB
  have HN := Lib.hid hB.length
  have hle := hB.le
  have hmax := hB.max
  clear hB
  have HF : Hid (∀ k, one l = ([], 0, k) → OneP l w (.returned (.tuple #[.slice none 0 0, .int .i64 0, .int .i64 k])) w) := fun k hk => by
    unfold OneP
    rw [hk]
    exact ⟨none, 0, rfl, ⟨rfl, .inl ⟨rfl, rfl⟩⟩, Below.refl _ _⟩
  by_cases h4 : n < 4
  · have d1 : decide ((n : Int) < 4) = true := decide_eq_true (by omega)
    have HG := Lib.hid (HF.out 2 (by unfold one; rw [if_pos (by rw [HN.out]; exact h4)]))
    clear h4
    go_enter Tryd.func11, Tryd.ntmps11
    go_wp2_with fail
    refine bodyPost_ret (results_tmp3 rfl _ _) rfl ?_
    exact HG.out
  have d1 : decide ((n : Int) < 4) = false := decide_eq_false (by omega)
  have hrun := cut0 HB.out 4 4 rfl (by omega)
  have hV := Rdr.beN_lt_pow (l.take 4)
  rw [List.length_take, HN.out, Nat.min_eq_left (by omega)] at hV
  have hone : one l = if Rdr.beN (l.take 4) < 1 ∨ 65536 < Rdr.beN (l.take 4) then ([], 0, 4)
    else if l.length < 8 + Rdr.beN (l.take 4) then ([], 0, 2)
    else if frame ((l.drop 8).take (Rdr.beN (l.take 4))) = l.take (8 + Rdr.beN (l.take 4)) then ((l.drop 8).take (Rdr.beN (l.take 4)), 8 + Rdr.beN (l.take 4), 0)
    else ([], 0, 9) := by unfold one; rw [if_neg (by rw [HN.out]; omega)]
  have hval := value_any p 4 c (l.take 4) w (bs_take HB.out (by omega)) (by omega)
  rw [HN.out] at hone
  generalize Rdr.beN (l.take 4) = V at *
  have HVAL := Lib.hid hval
  have HONE := Lib.hid hone
  clear hval hone h4
  go_enter Tryd.func11, Tryd.ntmps11
  go_wp2_with fail
  refine HVAL.out.mono ?_
  rintro e w' ⟨rfl, rfl⟩
  clear HVAL hrun
  by_cases h1 : V < 1
  · have e1 : decide ((V : Int) < 1) = true := decide_eq_true (by omega)
    have HG := Lib.hid (HF.out 4 (by rw [HONE.out, if_pos (.inl h1)]))
    clear h1
    go_wp2_with fail
    refine bodyPost_ret (results_tmp3 rfl _ _) rfl ?_
    exact HG.out
  have e1 : decide ((V : Int) < 1) = false := decide_eq_false (by omega)
  by_cases h2 : 65536 < V
  · have e2 : decide ((65536 : Int) < (V : Int)) = true := decide_eq_true (by omega)
    have HG := Lib.hid (HF.out 4 (by rw [HONE.out, if_pos (.inr h2)]))
    clear h2
    go_wp2_with fail
    refine bodyPost_ret (results_tmp3 rfl _ _) rfl ?_
    exact HG.out
  have e2 : decide ((65536 : Int) < (V : Int)) = false := decide_eq_false (by omega)
  have q1 : IntKind.i64.wrap (8 + (V : Int)) = ((8 + V : Nat) : Int) := by rw [IntWalk.i64_in _ (by omega)]; omega
  by_cases h3 : n < 8 + V
  · have e3 : decide ((n : Int) < ((8 + V : Nat) : Int)) = true := decide_eq_true (by omega)
    have e4 : decide ((n : Int) < 8 + (V : Int)) = true := decide_eq_true (by omega)
    have HG := Lib.hid (HF.out 2 (by rw [HONE.out, if_neg (by omega), if_pos h3]))
    clear h3
    go_wp2_with fail
    refine bodyPost_ret (results_tmp3 rfl _ _) rfl ?_
    exact HG.out
  have e3 : decide ((n : Int) < ((8 + V : Nat) : Int)) = false := decide_eq_false (by omega)
  have e4 : decide ((n : Int) < 8 + (V : Int)) = false := decide_eq_false (by omega)
  have hone := HONE.out
  rw [if_neg (by omega), if_neg h3] at hone
  have HON := Lib.hid hone
  clear hone HONE
  have hcut := cut3 HB.out 8 V 8 (8 + (V : Int)) rfl (by omega) (by omega)
  have HCB := Lib.hid (fun w' (hb : Below w.heap.size w w') => bs_cut (HB.out.below hb) 8 V (by omega))
  have HLB : Hid (((l.drop 8).take V).length = V) := by show _ = _; rw [List.length_take, List.length_drop, HN.out]; omega
  go_upto_region 8 with fail
  have HO : Hid ((w.alloc (.cells #[] 5)).ownsRow w.heap.size 5 1 (.slice (some ⟨w.heap.size, 0, none⟩) 0 0) 0 []) := ⟨rfl, .inr ⟨w.heap.size, 0, _, rfl, Nat.le_refl _, heap_alloc_last _ _, Nat.le_refl _, by simp [maxLen], rfl, rfl⟩⟩
  have HBX : Hid (Below w.heap.size w (w.alloc (.cells #[] 5))) := Below.allocs _ _
  have HSX := Lib.hid (HCB.out _ HBX.out)
  have hlx := HSX.out.le
  have hmx := HSX.out.max
  go_upto_region 9 with (at_builtin; refine wpList_append_nx rfl _ _ 22 rfl (base := w.heap.size) Tryd.underlying22 info8b rfl (by omega) rfl HO.out rfl HSX.out (bytesV_one _) ⟨by omega, by omega⟩ HBX.out.size ?_)
  intro p5 c5 x5 ho5 hg5 _ _
  have hb5 := HBX.out.grown hg5 HBX.out.size (fun k hk => (HO.out.lt k hk).1)
  try rw [Nat.zero_add] at ho5
  try rw [List.nil_append] at ho5
  clear HO HSX HBX hg5 hlx hmx hcut
  have hs5 : Bs x5 p5 V c5 ((l.drop 8).take V) := by
    obtain ⟨p9, c9, e9, h9⟩ := own_sl ho5
    cases e9
    exact h9
  have HO5 := Lib.hid ho5
  have HB5 := Lib.hid hb5
  have HS5 := Lib.hid hs5
  have HSL := Lib.hid (HB.out.below hb5)
  clear ho5 hb5 hs5
  have hcut := cut0 HSL.out (8 + V) (8 + (V : Int)) (by omega) (by omega)
  generalize hbody : (l.drop 8).take V = body at *
  go_upto_region 9 with fail
  have HC1 : Hid (∀ w', Below x5.heap.size x5 w' → (convert 22 9 (.slice p (8 + V) c)).run Tryd.prog w' = .ok (.string (S (l.take (8 + V)))) w') := fun w' hb => bconv (bs_take (HSL.out.below hb) (by omega))
  have hcut2 := cut0 HSL.out (8 + V) ((8 + V : Nat) : Int) rfl (by omega)
  clear HSL
  refine wp_region_eager_x (Below x5.heap.size x5) [(0, true), (3, true), (4, true), (5, true), (6, true), (7, true), (1, false), (2, true), (8, true)] (by kernel_rfl) (by kernel_rfl) ?_ (eagerXOpen rfl ?_)
  · exact below_drew1 _ _
  have hy0 : Below x5.heap.size x5 x5.drew := below_drew1 _ _
  repeat (first
    | (apply wpEagerX_take; (· rfl); (· (intro w' hb'; have hk' := (fun w' hb => HC1.out w' hb) w' hb'; go_split_ands; go_simp; try with_reducible rfl)); (try simp only [Act.put, List.setIfInBounds_toArray, List.set_cons_zero, List.set_cons_succ]); (try refine eagerXOpen rfl ?_))
    | (first | (apply wpEagerX_take; (· rfl); (· (intro w' hb'; go_simp; try with_reducible rfl)); (try simp only [Act.put, List.setIfInBounds_toArray, List.set_cons_zero, List.set_cons_succ]); (try refine eagerXOpen rfl ?_)) | (refine wpEagerX_skip (by rfl) ?_; (try simp only [Act.put, List.setIfInBounds_toArray, List.set_cons_zero, List.set_cons_succ]); (try refine eagerXOpen rfl ?_)) | (refine wpEager_off (by rfl) ?_; (try simp only [Act.put, List.setIfInBounds_toArray, List.set_cons_zero, List.set_cons_succ]); (try refine eagerXOpen rfl ?_))))
  (refine wpEagerX_op (by rfl) (fun K hK => ?_); go_simp; (refine (rbytes_any p5 V c5 body x5.drew (HS5.out.below hy0) (by omega)).mono ?_; rintro e y ⟨q2, d2, rfl, ho, hb⟩; have HO := Lib.hid (own_bs ho); have HY := Lib.hid (hy0.trans hb); have hsub : ∀ x, Below y.heap.size y x → Below x5.heap.size x5 x := fun x hx => HY.out.trans (hx.mono HY.out.size); have hy1 : Below y.heap.size y y := Below.refl _ _; clear hb ho); refine Shut.out hK _ _ _ hsub (by assumption) ?_; clear hK K hsub; (try simp only [Act.put, List.setIfInBounds_toArray, List.set_cons_zero, List.set_cons_succ]); (try refine eagerXOpen rfl ?_))
  have HC2 : Hid (∀ w', Below y.heap.size y w' → (convert 22 9 (.slice q2 (frame body).length d2)).run Tryd.prog w' = .ok (.string (S (frame body))) w') := fun w' hb => bconv (HO.out.below hb)
  repeat (first
    | (apply wpEagerX_take; (· rfl); (· (intro w' hb'; have hk' := (fun w' hb => HC2.out w' hb) w' hb'; go_split_ands; go_simp; try with_reducible rfl)); (try simp only [Act.put, List.setIfInBounds_toArray, List.set_cons_zero, List.set_cons_succ]); (try refine eagerXOpen rfl ?_))
    | (first | (apply wpEagerX_take; (· rfl); (· (intro w' hb'; go_simp; try with_reducible rfl)); (try simp only [Act.put, List.setIfInBounds_toArray, List.set_cons_zero, List.set_cons_succ]); (try refine eagerXOpen rfl ?_)) | (refine wpEagerX_skip (by rfl) ?_; (try simp only [Act.put, List.setIfInBounds_toArray, List.set_cons_zero, List.set_cons_succ]); (try refine eagerXOpen rfl ?_)) | (refine wpEager_off (by rfl) ?_; (try simp only [Act.put, List.setIfInBounds_toArray, List.set_cons_zero, List.set_cons_succ]); (try refine eagerXOpen rfl ?_))))
  refine eagerXEnd ?_
  clear HC2 HC1 hcut hcut2 hy0 hy1
  have HOF := Lib.hid (own_touch HO5.out (Turns.of_below (S := fun _ => False) HY.out) (fun _ _ h => h))
  have HBF := Lib.hid (HB5.out.trans (HY.out.mono HB5.out.size))
  by_cases hq : frame body = l.take (8 + V)
  · have hqb : (frame body == List.take (8 + V) l) = true := beq_iff_eq.2 hq
    have HR : Hid (one l = (body, 8 + V, 0)) := by show _ = _; rw [HON.out, if_pos hq]
    clear hq
    rw [hqb]
    simp only [Bool.not_true, Bool.not_false]
    go_wp2_with fail
    refine bodyPost_ret (results_tmp3 rfl _ _) rfl ?_
    unfold OneP
    rw [HR.out]
    dsimp only
    rw [HLB.out]
    exact ⟨p5, c5, by rw [show ((8 + V : Nat) : Int) = 8 + (V : Int) by omega]; rfl, HOF.out, HBF.out⟩
  · have hqb : (frame body == List.take (8 + V) l) = false := beq_eq_false_iff_ne.2 hq
    have HG : Hid (OneP l w (.returned (.tuple #[.slice none 0 0, .int .i64 0, .int .i64 9])) y) := by
      show OneP _ _ _ _
      unfold OneP
      rw [HON.out, if_neg hq]
      exact ⟨none, 0, rfl, ⟨rfl, .inl ⟨rfl, rfl⟩⟩, HBF.out⟩
    clear hq
    rw [hqb]
    simp only [Bool.not_true, Bool.not_false]
    go_wp2_with fail
    refine bodyPost_ret (results_tmp3 rfl _ _) rfl ?_
    exact HG.out
end Go.Proofs.YtjbjlmdfgpoadaaDoor.Frm
