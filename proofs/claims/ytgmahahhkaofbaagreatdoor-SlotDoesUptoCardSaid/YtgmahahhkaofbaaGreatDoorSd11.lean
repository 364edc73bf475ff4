/- PARTS, JOINED: SLOTS: the calls that Put lays, one behind the other. Conditions: steps that fit. -/
import Derived.Test.YtgmahahhkaofbaaGreatDoorSd1
import Derived.Test.YtgmahahhkaofbaaGreatDoorSd2
import Derived.Test.YtgmahahhkaofbaaGreatDoorSd3
import Derived.Test.YtgmahahhkaofbaaGreatDoorSd4
import Derived.Test.YtgmahahhkaofbaaGreatDoorSd5
import Derived.Test.YtgmahahhkaofbaaGreatDoorSd6
import Derived.Test.YtgmahahhkaofbaaGreatDoorSd7
import Derived.Test.YtgmahahhkaofbaaGreatDoorSd8
import Derived.Test.YtgmahahhkaofbaaGreatDoorSd9
import Derived.Test.YtgmahahhkaofbaaGreatDoorSd10
namespace Go.Proofs.YtgmahahhkaofbaaGreatDoor.Slt
open Go.RowKit Go.Mir Go.Mir.Parts Dk Rol

/-- what Put's functions capture: slots, the file, the bytes -/
structure Env (base sb db bs bf bb f : Nat) (y : List UInt8) (w : World) : Prop where
  hs : w.heap[bs]? = some (.cells #[.pointer (some ⟨sb, 0, none⟩)] 41 (0, 0))
  hf : w.heap[bf]? = some (.cells #[.int .i64 (f : Int)] 3 (0, 0))
  hb : ∃ p c, w.heap[bb]? = some (.cells #[.slice p y.length c] 22 (0, 0)) ∧ Rd w base (.slice p y.length c) y
  hd : ∃ M, w.heap[sb]? = some (.cells M 76 (0, 0)) ∧ M[0]? = some (.pointer (some ⟨db, 0, none⟩))
theorem Env.kt {base sb db bs bf bb f : Nat} {y : List UInt8} {w w' : World} (h : Env base sb db bs bf bb f y w) (hk : KT base w w') : Env base sb db bs bf bb f y w' := by
  obtain ⟨p, c, h1, h2⟩ := h.hb
  obtain ⟨M, h3, h4⟩ := h.hd
  exact ⟨hk.row h.hs (by decide) (by decide), hk.row h.hf (by decide) (by decide), ⟨p, c, hk.row h1 (by decide) (by decide), h2.touch hk kt_no8⟩, ⟨M, hk.row h3 (by decide) (by decide), h4⟩⟩
theorem Env.cells {base sb db bs bf bb f : Nat} {y : List UInt8} {w : World} (h : Env base sb db bs bf bb f y w) : w.cell? ⟨bs, 0, none⟩ = some (.pointer (some ⟨sb, 0, none⟩)) ∧ w.cell? ⟨bf, 0, none⟩ = some (.int .i64 (f : Int)) ∧ w.cell? ⟨sb, 0, none⟩ = some (.pointer (some ⟨db, 0, none⟩)) := by
  obtain ⟨M, h3, h4⟩ := h.hd
  refine ⟨by rw [cell_of_row _ _ _ _ _ _ h.hs]; rfl, by rw [cell_of_row _ _ _ _ _ _ h.hf]; rfl, by rw [cell_of_row _ _ _ _ _ _ h3]; exact h4⟩
set_option maxRecDepth 100000 in
set_option maxHeartbeats 1600000 in
theorem cut_clo {base sb db bs bf bb f : Nat} {d : DD} {y0 : List UInt8} (w : World) (hf : f < 3) (h : Env base sb db bs bf bb f y0 w) (hX : DX base db d w) (hfew : (fD d f).steps.length + 1 ≤ 4398046511104) :
    Calls Tryz.prog 37 #[.pointer (some ⟨bs, 0, none⟩), .pointer (some ⟨bf, 0, none⟩)] w (StP base db (stpE d f .cut) (stpD d f .cut) w) := by
  have HEV := Lib.hid h
  have HC : Hid (∀ y, Below w.heap.size w y → Calls Tryz.prog 38 #[.pointer (some ⟨db, 0, none⟩), .int .i64 (f : Int), .int .i64 0] y (StP base db (stpE d f .cut) (stpD d f .cut) y)) := fun y hy => xcut y (hX.below hy) f hf 0 (Nat.zero_le _) hfew
  -- a closure: HEV : Hid (Env .. w), HC : Hid (∀ y, Below w.heap.size w y → Calls ..)
  have HC0 : Hid (∀ w', KT base w w' → w'.cell? ⟨bs, 0, none⟩ = some (.pointer (some ⟨sb, 0, none⟩))) := fun w' hk => (HEV.out.kt hk).cells.1
  have HC1 : Hid (∀ w', KT base w w' → w'.cell? ⟨bf, 0, none⟩ = some (.int .i64 (f : Int))) := fun w' hk => (HEV.out.kt hk).cells.2.1
  have HC2 : Hid (∀ w', KT base w w' → w'.cell? ⟨sb, 0, none⟩ = some (.pointer (some ⟨db, 0, none⟩))) := fun w' hk => (HEV.out.kt hk).cells.2.2
  clear h hX hfew
  generalize stpE d f .cut = EV at *
  generalize stpD d f .cut = DV at *
  go_enter Tryz.func37, Tryz.ntmps37
  go_upto_region 1 with fail
  refine wp_region_eager_in (KT base w) [(0, true), (1, true), (2, true), (3, true), (4, true), (5, false), (6, true)] (by kernel_rfl) (by kernel_rfl) ?_ (eagerOpen rfl ?_)
  · exact KT.of_below (below_drew1 _ _)
  have hy0 : Below w.heap.size w w.drew := below_drew1 _ _
  repeat (first
    | (first | (apply wpEager_take; (· rfl); (· (intro w' hb'; go_simp; try with_reducible rfl)); (try simp only [Act.put, List.setIfInBounds_toArray, List.set_cons_zero, List.set_cons_succ]); (try refine eagerOpen rfl ?_)) | (refine wpEager_skip (by rfl) ?_; (try simp only [Act.put, List.setIfInBounds_toArray, List.set_cons_zero, List.set_cons_succ]); (try refine eagerOpen rfl ?_)) | (refine wpEager_off (by rfl) ?_; (try simp only [Act.put, List.setIfInBounds_toArray, List.set_cons_zero, List.set_cons_succ]); (try refine eagerOpen rfl ?_)))
    | (apply wpEager_take; (· rfl); (· (intro w' hb'; have hk' := (fun w' hk => HC0.out w' hk) w' hb'; go_split_ands; go_simp; try with_reducible rfl)); (try simp only [Act.put, List.setIfInBounds_toArray, List.set_cons_zero, List.set_cons_succ]); (try refine eagerOpen rfl ?_))
    | (apply wpEager_take; (· rfl); (· (intro w' hb'; have hk' := (fun w' hk => HC1.out w' hk) w' hb'; go_split_ands; go_simp; try with_reducible rfl)); (try simp only [Act.put, List.setIfInBounds_toArray, List.set_cons_zero, List.set_cons_succ]); (try refine eagerOpen rfl ?_))
    | (apply wpEager_take; (· rfl); (· (intro w' hb'; have hk' := (fun w' hk => HC2.out w' hk) w' hb'; go_split_ands; go_simp; try with_reducible rfl)); (try simp only [Act.put, List.setIfInBounds_toArray, List.set_cons_zero, List.set_cons_succ]); (try refine eagerOpen rfl ?_)))
  skip
  (refine wpEager_op (by rfl) (fun K hK => ?_); go_simp; (refine (HC.out _ hy0).mono ?_; rintro e y ⟨rfl, hdx, hkt⟩; have hyk := (KT.of_below hy0).trans hkt); refine Shut.out hK _ _ (by assumption) ?_; clear hK K; (try simp only [Act.put, List.setIfInBounds_toArray, List.set_cons_zero, List.set_cons_succ]); (try refine eagerOpen rfl ?_))
  repeat (first
    | (first | (apply wpEager_take; (· rfl); (· (intro w' hb'; go_simp; try with_reducible rfl)); (try simp only [Act.put, List.setIfInBounds_toArray, List.set_cons_zero, List.set_cons_succ]); (try refine eagerOpen rfl ?_)) | (refine wpEager_skip (by rfl) ?_; (try simp only [Act.put, List.setIfInBounds_toArray, List.set_cons_zero, List.set_cons_succ]); (try refine eagerOpen rfl ?_)) | (refine wpEager_off (by rfl) ?_; (try simp only [Act.put, List.setIfInBounds_toArray, List.set_cons_zero, List.set_cons_succ]); (try refine eagerOpen rfl ?_))))
  refine eagerEnd ?_
  have HDX := Lib.hid hdx
  have HKT := Lib.hid hyk
  clear hdx hkt hyk hy0 HC0 HC1 HC2 HC
  go_wp2_with fail
  go_ret
  exact ⟨rfl, HDX.out, HKT.out⟩
set_option maxRecDepth 100000 in
set_option maxHeartbeats 1600000 in
theorem sync_clo {base sb db bs bf bb f : Nat} {d : DD} {y0 : List UInt8} (w : World) (hf : f < 3) (h : Env base sb db bs bf bb f y0 w) (hX : DX base db d w) :
    Calls Tryz.prog 39 #[.pointer (some ⟨bs, 0, none⟩), .pointer (some ⟨bf, 0, none⟩)] w (StP base db (stpE d f .sync) (stpD d f .sync) w) := by
  have HEV := Lib.hid h
  have HC : Hid (∀ y, Below w.heap.size w y → Calls Tryz.prog 33 #[.pointer (some ⟨db, 0, none⟩), .int .i64 (f : Int)] y (StP base db (stpE d f .sync) (stpD d f .sync) y)) := fun y hy => xsync y (hX.below hy) f hf
  -- a closure: HEV : Hid (Env .. w), HC : Hid (∀ y, Below w.heap.size w y → Calls ..)
  have HC0 : Hid (∀ w', KT base w w' → w'.cell? ⟨bs, 0, none⟩ = some (.pointer (some ⟨sb, 0, none⟩))) := fun w' hk => (HEV.out.kt hk).cells.1
  have HC1 : Hid (∀ w', KT base w w' → w'.cell? ⟨bf, 0, none⟩ = some (.int .i64 (f : Int))) := fun w' hk => (HEV.out.kt hk).cells.2.1
  have HC2 : Hid (∀ w', KT base w w' → w'.cell? ⟨sb, 0, none⟩ = some (.pointer (some ⟨db, 0, none⟩))) := fun w' hk => (HEV.out.kt hk).cells.2.2
  clear h hX
  generalize stpE d f .sync = EV at *
  generalize stpD d f .sync = DV at *
  go_enter Tryz.func39, Tryz.ntmps39
  go_upto_region 1 with fail
  refine wp_region_eager_in (KT base w) [(0, true), (1, true), (2, true), (3, true), (4, true), (5, false), (6, true)] (by kernel_rfl) (by kernel_rfl) ?_ (eagerOpen rfl ?_)
  · exact KT.of_below (below_drew1 _ _)
  have hy0 : Below w.heap.size w w.drew := below_drew1 _ _
  repeat (first
    | (first | (apply wpEager_take; (· rfl); (· (intro w' hb'; go_simp; try with_reducible rfl)); (try simp only [Act.put, List.setIfInBounds_toArray, List.set_cons_zero, List.set_cons_succ]); (try refine eagerOpen rfl ?_)) | (refine wpEager_skip (by rfl) ?_; (try simp only [Act.put, List.setIfInBounds_toArray, List.set_cons_zero, List.set_cons_succ]); (try refine eagerOpen rfl ?_)) | (refine wpEager_off (by rfl) ?_; (try simp only [Act.put, List.setIfInBounds_toArray, List.set_cons_zero, List.set_cons_succ]); (try refine eagerOpen rfl ?_)))
    | (apply wpEager_take; (· rfl); (· (intro w' hb'; have hk' := (fun w' hk => HC0.out w' hk) w' hb'; go_split_ands; go_simp; try with_reducible rfl)); (try simp only [Act.put, List.setIfInBounds_toArray, List.set_cons_zero, List.set_cons_succ]); (try refine eagerOpen rfl ?_))
    | (apply wpEager_take; (· rfl); (· (intro w' hb'; have hk' := (fun w' hk => HC1.out w' hk) w' hb'; go_split_ands; go_simp; try with_reducible rfl)); (try simp only [Act.put, List.setIfInBounds_toArray, List.set_cons_zero, List.set_cons_succ]); (try refine eagerOpen rfl ?_))
    | (apply wpEager_take; (· rfl); (· (intro w' hb'; have hk' := (fun w' hk => HC2.out w' hk) w' hb'; go_split_ands; go_simp; try with_reducible rfl)); (try simp only [Act.put, List.setIfInBounds_toArray, List.set_cons_zero, List.set_cons_succ]); (try refine eagerOpen rfl ?_)))
  skip
  (refine wpEager_op (by rfl) (fun K hK => ?_); go_simp; (refine (HC.out _ hy0).mono ?_; rintro e y ⟨rfl, hdx, hkt⟩; have hyk := (KT.of_below hy0).trans hkt); refine Shut.out hK _ _ (by assumption) ?_; clear hK K; (try simp only [Act.put, List.setIfInBounds_toArray, List.set_cons_zero, List.set_cons_succ]); (try refine eagerOpen rfl ?_))
  repeat (first
    | (first | (apply wpEager_take; (· rfl); (· (intro w' hb'; go_simp; try with_reducible rfl)); (try simp only [Act.put, List.setIfInBounds_toArray, List.set_cons_zero, List.set_cons_succ]); (try refine eagerOpen rfl ?_)) | (refine wpEager_skip (by rfl) ?_; (try simp only [Act.put, List.setIfInBounds_toArray, List.set_cons_zero, List.set_cons_succ]); (try refine eagerOpen rfl ?_)) | (refine wpEager_off (by rfl) ?_; (try simp only [Act.put, List.setIfInBounds_toArray, List.set_cons_zero, List.set_cons_succ]); (try refine eagerOpen rfl ?_))))
  refine eagerEnd ?_
  have HDX := Lib.hid hdx
  have HKT := Lib.hid hyk
  clear hdx hkt hyk hy0 HC0 HC1 HC2 HC
  go_wp2_with fail
  go_ret
  exact ⟨rfl, HDX.out, HKT.out⟩
set_option maxRecDepth 100000 in
set_option maxHeartbeats 1600000 in
theorem put_clo {base sb db bs bf bb f : Nat} {d : DD} {y0 : List UInt8} (w : World) (hf : f < 3) (h : Env base sb db bs bf bb f y0 w) (hX : DX base db d w) (hy : y0.length ≤ 140737488355328) (hfew : (fD d f).steps.length + 1 ≤ 4398046511104) :
    Calls Tryz.prog 40 #[.pointer (some ⟨bs, 0, none⟩), .pointer (some ⟨bf, 0, none⟩), .pointer (some ⟨bb, 0, none⟩)] w (StP base db (stpE d f (.put y0)) (stpD d f (.put y0)) w) := by
  have HEV := Lib.hid h
  obtain ⟨pb, cb, hbb, hrd⟩ := h.hb
  obtain ⟨p', c', e1, hbs⟩ := hrd.bs
  cases e1
  have HC : Hid (∀ y, Below w.heap.size w y → Calls Tryz.prog 7 #[.pointer (some ⟨db, 0, none⟩), .int .i64 (f : Int), .slice pb y0.length cb] y (StP base db (stpE d f (.put y0)) (stpD d f (.put y0)) y)) := fun y hy' => xappend y (hX.below hy') f hf pb y0.length cb y0 (hbs.below hy') hy hfew
  have HC3 : Hid (∀ w', KT base w w' → w'.cell? ⟨bb, 0, none⟩ = some (.slice pb y0.length cb)) := fun w' hk => by rw [cell_of_row _ _ _ _ _ _ (hk.row hbb (by decide) (by decide))]; rfl
  -- a closure: HEV : Hid (Env .. w), HC : Hid (∀ y, Below w.heap.size w y → Calls ..)
  have HC0 : Hid (∀ w', KT base w w' → w'.cell? ⟨bs, 0, none⟩ = some (.pointer (some ⟨sb, 0, none⟩))) := fun w' hk => (HEV.out.kt hk).cells.1
  have HC1 : Hid (∀ w', KT base w w' → w'.cell? ⟨bf, 0, none⟩ = some (.int .i64 (f : Int))) := fun w' hk => (HEV.out.kt hk).cells.2.1
  have HC2 : Hid (∀ w', KT base w w' → w'.cell? ⟨sb, 0, none⟩ = some (.pointer (some ⟨db, 0, none⟩))) := fun w' hk => (HEV.out.kt hk).cells.2.2
  clear h hX hfew hbs hrd hbb hy
  generalize stpE d f (.put y0) = EV at *
  generalize stpD d f (.put y0) = DV at *
  go_enter Tryz.func40, Tryz.ntmps40
  go_upto_region 1 with fail
  refine wp_region_eager_in (KT base w) [(0, true), (1, true), (2, true), (3, true), (4, true), (5, true), (6, false), (7, true)] (by kernel_rfl) (by kernel_rfl) ?_ (eagerOpen rfl ?_)
  · exact KT.of_below (below_drew1 _ _)
  have hy0 : Below w.heap.size w w.drew := below_drew1 _ _
  repeat (first
    | (first | (apply wpEager_take; (· rfl); (· (intro w' hb'; go_simp; try with_reducible rfl)); (try simp only [Act.put, List.setIfInBounds_toArray, List.set_cons_zero, List.set_cons_succ]); (try refine eagerOpen rfl ?_)) | (refine wpEager_skip (by rfl) ?_; (try simp only [Act.put, List.setIfInBounds_toArray, List.set_cons_zero, List.set_cons_succ]); (try refine eagerOpen rfl ?_)) | (refine wpEager_off (by rfl) ?_; (try simp only [Act.put, List.setIfInBounds_toArray, List.set_cons_zero, List.set_cons_succ]); (try refine eagerOpen rfl ?_)))
    | (apply wpEager_take; (· rfl); (· (intro w' hb'; have hk' := (fun w' hk => HC0.out w' hk) w' hb'; go_split_ands; go_simp; try with_reducible rfl)); (try simp only [Act.put, List.setIfInBounds_toArray, List.set_cons_zero, List.set_cons_succ]); (try refine eagerOpen rfl ?_))
    | (apply wpEager_take; (· rfl); (· (intro w' hb'; have hk' := (fun w' hk => HC1.out w' hk) w' hb'; go_split_ands; go_simp; try with_reducible rfl)); (try simp only [Act.put, List.setIfInBounds_toArray, List.set_cons_zero, List.set_cons_succ]); (try refine eagerOpen rfl ?_))
    | (apply wpEager_take; (· rfl); (· (intro w' hb'; have hk' := (fun w' hk => HC2.out w' hk) w' hb'; go_split_ands; go_simp; try with_reducible rfl)); (try simp only [Act.put, List.setIfInBounds_toArray, List.set_cons_zero, List.set_cons_succ]); (try refine eagerOpen rfl ?_))
    | (apply wpEager_take; (· rfl); (· (intro w' hb'; have hk' := (fun w' hk => HC3.out w' hk) w' hb'; go_split_ands; go_simp; try with_reducible rfl)); (try simp only [Act.put, List.setIfInBounds_toArray, List.set_cons_zero, List.set_cons_succ]); (try refine eagerOpen rfl ?_)))
  skip
  (refine wpEager_op (by rfl) (fun K hK => ?_); go_simp; (refine (HC.out _ hy0).mono ?_; rintro e y ⟨rfl, hdx, hkt⟩; have hyk := (KT.of_below hy0).trans hkt); refine Shut.out hK _ _ (by assumption) ?_; clear hK K; (try simp only [Act.put, List.setIfInBounds_toArray, List.set_cons_zero, List.set_cons_succ]); (try refine eagerOpen rfl ?_))
  repeat (first
    | (first | (apply wpEager_take; (· rfl); (· (intro w' hb'; go_simp; try with_reducible rfl)); (try simp only [Act.put, List.setIfInBounds_toArray, List.set_cons_zero, List.set_cons_succ]); (try refine eagerOpen rfl ?_)) | (refine wpEager_skip (by rfl) ?_; (try simp only [Act.put, List.setIfInBounds_toArray, List.set_cons_zero, List.set_cons_succ]); (try refine eagerOpen rfl ?_)) | (refine wpEager_off (by rfl) ?_; (try simp only [Act.put, List.setIfInBounds_toArray, List.set_cons_zero, List.set_cons_succ]); (try refine eagerOpen rfl ?_))))
  refine eagerEnd ?_
  have HDX := Lib.hid hdx
  have HKT := Lib.hid hyk
  clear hdx hkt hyk hy0 HC0 HC1 HC2 HC
  go_wp2_with fail
  go_ret
  exact ⟨rfl, HDX.out, HKT.out⟩
/-! ### one behind the other -/
def fnV (bs bf bb : Nat) : LA → Value
  | .cut => .func (.func 37) #[] #[.pointer (some ⟨bs, 0, none⟩), .pointer (some ⟨bf, 0, none⟩)]
  | .sync => .func (.func 39) #[] #[.pointer (some ⟨bs, 0, none⟩), .pointer (some ⟨bf, 0, none⟩)]
  | .put _ => .func (.func 40) #[] #[.pointer (some ⟨bs, 0, none⟩), .pointer (some ⟨bf, 0, none⟩), .pointer (some ⟨bb, 0, none⟩)]
theorem few_take {f : FD} {s : St} {N : Nat} (h : f.steps.length ≤ N) : (f.take s).steps.length ≤ N + 1 := by
  show (f.steps ++ [s]).length ≤ _
  rw [List.length_append]
  simp; omega
theorem few_set {d : DD} {i k : Nat} {f : FD} {N : Nat} (h : ∀ j, (fD d j).steps.length ≤ N) (hf : f.steps.length ≤ N) : (fD (setF d i f) k).steps.length ≤ N := by
  by_cases hk : i = k
  · subst hk
    by_cases hl : i < d.fs.length
    · rw [fD_set hl]; exact hf
    · have : fD (setF d i f) i = FD.none := by
        unfold fD setF
        rw [List.getElem?_eq_none (by rw [List.length_set]; omega)]; rfl
      rw [this]; exact Nat.zero_le _
  · rw [fD_other hk]; exact h k
theorem fD_burn (d : DD) (k : Nat) : fD d.burn k = fD d k := by unfold fD; rw [burn_fs]
theorem few_do {d : DD} {i : Nat} {s : St} {N : Nat} (h : ∀ j, (fD d j).steps.length ≤ N) (k : Nat) : (fD (doD d i (fD d i) s) k).steps.length ≤ N + 1 := by
  unfold doD
  split
  · have := h k; omega
  · split
    · have := h k; omega
    · rw [fD_burn]
      exact few_set (fun j => by have := h j; omega) (few_take (h i))
theorem few_syn {d : DD} {i : Nat} {N : Nat} (h : ∀ j, (fD d j).steps.length ≤ N) (k : Nat) : (fD (syncD d i (fD d i)) k).steps.length ≤ N + 1 := by
  unfold syncD
  split
  · have := h k; omega
  · split
    · rw [fD_burn]; have := h k; omega
    · exact few_set (fun j => by rw [fD_burn]; have := h j; omega) (Nat.zero_le _)
theorem few_stp {d : DD} {i : Nat} {a : LA} {N : Nat} (h : ∀ j, (fD d j).steps.length ≤ N) (k : Nat) : (fD (stpD d i a) k).steps.length ≤ N + 1 := by
  cases a with
  | cut => exact few_do h k
  | sync => exact few_syn h k
  | put b => exact few_do h k
set_option maxRecDepth 100000 in
set_option maxHeartbeats 3200000 in
theorem lay_any {base sb db bs bf bb f gl N : Nat} {d : DD} {y : List UInt8} (l : List LA) (w : World) (hf : f < 3) (h : Env base sb db bs bf bb f y w) (hX : DX base db d w) (hl : l.length ≤ 4) (hput : ∀ b, LA.put b ∈ l → b = y)
    (hy : y.length ≤ 140737488355328) (hN : N ≤ 4398046000000) (hfew : ∀ j, (fD d j).steps.length ≤ N) (hrow : w.heap[gl]? = some (.cells (l.map (fnV bs bf bb)).toArray 94 (0, 0))) :
    Calls Tryz.prog 43 #[.slice (some ⟨gl, 0, none⟩) l.length l.length] w (StP base db (layE f l d) (layD f l d) w) := by
  have HF := Lib.hid hf
  have HEV := Lib.hid h
  have HX0 := Lib.hid hX
  have HPUT := Lib.hid hput
  have HY := Lib.hid hy
  have HNN := Lib.hid hN
  have HFW0 : Hid (∀ j, (fD d j).steps.length ≤ N + 0) := hfew
  have HROW := Lib.hid hrow
  have HLL := Lib.hid hl
  clear h hX hput hy hN hfew hrow hf
  go_enter Tryz.func43, Tryz.ntmps43
  go_wp2_with fail
  go_loopw [4, 5, 8] (fun cv ev j wr => ∃ k : Nat, k ≤ l.length ∧ j = .int .i64 k ∧ ∃ D, layD f l d = layD f (l.drop k) D ∧ layE f l d = layE f (l.drop k) D ∧ DX base db D wr ∧ KT base w wr ∧ ∀ j, (fD D j).steps.length ≤ N + k) (fun _ _ j _ => l.length - (intOf j).toNat)
  case atStart => exact ⟨0, by omega, rfl, d, rfl, rfl, HX0.out, KT.refl _ _, HFW0.out⟩
  case round =>
    obtain ⟨k, hk, rfl, D, hl1, hl2, hx, hkw, hfw⟩ := hrel
    have HL1 := Lib.hid hl1
    have HL2 := Lib.hid hl2
    have HXW := Lib.hid hx
    have HKW := Lib.hid hkw
    have HFW := Lib.hid hfw
    clear hl1 hl2 hx hkw hfw
    by_cases hlt : k < l.length
    · have hd : decide ((k : Int) < (l.length : Int)) = true := decide_eq_true (by omega)
      have hd2 : decide (k < l.length) = true := decide_eq_true hlt
      have HDR : Hid (l.drop k = l[k] :: l.drop (k + 1)) := List.drop_eq_getElem_cons hlt
      have hrw := HKW.out.row HROW.out (by decide) (by decide)
      have hce : wr.cell? ⟨gl, k, none⟩ = some (fnV bs bf bb l[k]) := by
        rw [cell_of_row _ _ _ _ _ _ hrw]
        simp [hlt]
      have HEW := Lib.hid (HEV.out.kt HKW.out)
      have hmem : l[k] ∈ l := List.getElem_mem hlt
      clear hrw
      cases hA : l[k] with
      | cut =>
        rw [hA] at hce
        unfold fnV at hce
        have HCL := Lib.hid (cut_clo wr HF.out HEW.out HXW.out (by have h1 := HFW.out f; have h2 := HNN.out; have h3 := HLL.out; omega))
        clear hmem
        skip
        -- a call: HCL : Hid (Calls .. wr (StP ..)); HSE : what the rest tells
        go_wp2_with fail
        refine HCL.out.mono ?_
        rintro e w5 ⟨rfl, hdx, hkt⟩
        have HDX := Lib.hid hdx
        have HK5 := Lib.hid (HKW.out.trans hkt)
        clear hdx hkt HCL
        by_cases hE : stpE D f LA.cut = 0
        · obtain ⟨g1, g2⟩ := lay_ok (r := l.drop (k + 1)) hE
          have HG1 : Hid (layD f l d = layD f (l.drop (k + 1)) (stpD D f LA.cut)) := by show _ = _; rw [HL1.out, HDR.out, hA, g1]
          have HG2 : Hid (layE f l d = layE f (l.drop (k + 1)) (stpD D f LA.cut)) := by show _ = _; rw [HL2.out, HDR.out, hA, g2]
          have HFW2 : Hid (∀ j, (fD (stpD D f LA.cut) j).steps.length ≤ N + (k + 1)) := fun j => few_stp HFW.out j
          have hne : (stpE D f LA.cut != 0) = false := by rw [hE]; rfl
          clear hE g1 g2 hA
          generalize stpE D f LA.cut = EV at *
          generalize stpD D f LA.cut = DV at *
          go_wp2_with fail
          go_roundw
          case rel => exact ⟨k + 1, by omega, by go_num, DV, HG1.out, HG2.out, HDX.out, HK5.out, HFW2.out⟩
          case measure => simp [intOf]; omega
        · obtain ⟨g1, g2⟩ := lay_no (r := l.drop (k + 1)) hE
          have HG1 : Hid (layD f l d = stpD D f LA.cut) := by show _ = _; rw [HL1.out, HDR.out, hA, g1]
          have HG2 : Hid (layE f l d = stpE D f LA.cut) := by show _ = _; rw [HL2.out, HDR.out, hA, g2]
          have hne : (stpE D f LA.cut != 0) = true := bne_iff_ne.2 hE
          clear hE g1 g2 hA
          generalize stpE D f LA.cut = EV at *
          generalize stpD D f LA.cut = DV at *
          go_wp2_with fail
          go_ret
          exact ⟨by (rw [HG2.out]; first | done | rfl), by rw [HG1.out]; exact HDX.out, HK5.out⟩
      | sync =>
        rw [hA] at hce
        unfold fnV at hce
        have HCL := Lib.hid (sync_clo wr HF.out HEW.out HXW.out)
        clear hmem
        skip
        -- a call: HCL : Hid (Calls .. wr (StP ..)); HSE : what the rest tells
        go_wp2_with fail
        refine HCL.out.mono ?_
        rintro e w5 ⟨rfl, hdx, hkt⟩
        have HDX := Lib.hid hdx
        have HK5 := Lib.hid (HKW.out.trans hkt)
        clear hdx hkt HCL
        by_cases hE : stpE D f LA.sync = 0
        · obtain ⟨g1, g2⟩ := lay_ok (r := l.drop (k + 1)) hE
          have HG1 : Hid (layD f l d = layD f (l.drop (k + 1)) (stpD D f LA.sync)) := by show _ = _; rw [HL1.out, HDR.out, hA, g1]
          have HG2 : Hid (layE f l d = layE f (l.drop (k + 1)) (stpD D f LA.sync)) := by show _ = _; rw [HL2.out, HDR.out, hA, g2]
          have HFW2 : Hid (∀ j, (fD (stpD D f LA.sync) j).steps.length ≤ N + (k + 1)) := fun j => few_stp HFW.out j
          have hne : (stpE D f LA.sync != 0) = false := by rw [hE]; rfl
          clear hE g1 g2 hA
          generalize stpE D f LA.sync = EV at *
          generalize stpD D f LA.sync = DV at *
          go_wp2_with fail
          go_roundw
          case rel => exact ⟨k + 1, by omega, by go_num, DV, HG1.out, HG2.out, HDX.out, HK5.out, HFW2.out⟩
          case measure => simp [intOf]; omega
        · obtain ⟨g1, g2⟩ := lay_no (r := l.drop (k + 1)) hE
          have HG1 : Hid (layD f l d = stpD D f LA.sync) := by show _ = _; rw [HL1.out, HDR.out, hA, g1]
          have HG2 : Hid (layE f l d = stpE D f LA.sync) := by show _ = _; rw [HL2.out, HDR.out, hA, g2]
          have hne : (stpE D f LA.sync != 0) = true := bne_iff_ne.2 hE
          clear hE g1 g2 hA
          generalize stpE D f LA.sync = EV at *
          generalize stpD D f LA.sync = DV at *
          go_wp2_with fail
          go_ret
          exact ⟨by (rw [HG2.out]; first | done | rfl), by rw [HG1.out]; exact HDX.out, HK5.out⟩
      | put y' =>
        rw [hA] at hce hmem
        unfold fnV at hce
        obtain rfl := HPUT.out _ hmem
        have HCL := Lib.hid (put_clo wr HF.out HEW.out HXW.out HY.out (by have h1 := HFW.out f; have h2 := HNN.out; have h3 := HLL.out; omega))
        clear hmem
        skip
        -- a call: HCL : Hid (Calls .. wr (StP ..)); HSE : what the rest tells
        go_wp2_with fail
        refine HCL.out.mono ?_
        rintro e w5 ⟨rfl, hdx, hkt⟩
        have HDX := Lib.hid hdx
        have HK5 := Lib.hid (HKW.out.trans hkt)
        clear hdx hkt HCL
        by_cases hE : stpE D f (LA.put y') = 0
        · obtain ⟨g1, g2⟩ := lay_ok (r := l.drop (k + 1)) hE
          have HG1 : Hid (layD f l d = layD f (l.drop (k + 1)) (stpD D f (LA.put y'))) := by show _ = _; rw [HL1.out, HDR.out, hA, g1]
          have HG2 : Hid (layE f l d = layE f (l.drop (k + 1)) (stpD D f (LA.put y'))) := by show _ = _; rw [HL2.out, HDR.out, hA, g2]
          have HFW2 : Hid (∀ j, (fD (stpD D f (LA.put y')) j).steps.length ≤ N + (k + 1)) := fun j => few_stp HFW.out j
          have hne : (stpE D f (LA.put y') != 0) = false := by rw [hE]; rfl
          clear hE g1 g2 hA
          generalize stpE D f (LA.put y') = EV at *
          generalize stpD D f (LA.put y') = DV at *
          go_wp2_with fail
          go_roundw
          case rel => exact ⟨k + 1, by omega, by go_num, DV, HG1.out, HG2.out, HDX.out, HK5.out, HFW2.out⟩
          case measure => simp [intOf]; omega
        · obtain ⟨g1, g2⟩ := lay_no (r := l.drop (k + 1)) hE
          have HG1 : Hid (layD f l d = stpD D f (LA.put y')) := by show _ = _; rw [HL1.out, HDR.out, hA, g1]
          have HG2 : Hid (layE f l d = stpE D f (LA.put y')) := by show _ = _; rw [HL2.out, HDR.out, hA, g2]
          have hne : (stpE D f (LA.put y') != 0) = true := bne_iff_ne.2 hE
          clear hE g1 g2 hA
          generalize stpE D f (LA.put y') = EV at *
          generalize stpD D f (LA.put y') = DV at *
          go_wp2_with fail
          go_ret
          exact ⟨by (rw [HG2.out]; first | done | rfl), by rw [HG1.out]; exact HDX.out, HK5.out⟩
    · have hd : decide ((k : Int) < (l.length : Int)) = false := decide_eq_false (by omega)
      have hd2 : decide (k < l.length) = false := decide_eq_false hlt
      obtain rfl : k = l.length := by omega
      rw [List.drop_length] at HL1 HL2
      have HG1 : Hid (layD f l d = D) := HL1.out
      have HG2 : Hid (layE f l d = 0) := HL2.out
      clear HL1 HL2
      go_wp2_with fail
      go_ret
      exact ⟨by (rw [HG2.out]; first | done | rfl), by rw [HG1.out]; exact HXW.out, HKW.out⟩
end Go.Proofs.YtgmahahhkaofbaaGreatDoor.Slt
