/- PARTS, JOINED: THE WALKS OF A DISK: a step taken. Conditions: none. THE WALKS OF A DISK: a step to a file; bytes put, a cut, a sync. Conditions: none. THE WALKS OF A DISK: bytes put, a cut, a sync. Conditions: none. THE WALKS OF A DISK: what is asked wrongly; what a file keeps; sizes and units. Conditions: none. A DISK CLONED. Conditions: none. WHAT A CALL LEAVES OF A DISK, whatever is asked; what calls do, one behind the other. Conditions: none. -/
import Derived.Test.YtbkkcejpkfbcjaaDd1
import Derived.Test.YtbkkcejpkfbcjaaDd2
import Derived.Laws.Tables
import Derived.Laws.CopyOwn
namespace Go.Proofs.Ytbkkcejpkfbcjaa.Dk
open Go.RowKit Go.Mir

/-- a disk's own blocks -/
def DOwn (db : Nat) (vs : List FV) (k : Nat) : Prop := k = db ∨ ∃ v ∈ vs, v.sv.ownBlock = some k
theorem DAt.no8 {w : World} {base db : Nat} {vs : List FV} {d : DD} (h : DAt w base db vs d) : ∀ k M fr, w.heap[k]? = some (.cells M 5 fr) → ¬ DOwn db vs k := by
  intro k M fr hk hs
  rcases hs with rfl | ⟨v, hv, hs⟩
  · rw [h.row] at hk
    injection hk with e1
    injection e1 with _ e2
    exact absurd e2 (by decide)
  · obtain ⟨i, hi⟩ := List.mem_iff_getElem?.1 hv
    have hlt : i < d.fs.length := by rw [h.m3, ← h.n3]; exact (List.getElem?_eq_some_iff.1 hi).1
    obtain ⟨vals, ho, _⟩ := (h.each i v _ hi (List.getElem?_eq_getElem hlt)).steps
    exact own_ne_cells' ho hk (by decide) k hs rfl
theorem DAt.ownLt {w : World} {base db : Nat} {vs : List FV} {d : DD} (h : DAt w base db vs d) : ∀ k, DOwn db vs k → base ≤ k ∧ k < w.heap.size := by
  intro k hs
  rcases hs with rfl | ⟨v, hv, hs⟩
  · exact ⟨h.low, (Array.getElem?_eq_some_iff.1 h.row).1⟩
  · obtain ⟨i, hi⟩ := List.mem_iff_getElem?.1 hv
    have hlt : i < d.fs.length := by rw [h.m3, ← h.n3]; exact (List.getElem?_eq_some_iff.1 hi).1
    obtain ⟨vals, ho, _⟩ := (h.each i v _ hi (List.getElem?_eq_getElem hlt)).steps
    exact ho.lt k hs
/-- what a call leaves of a disk -/
def LeftD (base db : Nat) (vs : List FV) (d' : DD) (w w' : World) : Prop := ∃ vs', DAt w' base db vs' d' ∧ Turns (DOwn db vs) w w' ∧ (∀ k, DOwn db vs' k → DOwn db vs k ∨ w.heap.size ≤ k)
theorem take_end {w w3 : World} {base db : Nat} {vs : List FV} {d : DD} {i nd : Nat} {f : FD} {s : St} {v0 : FV} {nv sv : Value} {vals : List Value} {p' : Option Addr} {c' : Nat} (h : DAt w base db vs d) (hi : i < d.fs.length) (hv : i < vs.length) (hf : d.fs[i] = f) (hv0 : vs[i] = v0)
    (hvals : ∀ (i : Nat) x s, vals[i]? = some x → f.steps[i]? = some s → StAt w base x s) (hvl : vals.length = f.steps.length)
    (hrow : w3.heap[db]? = some (.cells (dA (vs.set i ⟨v0.kv, nv, v0.sv, nd⟩) d.room d.fuse d.down) 54 (0, 0))) (ht : Turns (fun k => k = db ∨ v0.sv.ownBlock = some k) w w3)
    (hnow : Rd w3 base nv (f.take s).now) (hnd : nd = (f.take s).need) (hown : w3.ownsRow base 83 1 (.slice p' (f.steps.length + 1) c') (f.steps.length + 1) (vals ++ [sv])) (hsv : StAt w3 base sv s)
    (hnx : ∀ k, (Value.slice p' (f.steps.length + 1) c').ownBlock = some k → v0.sv.ownBlock = some k ∨ w.heap.size ≤ k)
    (hok : s.ok f.now.length) (hu : s.units ≤ 65536) (hfew : f.steps.length + 1 ≤ 4398046511104) (hroom : usedL d.fs - f.need + (f.take s).need ≤ d.room) :
    LeftD base db vs (setF d i (f.take s)) w (w3.setCell ⟨db, i * 4 + 2, none⟩ (.slice p' (f.steps.length + 1) c')) := by
  have hF := h.each i _ _ (List.getElem?_eq_getElem hv) (List.getElem?_eq_getElem hi)
  rw [hf, hv0] at hF
  have hn3 : (vs.set i ⟨v0.kv, nv, v0.sv, nd⟩).length = 3 := by rw [List.length_set]; exact h.n3
  obtain ⟨_, _, h4⟩ := dA_set hn3 d.room d.fuse d.down
  obtain ⟨_, _, g3, _⟩ := h4 i (by rw [List.length_set]; exact hv)
  rw [List.getElem_set_self] at g3
  simp only [List.set_set] at g3
  have hrow4 := cell_put (off := i * 4 + 2) (.slice p' (f.steps.length + 1) c') hrow
  rw [g3] at hrow4
  have ht3 : Turns (fun k => k = db) w3 (w3.setCell ⟨db, i * 4 + 2, none⟩ (.slice p' (f.steps.length + 1) c')) := (Turns.refl (fun k => k = db) w3).setCell (p := ⟨db, i * 4 + 2, none⟩) (fun _ => rfl) _
  have ht4 : Turns (fun k => k = db ∨ v0.sv.ownBlock = some k) w (w3.setCell ⟨db, i * 4 + 2, none⟩ (.slice p' (f.steps.length + 1) c')) := ht.trans ht3 (fun _ _ h => .inl h)
  have hsub : ∀ k, (k = db ∨ v0.sv.ownBlock = some k) → DOwn db vs k := fun k hk => hk.imp id (fun hk => ⟨v0, by rw [← hv0]; exact List.getElem_mem hv, hk⟩)
  have hno3 : ∀ k M fr, w3.heap[k]? = some (.cells M 5 fr) → ¬ k = db := fun k M fr hk e => by
    subst e
    rw [hrow] at hk
    injection hk with e1
    injection e1 with _ e2
    exact absurd e2 (by decide)
  have hmem : v0 ∈ vs := by rw [← hv0]; exact List.getElem_mem hv
  refine ⟨vs.set i ⟨v0.kv, nv, .slice p' (f.steps.length + 1) c', nd⟩, ⟨hrow4, h.low, by rw [List.length_set]; exact h.n3, by show (d.fs.set i _).length = 3; rw [List.length_set]; exact h.m3, ?_, ?_, h.room1, h.fuse1, ?_, ?_⟩, ht4.imp (fun k _ hk => hsub k hk), ?_⟩
  · intro j v g h1 h2
    replace h2 : (d.fs.set i (f.take s))[j]? = some g := h2
    rw [List.getElem?_set] at h1 h2
    by_cases hij : i = j
    · subst hij
      rw [if_pos rfl, if_pos hv] at h1
      rw [if_pos rfl, if_pos hi] at h2
      cases h1; cases h2
      refine ⟨hF.kept.touch ht4 (fun k M fr hk hs => h.no8 k M fr hk (hsub k hs)), hnow.touch ht3 hno3, ⟨vals ++ [sv], ?_, ?_⟩, hnd, FD.take_ok hF.ok hok hu⟩
      · have := own_touch hown ht3 (fun k hk => own_ne_cells' hown hrow (by decide) k hk)
        show World.ownsRow _ _ _ _ _ ((f.steps ++ [s]).length) _
        rw [List.length_append]
        exact this
      · intro j x t hx ht
        replace ht : (f.steps ++ [s])[j]? = some t := ht
        by_cases hj : j < f.steps.length
        · rw [List.getElem?_append_left (by omega)] at hx
          rw [List.getElem?_append_left hj] at ht
          exact (hvals j x t hx ht).touch ht4 (fun k M fr hk hs => h.no8 k M fr hk (hsub k hs))
        · rw [List.getElem?_append_right (by omega)] at hx ht
          have hz : j - f.steps.length = 0 := by
            have := (List.getElem?_eq_some_iff.1 ht).1
            simp at this; omega
          rw [hvl, hz] at hx
          rw [hz] at ht
          cases hx; cases ht
          exact hsv.touch ht3 hno3
    · rw [if_neg hij] at h1 h2
      obtain ⟨vals', ho, _⟩ := (h.each j v g h1 h2).steps
      refine (h.each j v g h1 h2).touch ht4 (fun k M fr hk hs => h.no8 k M fr hk (hsub k hs)) (fun k hk hs => ?_)
      rcases hs with hs | hs
      · exact own_ne_cells' ho h.row (by decide) k hk hs
      · exact hij (h.apart i j v0 v k (by rw [← hv0]; exact List.getElem?_eq_getElem hv) h1 hs hk)
  · intro j j' v v' k h1 h2 h3 h4
    have key : ∀ (a : Nat) (va : FV), ¬ i = a → vs[a]? = some va → va.sv.ownBlock = some k → ¬ (Value.slice p' (f.steps.length + 1) c').ownBlock = some k := fun a va hia hva hk hk2 => by
      rcases hnx k hk2 with hn | hn
      · exact hia (h.apart i a v0 va k (by rw [← hv0]; exact List.getElem?_eq_getElem hv) hva hn hk)
      · have := (h.ownLt k (.inr ⟨va, List.mem_of_getElem? hva, hk⟩)).2
        omega
    rw [List.getElem?_set] at h1 h2
    by_cases hij : i = j
    · subst hij
      rw [if_pos rfl, if_pos hv] at h1
      cases h1
      by_cases hij' : i = j'
      · exact hij'
      · rw [if_neg hij'] at h2
        exact absurd h3 (key j' v' hij' h2 h4)
    · rw [if_neg hij] at h1
      by_cases hij' : i = j'
      · subst hij'
        rw [if_pos rfl, if_pos hv] at h2
        cases h2
        exact absurd h4 (key j v hij h1 h3)
      · rw [if_neg hij'] at h2
        exact h.apart j j' v v' k h1 h2 h3 h4
  · show usedL (d.fs.set i _) ≤ d.room
    have h1 := usedL_set hi (f.take s)
    rw [hf] at h1
    have h2 := usedL_mem hi
    rw [hf] at h2
    omega
  · intro g hg
    rcases List.mem_or_eq_of_mem_set hg with hg | hg
    · exact h.few g hg
    · rw [hg]; show (f.steps ++ [s]).length ≤ _; rw [List.length_append]; exact hfew
  · intro k hk
    rcases hk with hk | ⟨v, hv', hk⟩
    · exact .inl (.inl hk)
    · rcases List.mem_or_eq_of_mem_set hv' with hv' | rfl
      · exact .inl (.inr ⟨v, hv', hk⟩)
      · rcases hnx k hk with hn | hn
        · exact .inl (.inr ⟨v0, hmem, hn⟩)
        · exact .inr hn

theorem infoStep : (Try.prog.info? 83).map (fun i => (i.zero, i.size, i.bytes)) = some (some .nilIface, 1, 16) := by kernel_rfl
theorem row_sl1 {w : World} {b : Nat} {v : Value} {t : TypeId} {fr : Nat × Nat} (h : w.heap[b]? = some (.cells #[v] t fr)) : Sl w (some ⟨b, 0, none⟩) 1 1 1 [v] :=
  ⟨rfl, by omega, by omega, fun h => (by cases h), fun a ha j u hu => by
    obtain rfl := Option.some.inj ha
    have hj : j = 0 := by have := (List.getElem?_eq_some_iff.1 hu).1; simp at this; exact this
    subst hj
    rw [add_none, cell_of_row _ _ _ _ _ _ h]
    simpa using hu⟩
set_option maxRecDepth 100000 in
set_option maxHeartbeats 1600000 in
theorem take_any {base db : Nat} {vs : List FV} {d : DD} (w : World) (h : DAt w base db vs d) (hbase : base ≤ w.heap.size) (i : Nat) (hi : i < d.fs.length) (f : FD) (hf : d.fs[i] = f) (sv : Value) (s : St) (hs : StAt w base sv s)
    (hok : s.ok f.now.length) (hu : s.units ≤ 65536) (hfew : f.steps.length + 1 ≤ 4398046511104) (hroom : usedL d.fs - f.need + (f.take s).need ≤ d.room) :
    Calls Try.prog 43 #[.pointer (some ⟨db, i * 4, none⟩), sv] w fun e w' => e = .returned (.tuple #[]) ∧ LeftD base db vs (setF d i (f.take s)) w w' := by
  have hv : i < vs.length := by have := h.n3; have := h.m3; omega
  have HM0 : Hid (Mid w w base db vs d i (vs[i]'hv)) := ⟨by rw [List.set_getElem_self]; exact h.row, Turns.refl _ _⟩
  have H := Lib.hid h
  have HFE := Lib.hid hf
  have hF := h.each i _ _ (List.getElem?_eq_getElem hv) (List.getElem?_eq_getElem hi)
  rw [hf] at hF
  have HF := Lib.hid hF
  have hle := usedL_mem hi
  rw [hf] at hle
  have hused := h.used
  have hroom1 := h.room1
  have HNE : Hid (f.need ≤ 65536) := by show _ ≤ _; omega
  have HNL : Hid (f.now.length ≤ 65536) := Nat.le_trans hF.ok.le HNE.out
  have HAFD := Lib.hid (after_any w.drew (h.below (below_drew1 _ _)) i hi sv s (hs.touch (Turns.of_below (S := fun _ => False) (below_drew1 _ _)) (fun _ _ _ _ h => h)) (by rw [hf]; have := HNL.out; cases s with | put b => simp only [St.size, St.units] at *; omega | cut n => simp only [St.size, St.ok] at *; omega))
  rw [hf] at HAFD
  have HS := Lib.hid hs
  have HOKS := Lib.hid hok
  have HUS := Lib.hid hu
  have HROOM := Lib.hid hroom
  have HBASE := Lib.hid hbase
  have HI := Lib.hid hi
  have HV0 : Hid (∃ v0, vs[i]'hv = v0 ∧ Mid w w base db vs d i v0 ∧ FAt w base v0 f) := ⟨_, rfl, HM0.out, hF⟩
  have HV := Lib.hid hv
  obtain ⟨v0, hv0, hm0, hf0⟩ := HV0.out
  have HVE : Hid (∀ hv : i < vs.length, vs[i]'hv = v0) := fun _ => hv0
  have HM := Lib.hid hm0
  have HFF := Lib.hid hf0
  have HND : Hid (v0.nd = f.need) := hf0.need
  obtain ⟨n1, hn1⟩ : ∃ n1, n1 = (f.take s).need := ⟨_, rfl⟩
  have HN1 := Lib.hid hn1
  have HMX1 : Hid ((if ((f.need : Nat) : Int) < ((s.size f.now.length : Nat) : Int) then ((s.size f.now.length : Nat) : Int) else ((f.need : Nat) : Int)) = (n1 : Int) ∧ (if f.need < s.size f.now.length then ((s.size f.now.length : Nat) : Int) else ((f.need : Nat) : Int)) = (n1 : Int)) := by
    have e : n1 = max f.need (s.size f.now.length) := hn1
    show _ ∧ _
    constructor <;> (split <;> omega)
  obtain ⟨z, hz⟩ : ∃ z, z = s.size f.now.length := ⟨_, rfl⟩
  rw [← hz] at HMX1 HAFD
  clear HM0 HV0 hF hm0 hf0 hle hused hroom hok hu hs h hf hv0 hn1 hz
  obtain ⟨hc0, hc1, hc2, hc3, hfz⟩ := HM.out.cells H.out.n3 HV.out
  rw [HND.out] at hc3
  have hkc : Hid (∀ w', Below w.heap.size w w' → w'.cell? ⟨db, i * 4 + 3, none⟩ = some (.int .i64 (f.need : Int))) := fun w' hb => cell_below hc3 hb
  clear hc0 hc1 hc2 hc3 hfz
  go_enter Try.func43, Try.ntmps43
  go_upto_region 0 with fail
  refine wp_region_eager_t (Below w.heap.size w) [0, 1, 2, 3, 4, 5, 6, 8, 9, 10] [(0, true), (1, true), (2, true), (3, true), (4, true), (5, true), (6, true), (7, false), (8, true), (9, true), (10, true)] [11] (by kernel_rfl) (by kernel_rfl) ?_ (eagerTOpen rfl ?_)
  · exact below_drew1 _ _
  have hy0 : Below w.heap.size w w.drew := below_drew1 _ _
  repeat (first
    | (first | (apply wpEagerT_take; (· rfl); (· (intro w' hb'; go_simp; try with_reducible rfl)); (try simp only [Act.put, List.setIfInBounds_toArray, List.set_cons_zero, List.set_cons_succ]); (try refine eagerTOpen rfl ?_)) | (refine wpEagerT_skip (by rfl) ?_; (try simp only [Act.put, List.setIfInBounds_toArray, List.set_cons_zero, List.set_cons_succ]); (try refine eagerTOpen rfl ?_)))
    | (apply wpEagerT_take; (· rfl); (· (intro w' hb'; have hk' := (hkc.out) w' hb'; go_split_ands; go_simp; try with_reducible rfl)); (try simp only [Act.put, List.setIfInBounds_toArray, List.set_cons_zero, List.set_cons_succ]); (try refine eagerTOpen rfl ?_)))
  (refine wpEagerT_op (by rfl) (fun K hK => ?_); go_simp; (refine (HAFD.out).mono ?_; rintro e y ⟨rfl, hb9⟩; have hy1 : Below w.heap.size w y := hy0.trans hb9; clear hb9); refine Shut.out hK _ _ (by assumption) ?_; clear hK K; (try simp only [Act.put, List.setIfInBounds_toArray, List.set_cons_zero, List.set_cons_succ]); (try refine eagerTOpen rfl ?_))
  obtain ⟨hmx1, hmx2⟩ := HMX1.out
  repeat (first | (apply wpEagerT_take; (· rfl); (· (intro w' hb'; go_simp; try with_reducible rfl)); (try simp only [Act.put, List.setIfInBounds_toArray, List.set_cons_zero, List.set_cons_succ]); (try refine eagerTOpen rfl ?_)) | (refine wpEagerT_skip (by rfl) ?_; (try simp only [Act.put, List.setIfInBounds_toArray, List.set_cons_zero, List.set_cons_succ]); (try refine eagerTOpen rfl ?_)))
  refine eagerTEnd (tail1 rfl ?_)
  have HMY := Lib.hid (HM.out.below hy1)
  have HSY := Lib.hid (HS.out.touch (Turns.of_below (S := fun _ => False) hy1) (fun _ _ _ _ h => h))
  obtain ⟨hc0, hc1, hc2, hc3, hfz⟩ := HMY.out.cells H.out.n3 HV.out
  have HMZ := Lib.hid ((HMY.out.put H.out.n3 HV.out).2.2.2 n1)
  clear hy0 hy1 hmx1 hmx2
  go_wp2_with fail
  refine noPanic_end ?_
  have HS1 : Hid (StAt (y.setCell ⟨db, i * 4 + 3, none⟩ (.int .i64 (n1 : Int))) base sv s) := by
    have ht : Turns (fun k => k = db) y (y.setCell ⟨db, i * 4 + 3, none⟩ (.int .i64 (n1 : Int))) := (Turns.refl (fun k => k = db) y).setCell (p := ⟨db, i * 4 + 3, none⟩) (fun _ => rfl) _
    refine HSY.out.touch ht (fun k M fr hk e => ?_)
    subst e
    rw [HMY.out.row] at hk
    injection hk with e1
    injection e1 with _ e2
    exact absurd e2 (by decide)
  generalize y.setCell ⟨db, i * 4 + 3, none⟩ (.int .i64 (n1 : Int)) = w1 at *
  clear hc0 hc1 hc2 hc3 hfz HMY HSY HAFD HM hkc
  clear y
  go_upto_region 1 with fail
  have HBW1 : Hid (base ≤ w1.heap.size) := Nat.le_trans HBASE.out HMZ.out.turn.size
  obtain ⟨pn, cn, hnv, hbsn⟩ := HFF.out.now.bs
  have HNOW1 : Hid (Rd w1 base (.slice pn f.now.length cn) f.now) := by
    have := HFF.out.now
    rw [hnv] at this
    exact this.turn H.out HMZ.out.turn
  have hkc : Hid (∀ w', Below w1.heap.size w1 w' → w'.cell? ⟨db, i * 4 + 1, none⟩ = some (.slice pn f.now.length cn)) := fun w' hb => by
    have := ((HMZ.out.below hb).cells H.out.n3 HV.out).2.1
    rw [hnv] at this
    exact this
  clear hbsn hnv
  obtain ⟨x, hinv⟩ := inv_any HS1.out
  try simp only [Act.put, List.setIfInBounds_toArray, List.set_cons_zero, List.set_cons_succ]
  rcases hinv with ⟨hx, hcu, hcd⟩ | ⟨hx, hcu, hcd⟩
  · subst hx
    have HCU := Lib.hid hcu
    have HCD := Lib.hid hcd
    have hm1 := mPutUnits
    have hm2 := mPutDo
    have hm3 := nPutDo
    clear hcu hcd
    refine wp_region_eager_t (Below w1.heap.size w1) [0, 1, 2, 3, 4, 5, 6, 8, 9, 10, 12, 13] [(0, true), (1, true), (2, true), (3, true), (4, true), (5, true), (6, true), (8, true), (9, true), (10, true), (7, false), (11, false), (12, true), (13, true)] [14] (by kernel_rfl) (by kernel_rfl) ?_ (eagerTOpen rfl ?_)
    · exact below_drew1 _ _
    have hy0 : Below w1.heap.size w1 w1.drew := below_drew1 _ _
    repeat (first
      | (first | (apply wpEagerT_take; (· rfl); (· (intro w' hb'; go_simp; try with_reducible rfl)); (try simp only [Act.put, List.setIfInBounds_toArray, List.set_cons_zero, List.set_cons_succ]); (try refine eagerTOpen rfl ?_)) | (refine wpEagerT_skip (by rfl) ?_; (try simp only [Act.put, List.setIfInBounds_toArray, List.set_cons_zero, List.set_cons_succ]); (try refine eagerTOpen rfl ?_)))
      | (apply wpEagerT_take; (· rfl); (· (intro w' hb'; have hk' := (hkc.out) w' hb'; go_split_ands; go_simp; try with_reducible rfl)); (try simp only [Act.put, List.setIfInBounds_toArray, List.set_cons_zero, List.set_cons_succ]); (try refine eagerTOpen rfl ?_)))
    (refine wpEagerT_op (by rfl) (fun K hK => ?_); go_simp; (refine (HCU.out _).mono ?_; rintro e y0 ⟨rfl, hb9⟩; have hy1 : Below w1.heap.size w1 y0 := hy0.trans hb9; clear hb9); refine Shut.out hK _ _ (by assumption) ?_; clear hK K; (try simp only [Act.put, List.setIfInBounds_toArray, List.set_cons_zero, List.set_cons_succ]); (try refine eagerTOpen rfl ?_))
    repeat (first
      | (first | (apply wpEagerT_take; (· rfl); (· (intro w' hb'; go_simp; try with_reducible rfl)); (try simp only [Act.put, List.setIfInBounds_toArray, List.set_cons_zero, List.set_cons_succ]); (try refine eagerTOpen rfl ?_)) | (refine wpEagerT_skip (by rfl) ?_; (try simp only [Act.put, List.setIfInBounds_toArray, List.set_cons_zero, List.set_cons_succ]); (try refine eagerTOpen rfl ?_)))
      | (apply wpEagerT_take; (· rfl); (· (intro w' hb'; have hk' := (hkc.out) w' hb'; go_split_ands; go_simp; try with_reducible rfl)); (try simp only [Act.put, List.setIfInBounds_toArray, List.set_cons_zero, List.set_cons_succ]); (try refine eagerTOpen rfl ?_)))
    (refine wpEagerT_op (by rfl) (fun K hK => ?_); go_simp; (refine (HCD.out pn f.now.length cn f.now s.units (Nat.le_refl _) (fun _ => HOKS.out) (by have := HNL.out; have := HUS.out; omega) _ hy1 (Nat.le_trans HBW1.out hy1.size) (HNOW1.out.below hy1)).mono ?_; rintro e y ⟨p9, c9, rfl, hr9, hb9⟩; have HR9 := Lib.hid hr9; have hy2 : Below w1.heap.size w1 y := hy1.trans (hb9.mono hy1.size); clear hr9 hb9); refine Shut.out hK _ _ (by assumption) ?_; clear hK K; (try simp only [Act.put, List.setIfInBounds_toArray, List.set_cons_zero, List.set_cons_succ]); (try refine eagerTOpen rfl ?_))
    repeat (first | (apply wpEagerT_take; (· rfl); (· (intro w' hb'; go_simp; try with_reducible rfl)); (try simp only [Act.put, List.setIfInBounds_toArray, List.set_cons_zero, List.set_cons_succ]); (try refine eagerTOpen rfl ?_)) | (refine wpEagerT_skip (by rfl) ?_; (try simp only [Act.put, List.setIfInBounds_toArray, List.set_cons_zero, List.set_cons_succ]); (try refine eagerTOpen rfl ?_)))
    refine eagerTEnd (tail1 rfl ?_)
    have HMY := Lib.hid (HMZ.out.below hy2)
    have HSY := Lib.hid (HS1.out.touch (Turns.of_below (S := fun _ => False) hy2) (fun _ _ _ _ h => h))
    obtain ⟨hc0, hc1, hc2, hc3, hfz⟩ := HMY.out.cells H.out.n3 HV.out
    have HMW := Lib.hid ((HMY.out.put H.out.n3 HV.out).2.1 (.slice p9 (s.act f.now s.units).length c9))
    clear hy0 hy1 hy2
    go_wp2_with fail
    refine noPanic_end ?_
    have ht9 : Turns (fun k => k = db) y (y.setCell ⟨db, i * 4 + 1, none⟩ (.slice p9 (s.act f.now s.units).length c9)) := (Turns.refl (fun k => k = db) y).setCell (p := ⟨db, i * 4 + 1, none⟩) (fun _ => rfl) _
    have hid9 : ∀ k M fr, y.heap[k]? = some (.cells M 5 fr) → ¬ k = db := fun k M fr hk e => by
      subst e
      rw [HMY.out.row] at hk
      injection hk with e1
      injection e1 with _ e2
      exact absurd e2 (by decide)
    have HS2 := Lib.hid (HSY.out.touch ht9 hid9)
    have HNOW2 := Lib.hid (HR9.out.touch ht9 hid9)
    generalize y.setCell ⟨db, i * 4 + 1, none⟩ (.slice p9 (s.act f.now s.units).length c9) = w2 at *
    clear hc0 hc1 hc2 hc3 hfz HMY HSY HR9 ht9 hid9
    clear y
    have HST := Lib.hid HFF.out.steps
    obtain ⟨vals, ho, hst⟩ := HST.out
    obtain ⟨ps, cs, hsv0, hsl⟩ := own_sl ho
    have HOV := Lib.hid ho
    have HSTV := Lib.hid hst
    have HVL : Hid (vals.length = f.steps.length) := by show _ = _; have := ho.1; omega
    have HOW2 : Hid (w2.ownsRow base 83 1 v0.sv f.steps.length vals) := own_touch ho HMW.out.turn (own_ne_cells' ho H.out.row (by decide))
    rw [hsv0] at HOW2
    have HSV0 := Lib.hid hsv0
    clear ho hst hsl hsv0
    have hb2 := Below.allocs w2 (.cells #[(Value.iface 71 x)] 83)
    have HMA := Lib.hid (HMW.out.below hb2)
    have HSA := Lib.hid (HS2.out.touch (Turns.of_below (S := fun _ => False) hb2) (fun _ _ _ _ h => h))
    have HNA := Lib.hid (HNOW2.out.below hb2)
    have HOA := Lib.hid (own_touch HOW2.out (Turns.of_below (S := fun _ => False) hb2) (fun _ _ h => h))
    have HSLA : Hid (Sl (w2.alloc (.cells #[(Value.iface 71 x)] 83)) (some ⟨w2.heap.size, 0, none⟩) 1 1 1 [(Value.iface 71 x)]) := row_sl1 (heap_alloc_last _ _)
    have HBA : Hid (base ≤ (w2.alloc (.cells #[(Value.iface 71 x)] 83)).heap.size) := Nat.le_trans HBASE.out (Nat.le_trans HMW.out.turn.size hb2.size)
    obtain ⟨hc0, hc1, hc2, hc3, hfz⟩ := HMW.out.cells H.out.n3 HV.out
    rw [HSV0.out] at hc2
    clear hb2
    go_wp2_with (first


      | (refine wpList_append_nx rfl _ _ 49 rfl (base := base) Try.underlying49 infoStep rfl (by omega) rfl HOA.out rfl HSLA.out (fun u hu => by rw [List.mem_singleton] at hu; rw [hu]; rfl) ⟨by omega, by omega⟩ HBA.out ?_))
    intro p' c' w3 ho3 hg3 hnx3 _
    have hTg : Turns (fun k => (Value.slice ps f.steps.length cs).ownBlock = some k) (w2.alloc (.cells #[(Value.iface 71 x)] 83)) w3 := Turns.grown hg3 (S := fun k => (Value.slice ps f.steps.length cs).ownBlock = some k) (fun k hk => hk)
    have hno8 : ∀ k M fr, (w2.alloc (.cells #[(Value.iface 71 x)] 83)).heap[k]? = some (.cells M 5 fr) → ¬ (Value.slice ps f.steps.length cs).ownBlock = some k := fun k M fr hk hs => own_ne_cells' HOA.out hk (by decide) k hs rfl
    have HS3 := Lib.hid (HSA.out.touch hTg hno8)
    have HN3 := Lib.hid (HNA.out.touch hTg hno8)
    have HR3 := Lib.hid (hTg.keep HMA.out.row (fun hs => own_ne_cells' HOA.out HMA.out.row (by decide) db hs rfl))
    have HT3 : Hid (Turns (fun k => k = db ∨ v0.sv.ownBlock = some k) w w3) := (HMA.out.turn.imp (S' := fun k => k = db ∨ v0.sv.ownBlock = some k) (fun _ _ h => .inl h)).trans hTg (fun k _ hk => .inr (by rw [HSV0.out]; exact hk))
    have HX3 : Hid (∀ k, (Value.slice p' (f.steps.length + 1) c').ownBlock = some k → v0.sv.ownBlock = some k ∨ w.heap.size ≤ k) := fun k hk => by
      rcases hnx3 k hk with hn | hn
      · exact .inl (by rw [HSV0.out]; exact hn)
      · right
        have := HMA.out.turn.size
        have h2 : (w2.alloc (.cells #[(Value.iface 71 x)] 83)).heap.size = w2.heap.size + 1 := by simp
        have := HMW.out.turn.size
        omega
    have hc32 : w3.cell? ⟨db, i * 4 + 2, none⟩ = some v0.sv := by
      have := (HMA.out.cells H.out.n3 HV.out).2.2.1
      exact hTg.cell this (fun hs => own_ne_cells' HOA.out HMA.out.row (by decide) db hs rfl)
    have hfz3 : w3.frozen? ⟨db, i * 4 + 2, none⟩ = false := frozen_of_row _ _ _ _ _ HR3.out
    have HO3 := Lib.hid ho3
    clear ho3 hg3 hnx3 hTg hno8 hc0 hc1 hc2 hc3 hfz
    go_wp2_with fail
    go_end0
    exact ⟨rfl, take_end H.out HI.out HV.out HFE.out (HVE.out HV.out) HSTV.out HVL.out HR3.out HT3.out HN3.out HN1.out HO3.out HS3.out HX3.out HOKS.out HUS.out hfew HROOM.out⟩
  · subst hx
    have HCU := Lib.hid hcu
    have HCD := Lib.hid hcd
    have hm1 := mCutUnits
    have hm2 := mCutDo
    have hm3 := nCutDo
    clear hcu hcd
    refine wp_region_eager_t (Below w1.heap.size w1) [0, 1, 2, 3, 4, 5, 6, 8, 9, 10, 12, 13] [(0, true), (1, true), (2, true), (3, true), (4, true), (5, true), (6, true), (8, true), (9, true), (10, true), (7, false), (11, false), (12, true), (13, true)] [14] (by kernel_rfl) (by kernel_rfl) ?_ (eagerTOpen rfl ?_)
    · exact below_drew1 _ _
    have hy0 : Below w1.heap.size w1 w1.drew := below_drew1 _ _
    repeat (first
      | (first | (apply wpEagerT_take; (· rfl); (· (intro w' hb'; go_simp; try with_reducible rfl)); (try simp only [Act.put, List.setIfInBounds_toArray, List.set_cons_zero, List.set_cons_succ]); (try refine eagerTOpen rfl ?_)) | (refine wpEagerT_skip (by rfl) ?_; (try simp only [Act.put, List.setIfInBounds_toArray, List.set_cons_zero, List.set_cons_succ]); (try refine eagerTOpen rfl ?_)))
      | (apply wpEagerT_take; (· rfl); (· (intro w' hb'; have hk' := (hkc.out) w' hb'; go_split_ands; go_simp; try with_reducible rfl)); (try simp only [Act.put, List.setIfInBounds_toArray, List.set_cons_zero, List.set_cons_succ]); (try refine eagerTOpen rfl ?_)))
    (refine wpEagerT_op (by rfl) (fun K hK => ?_); go_simp; (refine (HCU.out _).mono ?_; rintro e y0 ⟨rfl, hb9⟩; have hy1 : Below w1.heap.size w1 y0 := hy0.trans hb9; clear hb9); refine Shut.out hK _ _ (by assumption) ?_; clear hK K; (try simp only [Act.put, List.setIfInBounds_toArray, List.set_cons_zero, List.set_cons_succ]); (try refine eagerTOpen rfl ?_))
    repeat (first
      | (first | (apply wpEagerT_take; (· rfl); (· (intro w' hb'; go_simp; try with_reducible rfl)); (try simp only [Act.put, List.setIfInBounds_toArray, List.set_cons_zero, List.set_cons_succ]); (try refine eagerTOpen rfl ?_)) | (refine wpEagerT_skip (by rfl) ?_; (try simp only [Act.put, List.setIfInBounds_toArray, List.set_cons_zero, List.set_cons_succ]); (try refine eagerTOpen rfl ?_)))
      | (apply wpEagerT_take; (· rfl); (· (intro w' hb'; have hk' := (hkc.out) w' hb'; go_split_ands; go_simp; try with_reducible rfl)); (try simp only [Act.put, List.setIfInBounds_toArray, List.set_cons_zero, List.set_cons_succ]); (try refine eagerTOpen rfl ?_)))
    (refine wpEagerT_op (by rfl) (fun K hK => ?_); go_simp; (refine (HCD.out pn f.now.length cn f.now s.units (Nat.le_refl _) (fun _ => HOKS.out) (by have := HNL.out; have := HUS.out; omega) _ hy1 (Nat.le_trans HBW1.out hy1.size) (HNOW1.out.below hy1)).mono ?_; rintro e y ⟨p9, c9, rfl, hr9, hb9⟩; have HR9 := Lib.hid hr9; have hy2 : Below w1.heap.size w1 y := hy1.trans (hb9.mono hy1.size); clear hr9 hb9); refine Shut.out hK _ _ (by assumption) ?_; clear hK K; (try simp only [Act.put, List.setIfInBounds_toArray, List.set_cons_zero, List.set_cons_succ]); (try refine eagerTOpen rfl ?_))
    repeat (first | (apply wpEagerT_take; (· rfl); (· (intro w' hb'; go_simp; try with_reducible rfl)); (try simp only [Act.put, List.setIfInBounds_toArray, List.set_cons_zero, List.set_cons_succ]); (try refine eagerTOpen rfl ?_)) | (refine wpEagerT_skip (by rfl) ?_; (try simp only [Act.put, List.setIfInBounds_toArray, List.set_cons_zero, List.set_cons_succ]); (try refine eagerTOpen rfl ?_)))
    refine eagerTEnd (tail1 rfl ?_)
    have HMY := Lib.hid (HMZ.out.below hy2)
    have HSY := Lib.hid (HS1.out.touch (Turns.of_below (S := fun _ => False) hy2) (fun _ _ _ _ h => h))
    obtain ⟨hc0, hc1, hc2, hc3, hfz⟩ := HMY.out.cells H.out.n3 HV.out
    have HMW := Lib.hid ((HMY.out.put H.out.n3 HV.out).2.1 (.slice p9 (s.act f.now s.units).length c9))
    clear hy0 hy1 hy2
    go_wp2_with fail
    refine noPanic_end ?_
    have ht9 : Turns (fun k => k = db) y (y.setCell ⟨db, i * 4 + 1, none⟩ (.slice p9 (s.act f.now s.units).length c9)) := (Turns.refl (fun k => k = db) y).setCell (p := ⟨db, i * 4 + 1, none⟩) (fun _ => rfl) _
    have hid9 : ∀ k M fr, y.heap[k]? = some (.cells M 5 fr) → ¬ k = db := fun k M fr hk e => by
      subst e
      rw [HMY.out.row] at hk
      injection hk with e1
      injection e1 with _ e2
      exact absurd e2 (by decide)
    have HS2 := Lib.hid (HSY.out.touch ht9 hid9)
    have HNOW2 := Lib.hid (HR9.out.touch ht9 hid9)
    generalize y.setCell ⟨db, i * 4 + 1, none⟩ (.slice p9 (s.act f.now s.units).length c9) = w2 at *
    clear hc0 hc1 hc2 hc3 hfz HMY HSY HR9 ht9 hid9
    clear y
    have HST := Lib.hid HFF.out.steps
    obtain ⟨vals, ho, hst⟩ := HST.out
    obtain ⟨ps, cs, hsv0, hsl⟩ := own_sl ho
    have HOV := Lib.hid ho
    have HSTV := Lib.hid hst
    have HVL : Hid (vals.length = f.steps.length) := by show _ = _; have := ho.1; omega
    have HOW2 : Hid (w2.ownsRow base 83 1 v0.sv f.steps.length vals) := own_touch ho HMW.out.turn (own_ne_cells' ho H.out.row (by decide))
    rw [hsv0] at HOW2
    have HSV0 := Lib.hid hsv0
    clear ho hst hsl hsv0
    have hb2 := Below.allocs w2 (.cells #[(Value.iface 78 x)] 83)
    have HMA := Lib.hid (HMW.out.below hb2)
    have HSA := Lib.hid (HS2.out.touch (Turns.of_below (S := fun _ => False) hb2) (fun _ _ _ _ h => h))
    have HNA := Lib.hid (HNOW2.out.below hb2)
    have HOA := Lib.hid (own_touch HOW2.out (Turns.of_below (S := fun _ => False) hb2) (fun _ _ h => h))
    have HSLA : Hid (Sl (w2.alloc (.cells #[(Value.iface 78 x)] 83)) (some ⟨w2.heap.size, 0, none⟩) 1 1 1 [(Value.iface 78 x)]) := row_sl1 (heap_alloc_last _ _)
    have HBA : Hid (base ≤ (w2.alloc (.cells #[(Value.iface 78 x)] 83)).heap.size) := Nat.le_trans HBASE.out (Nat.le_trans HMW.out.turn.size hb2.size)
    obtain ⟨hc0, hc1, hc2, hc3, hfz⟩ := HMW.out.cells H.out.n3 HV.out
    rw [HSV0.out] at hc2
    clear hb2
    go_wp2_with (first


      | (refine wpList_append_nx rfl _ _ 49 rfl (base := base) Try.underlying49 infoStep rfl (by omega) rfl HOA.out rfl HSLA.out (fun u hu => by rw [List.mem_singleton] at hu; rw [hu]; rfl) ⟨by omega, by omega⟩ HBA.out ?_))
    intro p' c' w3 ho3 hg3 hnx3 _
    have hTg : Turns (fun k => (Value.slice ps f.steps.length cs).ownBlock = some k) (w2.alloc (.cells #[(Value.iface 78 x)] 83)) w3 := Turns.grown hg3 (S := fun k => (Value.slice ps f.steps.length cs).ownBlock = some k) (fun k hk => hk)
    have hno8 : ∀ k M fr, (w2.alloc (.cells #[(Value.iface 78 x)] 83)).heap[k]? = some (.cells M 5 fr) → ¬ (Value.slice ps f.steps.length cs).ownBlock = some k := fun k M fr hk hs => own_ne_cells' HOA.out hk (by decide) k hs rfl
    have HS3 := Lib.hid (HSA.out.touch hTg hno8)
    have HN3 := Lib.hid (HNA.out.touch hTg hno8)
    have HR3 := Lib.hid (hTg.keep HMA.out.row (fun hs => own_ne_cells' HOA.out HMA.out.row (by decide) db hs rfl))
    have HT3 : Hid (Turns (fun k => k = db ∨ v0.sv.ownBlock = some k) w w3) := (HMA.out.turn.imp (S' := fun k => k = db ∨ v0.sv.ownBlock = some k) (fun _ _ h => .inl h)).trans hTg (fun k _ hk => .inr (by rw [HSV0.out]; exact hk))
    have HX3 : Hid (∀ k, (Value.slice p' (f.steps.length + 1) c').ownBlock = some k → v0.sv.ownBlock = some k ∨ w.heap.size ≤ k) := fun k hk => by
      rcases hnx3 k hk with hn | hn
      · exact .inl (by rw [HSV0.out]; exact hn)
      · right
        have := HMA.out.turn.size
        have h2 : (w2.alloc (.cells #[(Value.iface 78 x)] 83)).heap.size = w2.heap.size + 1 := by simp
        have := HMW.out.turn.size
        omega
    have hc32 : w3.cell? ⟨db, i * 4 + 2, none⟩ = some v0.sv := by
      have := (HMA.out.cells H.out.n3 HV.out).2.2.1
      exact hTg.cell this (fun hs => own_ne_cells' HOA.out HMA.out.row (by decide) db hs rfl)
    have hfz3 : w3.frozen? ⟨db, i * 4 + 2, none⟩ = false := frozen_of_row _ _ _ _ _ HR3.out
    have HO3 := Lib.hid ho3
    clear ho3 hg3 hnx3 hTg hno8 hc0 hc1 hc2 hc3 hfz
    go_wp2_with fail
    go_end0
    exact ⟨rfl, take_end H.out HI.out HV.out HFE.out (HVE.out HV.out) HSTV.out HVL.out HR3.out HT3.out HN3.out HN1.out HO3.out HS3.out HX3.out HOKS.out HUS.out hfew HROOM.out⟩
end Go.Proofs.Ytbkkcejpkfbcjaa.Dk

namespace Go.Proofs.Ytbkkcejpkfbcjaa.Dk
open Go.RowKit Go.Mir

theorem LeftD.row {w w' : World} {base db : Nat} {vs : List FV} {d d' : DD} (h : DAt w base db vs d) (hd : DAt w' base db vs d') (ht : Turns (fun k => k = db) w w') : LeftD base db vs d' w w' :=
  ⟨vs, hd, ht.imp (fun k _ hk => .inl hk), fun k hk => .inl hk⟩
theorem LeftD.trans {w w1 w2 : World} {base db : Nat} {vs vs1 : List FV} {d2 : DD} (h0 : ∀ k, DOwn db vs1 k → DOwn db vs k ∨ w.heap.size ≤ k) (ht : Turns (DOwn db vs) w w1) (h : LeftD base db vs1 d2 w1 w2) : LeftD base db vs d2 w w2 := by
  obtain ⟨vs2, hd, ht2, hn⟩ := h
  refine ⟨vs2, hd, ht.trans ht2 (fun k hk hs => ?_), fun k hk => ?_⟩
  · rcases h0 k hs with h | h
    · exact h
    · omega
  · rcases hn k hk with hn | hn
    · exact h0 k hn
    · exact .inr (Nat.le_trans ht.size hn)
/-- what a step answers -/
def doE (d : DD) (i : Nat) (f : FD) (s : St) : Int :=
  if d.down = true then 18 else if d.room < usedL d.fs - f.need + max f.need (s.size f.now.length) then 17 else if (setF d i (f.take s)).burn.down = true then 18 else 0
def doD (d : DD) (i : Nat) (f : FD) (s : St) : DD :=
  if d.down = true then d else if d.room < usedL d.fs - f.need + max f.need (s.size f.now.length) then d else (setF d i (f.take s)).burn

set_option maxRecDepth 100000 in
theorem do_out {base db : Nat} {vs : List FV} {d : DD} (w : World) (h : DAt w base db vs d) (n : Int) (hn : n < 0 ∨ 3 ≤ n) (sv : Value) (hsv : (∃ v, sv = .iface 71 v) ∨ ∃ z, sv = .iface 78 (.agg #[.int .i64 z])) :
    Calls Try.prog 31 #[.pointer (some ⟨db, 0, none⟩), .int .i64 n, sv] w fun e w' => e = .returned (.int .i64 1) ∧ Below w.heap.size w w' := by
  have H := Lib.hid h
  have HN := Lib.hid hn
  clear h hn
  rcases hsv with ⟨v, rfl⟩ | ⟨z, rfl⟩
  · have hta := ta_pc v
    go_enter Try.func31, Try.ntmps31
    go_wp2_with fail
    refine (at_out w H.out n HN.out).mono ?_
    rintro e w' ⟨rfl, rfl⟩
    have hb := Below.allocs w (.cells #[.int .i64 0] 78)
    have HB := Lib.hid hb
    have HA := Lib.hid (H.out.below hb)
    clear hb
    go_upto_region 3 with fail
    generalize w.alloc (.cells #[.int .i64 0] 78) = w1 at *
    go_wp2_with fail
    refine (none_any _ HA.out).mono ?_
    rintro e w' ⟨rfl, rfl⟩
    go_wp2_with fail
    refine wp_region_grow (by kernel_rfl) (by kernel_rfl) ?_
    repeat (first
      | ((with_reducible refine wpQuietGd ?_); (with_reducible refine wpQuiet_skip ?_ ?_); (· rfl); simp only [Act.put, List.setIfInBounds_toArray, List.set_cons_zero, List.set_cons_succ])
      | quiet_step (fail))
    refine wpQuiet_nil ?_
    intro w2 hb2
    have HB2 := Lib.hid (HB.out.trans (hb2.mono HB.out.size))
    clear hb2
    go_wp2_with fail
    go_ret
    exact ⟨rfl, HB2.out⟩
  · have hta := ta_cc (.agg #[.int .i64 z])
    go_enter Try.func31, Try.ntmps31
    go_wp2_with fail
    refine (at_out w H.out n HN.out).mono ?_
    rintro e w' ⟨rfl, rfl⟩
    have hb := Below.allocs w (.cells #[.int .i64 z] 78)
    have HB := Lib.hid hb
    have HA := Lib.hid (H.out.below hb)
    clear hb
    go_upto_region 3 with fail
    generalize w.alloc (.cells #[.int .i64 z] 78) = w1 at *
    go_wp2_with fail
    refine (none_any _ HA.out).mono ?_
    rintro e w' ⟨rfl, rfl⟩
    go_wp2_with fail
    refine wp_region_grow (by kernel_rfl) (by kernel_rfl) ?_
    repeat (first
      | ((with_reducible refine wpQuietGd ?_); (with_reducible refine wpQuiet_skip ?_ ?_); (· rfl); simp only [Act.put, List.setIfInBounds_toArray, List.set_cons_zero, List.set_cons_succ])
      | quiet_step (fail))
    refine wpQuiet_nil ?_
    intro w2 hb2
    have HB2 := Lib.hid (HB.out.trans (hb2.mono HB.out.size))
    clear hb2
    go_wp2_with fail
    go_ret
    exact ⟨rfl, HB2.out⟩

theorem used_grow {base db : Nat} {vs : List FV} {d : DD} (w : World) (h : DAt w base db vs d) : Calls Try.prog 26 #[.pointer (some ⟨db, 0, none⟩)] w fun e w' => e = .returned (.int .i64 (usedL d.fs : Int)) ∧ Below w.heap.size w w' :=
  (used_any w h).mono fun e w' ⟨h1, h2⟩ => ⟨h1, h2 ▸ Below.refl _ _⟩
theorem units_fit {s : St} {d : DD} {f : FD} {n1 : Nat} (_h : n1 = max f.need (s.size f.now.length)) (hle : ¬ d.room < usedL d.fs - f.need + max f.need (s.size f.now.length)) (hr : d.room ≤ 65536) (_hu : s.units ≤ 140737488355328) : s.units ≤ 65536 := by
  cases s with
  | put b => simp only [St.size, St.units] at *; omega
  | cut n => simp only [St.units]; omega
def DoP (base db : Nat) (vs : List FV) (d : DD) (i : Nat) (f : FD) (s : St) (w : World) (e : Ending) (w' : World) : Prop := e = .returned (.int .i64 (doE d i f s)) ∧ LeftD base db vs (doD d i f s) w w'
set_option maxRecDepth 100000 in
set_option maxHeartbeats 1600000 in
theorem do_in {base db : Nat} {vs : List FV} {d : DD} (w : World) (h : DAt w base db vs d) (hbase : base ≤ w.heap.size) (i : Nat) (hi : i < d.fs.length) (f : FD) (hf : d.fs[i] = f) (sv : Value) (s : St) (hs : StAt w base sv s)
    (hok : s.ok f.now.length) (hu : s.units ≤ 140737488355328) (hfew : f.steps.length + 1 ≤ 4398046511104) :
    Calls Try.prog 31 #[.pointer (some ⟨db, 0, none⟩), .int .i64 (i : Int), sv] w (DoP base db vs d i f s w) := by
  have hv : i < vs.length := by have := h.n3; have := h.m3; omega
  have hi3 : i < 3 := by have := h.m3; omega
  have hF := h.each i _ _ (List.getElem?_eq_getElem hv) (List.getElem?_eq_getElem hi)
  rw [hf] at hF
  have HND : Hid ((vs[i]'hv).nd = f.need) := hF.need
  have hle := usedL_mem hi
  rw [hf] at hle
  have hused := h.used
  have hroom1 := h.room1
  have HROOM := Lib.hid hroom1.2
  have HNL : Hid (f.now.length ≤ 65536) := by have := hF.ok.le; show _ ≤ _; omega
  obtain ⟨U, hU⟩ : ∃ U, U = usedL d.fs := ⟨_, rfl⟩
  have HUE := Lib.hid hU
  rw [← hU] at hle hused
  obtain ⟨z, hz⟩ : ∃ z, z = s.size f.now.length := ⟨_, rfl⟩
  have HZE := Lib.hid hz
  have HZL : Hid (z ≤ 281474976710656) := by
    show _ ≤ _
    rw [hz]
    have := HNL.out
    cases s with
    | put b => simp only [St.size, St.units] at *; omega
    | cut n => simp only [St.size, St.ok] at *; omega
  obtain ⟨n1, hn1⟩ : ∃ n1, n1 = max f.need z := ⟨_, rfl⟩
  have HN1 := Lib.hid hn1
  have HN1M : Hid (max f.need (s.size f.now.length) = n1) := by show _ = _; rw [← hz, hn1]
  have HN1L : Hid (n1 ≤ 281474976776192) := by have := HZL.out; show _ ≤ _; omega
  have HMX1 : Hid ((if ((f.need : Nat) : Int) < ((z : Nat) : Int) then ((z : Nat) : Int) else ((f.need : Nat) : Int)) = (n1 : Int) ∧ (if f.need < z then ((z : Nat) : Int) else ((f.need : Nat) : Int)) = (n1 : Int)) := by
    show _ ∧ _
    constructor <;> (split <;> omega)
  have H := Lib.hid h
  have HFE := Lib.hid hf
  have HS := Lib.hid hs
  have HOKS := Lib.hid hok
  have HUS := Lib.hid hu
  have HFEW := Lib.hid hfew
  have HBASE := Lib.hid hbase
  have HI := Lib.hid hi
  have HFF := Lib.hid hF
  have HV := Lib.hid hv
  clear hn1 hz hU hF hf h hu hfew
  cases s with
  | put b =>
    obtain ⟨bv, rfl, hrd⟩ := hs
    obtain ⟨p, c, rfl, hbs⟩ := hrd.bs
    clear hrd hbs hok
    obtain ⟨SV, hSV⟩ : ∃ SV, SV = Value.iface 71 (.agg #[.slice p b.length c]) := ⟨_, rfl⟩
    have hta : ∀ w, (Instr.typeAssert SV 83 78 true).run Try.prog w = .ok (.tuple #[.agg #[.int .i64 0], .bool false]) w := fun w => by rw [hSV]; exact ta_pc _ w
    rw [← hSV] at HS ⊢
    clear hSV
    go_enter Try.func31, Try.ntmps31
    go_wp2_with fail
    refine (at_in w H.out i hi3).mono ?_
    rintro e w' ⟨rfl, rfl⟩
    have hb := Below.allocs w (.cells #[.int .i64 0] 78)
    have HB := Lib.hid hb
    have HA := Lib.hid (H.out.below hb)
    clear hb
    go_upto_region 3 with fail
    generalize w.alloc (.cells #[.int .i64 0] 78) = w1 at *
    go_wp2_with fail
    refine (none_any _ HA.out).mono ?_
    rintro e w' ⟨rfl, rfl⟩
    clear hta
    go_wp2_with fail
    refine wp_region_grow (by kernel_rfl) (by kernel_rfl) ?_
    repeat (first
      | ((with_reducible refine wpQuietGd ?_); (with_reducible refine wpQuiet_skip ?_ ?_); (· rfl); simp only [Act.put, List.setIfInBounds_toArray, List.set_cons_zero, List.set_cons_succ])
      | quiet_step (fail))
    refine wpQuiet_nil ?_
    intro w2 hb2
    have HBx := Lib.hid (HB.out.trans (hb2.mono HB.out.size))
    have HAx := Lib.hid (HA.out.below hb2)
    clear hb2 HB HA w1
    have HB := HBx
    have HA := HAx
    clear HBx HAx
    generalize hst : St.put b = s at *
    clear hst
    generalize hw2 : w2 = w1 at *
    clear hw2 w2
    have HDN1 := Lib.hid (HA.out.cells.2.2.1)
    cases hdn : d.down with
    | true =>
      have hc := HDN1.out
      rw [hdn] at hc
      have HFIN : Hid (∀ w', Below w.heap.size w w' → DoP base db vs d i f s w (.returned (.int .i64 18)) w') := fun w' hb => by
        refine ⟨by unfold doE; rw [if_pos hdn], vs, ?_, Turns.of_below hb, fun k hk => .inl hk⟩
        unfold doD
        rw [if_pos hdn]
        exact H.out.below hb
      clear hdn
      go_wp2_with fail
      go_ret
      exact HFIN.out _ HB.out
    | false =>
      have HDN := Lib.hid hdn
      have hc := HDN1.out
      rw [hdn] at hc
      clear hdn
      go_upto_region 9 with fail
      have hcn := (HA.out.file i HV.out).2.2.2
      rw [HND.out] at hcn
      have hcr := HA.out.cells.1
      have hg1 := cell_grown hcn
      have hg2 := cell_grown hcr
      have HAFT : Hid (∀ y : Grown w1, Calls Try.prog 42 #[.pointer (some ⟨db, i * 4, none⟩), SV] y.v fun e w' => e = .returned (.int .i64 (z : Int)) ∧ Below y.v.heap.size y.v w') := fun y => by
        have := after_any y.v (HA.out.below y.b) i HI.out SV s (HS.out.touch (Turns.of_below (S := fun _ => False) (HB.out.trans (y.b.mono HB.out.size))) (fun _ _ _ _ h => h)) (by rw [HFE.out]; have := HZL.out; rw [HZE.out] at this; omega)
        rw [HFE.out, ← HZE.out] at this
        exact this
      have HUSE : Hid (∀ y : Grown w1, Calls Try.prog 26 #[.pointer (some ⟨db, 0, none⟩)] y.v fun e w' => e = .returned (.int .i64 (U : Int)) ∧ Below y.v.heap.size y.v w') := fun y => by
        have := used_grow y.v (HA.out.below y.b)
        rwa [← HUE.out] at this
      obtain ⟨hmx1, hmx2⟩ := HMX1.out
      have hsub : (U : Int) - (f.need : Int) = ((U - f.need : Nat) : Int) := by omega
      have hws : IntKind.i64.wrap ((U : Int) - (f.need : Int)) = ((U - f.need : Nat) : Int) := by rw [hsub]; exact IntWalk.i64_in _ (by omega)
      have hws2 : IntKind.i64.wrap ((U - f.need : Nat) : Int) = ((U - f.need : Nat) : Int) := IntWalk.i64_in _ (by omega)
      have hwa : IntKind.i64.wrap (((U - f.need : Nat) : Int) + (n1 : Int)) = ((U - f.need : Nat) : Int) + (n1 : Int) := IntWalk.i64_in _ (by have := HN1L.out; omega)
      refine wp_region_grow (by kernel_rfl) (by kernel_rfl) ?_
      repeat (first
        | ((with_reducible refine wpQuietGd ?_); (with_reducible refine wpQuiet_skip ?_ ?_); (· rfl); simp only [Act.put, List.setIfInBounds_toArray, List.set_cons_zero, List.set_cons_succ])
        | quiet_step ((first | (go_at_call 42; exact Calls.grow_of (HAFT.out _)) | (go_at_call 26; exact Calls.grow_of (HUSE.out _)))))
      refine wpQuiet_nil ?_
      intro w2 hb2
      have HA2 := Lib.hid (HA.out.below hb2)
      have HB2 := Lib.hid (HB.out.trans (hb2.mono HB.out.size))
      clear hb2 hg1 hg2 hcn hcr hc HAFT HUSE hws hws2 hwa hsub hmx1 hmx2
      by_cases hbig : (d.room : Int) < ((U - f.need : Nat) : Int) + (n1 : Int)
      · have e1 : decide ((d.room : Int) < ((U - f.need : Nat) : Int) + (n1 : Int)) = true := decide_eq_true hbig
        have e2 : decide (d.room < U - f.need + n1) = true := decide_eq_true (by omega)
        have HFIN : Hid (∀ w', Below w.heap.size w w' → DoP base db vs d i f s w (.returned (.int .i64 17)) w') := fun w' hb => by
          have hgt : d.room < usedL d.fs - f.need + max f.need (s.size f.now.length) := by
            have := HN1.out; have := HUE.out; have := HZE.out; have := HN1M.out; omega
          refine ⟨by unfold doE; rw [HDN.out, if_neg (by decide), if_pos hgt], vs, ?_, Turns.of_below hb, fun k hk => .inl hk⟩
          unfold doD
          rw [HDN.out, if_neg (by decide), if_pos hgt]
          exact H.out.below hb
        go_wp2_with fail
        go_ret
        exact HFIN.out _ HB2.out
      · have e1 : decide ((d.room : Int) < ((U - f.need : Nat) : Int) + (n1 : Int)) = false := decide_eq_false hbig
        have e2 : decide (d.room < U - f.need + n1) = false := decide_eq_false (by omega)
        have HLE : Hid (¬ d.room < usedL d.fs - f.need + max f.need (s.size f.now.length)) := by
          have := HN1.out; have := HUE.out; have := HZE.out; have := HN1M.out; show ¬ _; omega
        have HTK := Lib.hid (take_any w2 HA2.out (Nat.le_trans HBASE.out HB2.out.size) i HI.out f HFE.out SV s (HS.out.touch (Turns.of_below (S := fun _ => False) HB2.out) (fun _ _ _ _ h => h)) HOKS.out (units_fit HN1M.out.symm HLE.out HROOM.out HUS.out) HFEW.out (by have := HLE.out; show usedL d.fs - f.need + max f.need (s.size f.now.length) ≤ d.room; omega))
        have hbig2 : ((U - f.need : Nat) : Int) + (n1 : Int) ≤ (d.room : Int) := by omega
        go_wp2_with fail
        clear hbig hbig2
        refine (HTK.out).mono ?_
        rintro e w3 ⟨rfl, vs3, hd3, ht3, hn3⟩
        have HD3 := Lib.hid hd3
        have HT3 : Hid (Turns (DOwn db vs) w w3) := (Turns.of_below HB2.out).trans ht3 (fun _ _ h => h)
        have HN3 : Hid (∀ k, DOwn db vs3 k → DOwn db vs k ∨ w.heap.size ≤ k) := fun k hk => (hn3 k hk).imp id (fun h => Nat.le_trans HB2.out.size h)
        have HBN := Lib.hid (burn_any w3 hd3)
        clear hd3 ht3 hn3 HTK
        go_wp2_with fail
        refine (HBN.out).mono ?_
        rintro e w4 ⟨rfl, hd4, ht4⟩
        have HFIN : Hid (∀ v, v = doE d i f s → DoP base db vs d i f s w (.returned (.int .i64 v)) w4) := fun v hv => by
          refine ⟨by rw [hv], ?_⟩
          have := LeftD.trans HN3.out HT3.out (LeftD.row HD3.out hd4 ht4)
          unfold doD
          rw [HDN.out, if_neg (by decide), if_neg HLE.out]
          exact this
        have HDE : Hid (doE d i f s = if (setF d i (f.take s)).burn.down = true then 18 else 0) := by show _ = _; unfold doE; rw [HDN.out, if_neg (by decide), if_neg HLE.out]
        clear hd4 ht4
        cases hbd : (setF d i (f.take s)).burn.down with
        | true =>
          have HV18 := Lib.hid (HFIN.out 18 (by rw [HDE.out, hbd]; rfl))
          clear hbd
          go_wp2_with fail
          go_ret
          exact HV18.out
        | false =>
          have HV0 := Lib.hid (HFIN.out 0 (by rw [HDE.out, hbd]; rfl))
          clear hbd
          go_wp2_with fail
          go_ret
          exact HV0.out
  | cut m =>
    cases hs
    obtain ⟨SV, hSV⟩ : ∃ SV, SV = Value.iface 78 (.agg #[.int .i64 (m : Int)]) := ⟨_, rfl⟩
    have hta : ∀ w, (Instr.typeAssert SV 83 78 true).run Try.prog w = .ok (.tuple #[.agg #[.int .i64 (m : Int)], .bool true]) w := fun w => by rw [hSV]; exact ta_cc _ w
    rw [← hSV] at HS ⊢
    have hmn : m ≤ f.now.length := hok
    clear hSV hok
    go_enter Try.func31, Try.ntmps31
    go_wp2_with fail
    refine (at_in w H.out i hi3).mono ?_
    rintro e w' ⟨rfl, rfl⟩
    have hb := Below.allocs w (.cells #[.int .i64 (m : Int)] 78)
    have HB := Lib.hid hb
    have HA := Lib.hid (H.out.below hb)
    have hcm : (w.alloc (.cells #[.int .i64 (m : Int)] 78)).cell? ⟨w.heap.size, 0, none⟩ = some (.int .i64 (m : Int)) := by rw [cell_of_row _ _ _ _ _ _ (heap_alloc_last _ _)]; rfl
    clear hb
    go_upto_region 3 with fail
    generalize w.alloc (.cells #[.int .i64 (m : Int)] 78) = w1 at *
    go_wp2_with fail
    refine (none_any _ HA.out).mono ?_
    rintro e w' ⟨rfl, rfl⟩
    clear hta
    obtain ⟨pn, cn, hnv, hbn⟩ := HFF.out.now.bs
    have hc1 := (HA.out.file i HV.out).2.1
    rw [hnv] at hc1
    have hg1 := cell_grown hc1
    have hg2 := cell_grown hcm
    have hm0 : decide ((m : Int) < 0) = false := decide_eq_false (by omega)
    have hm1 : decide ((f.now.length : Int) < (m : Int)) = false := decide_eq_false (by omega)
    have hm2 : decide (f.now.length < m) = false := decide_eq_false (by omega)
    clear hbn hnv
    go_upto_region 5 with fail
    refine wp_region_grow (by kernel_rfl) (by kernel_rfl) ?_
    repeat (first
      | ((with_reducible refine wpQuietGd ?_); (with_reducible refine wpQuiet_skip ?_ ?_); (· rfl); simp only [Act.put, List.setIfInBounds_toArray, List.set_cons_zero, List.set_cons_succ])
      | quiet_step (fail))
    refine wpQuiet_nil ?_
    intro w2 hb2
    have HBx := Lib.hid (HB.out.trans (hb2.mono HB.out.size))
    have HAx := Lib.hid (HA.out.below hb2)
    clear hb2 HB HA hg1 hg2 hcm hc1 hm0 hm1 hm2 hmn w1
    have HB := HBx
    have HA := HAx
    clear HBx HAx
    generalize hst : St.cut m = s at *
    clear hst
    generalize hw2 : w2 = w1 at *
    clear hw2 w2
    have HDN1 := Lib.hid (HA.out.cells.2.2.1)
    cases hdn : d.down with
    | true =>
      have hc := HDN1.out
      rw [hdn] at hc
      have HFIN : Hid (∀ w', Below w.heap.size w w' → DoP base db vs d i f s w (.returned (.int .i64 18)) w') := fun w' hb => by
        refine ⟨by unfold doE; rw [if_pos hdn], vs, ?_, Turns.of_below hb, fun k hk => .inl hk⟩
        unfold doD
        rw [if_pos hdn]
        exact H.out.below hb
      clear hdn
      go_wp2_with fail
      go_ret
      exact HFIN.out _ HB.out
    | false =>
      have HDN := Lib.hid hdn
      have hc := HDN1.out
      rw [hdn] at hc
      clear hdn
      go_upto_region 9 with fail
      have hcn := (HA.out.file i HV.out).2.2.2
      rw [HND.out] at hcn
      have hcr := HA.out.cells.1
      have hg1 := cell_grown hcn
      have hg2 := cell_grown hcr
      have HAFT : Hid (∀ y : Grown w1, Calls Try.prog 42 #[.pointer (some ⟨db, i * 4, none⟩), SV] y.v fun e w' => e = .returned (.int .i64 (z : Int)) ∧ Below y.v.heap.size y.v w') := fun y => by
        have := after_any y.v (HA.out.below y.b) i HI.out SV s (HS.out.touch (Turns.of_below (S := fun _ => False) (HB.out.trans (y.b.mono HB.out.size))) (fun _ _ _ _ h => h)) (by rw [HFE.out]; have := HZL.out; rw [HZE.out] at this; omega)
        rw [HFE.out, ← HZE.out] at this
        exact this
      have HUSE : Hid (∀ y : Grown w1, Calls Try.prog 26 #[.pointer (some ⟨db, 0, none⟩)] y.v fun e w' => e = .returned (.int .i64 (U : Int)) ∧ Below y.v.heap.size y.v w') := fun y => by
        have := used_grow y.v (HA.out.below y.b)
        rwa [← HUE.out] at this
      obtain ⟨hmx1, hmx2⟩ := HMX1.out
      have hsub : (U : Int) - (f.need : Int) = ((U - f.need : Nat) : Int) := by omega
      have hws : IntKind.i64.wrap ((U : Int) - (f.need : Int)) = ((U - f.need : Nat) : Int) := by rw [hsub]; exact IntWalk.i64_in _ (by omega)
      have hws2 : IntKind.i64.wrap ((U - f.need : Nat) : Int) = ((U - f.need : Nat) : Int) := IntWalk.i64_in _ (by omega)
      have hwa : IntKind.i64.wrap (((U - f.need : Nat) : Int) + (n1 : Int)) = ((U - f.need : Nat) : Int) + (n1 : Int) := IntWalk.i64_in _ (by have := HN1L.out; omega)
      refine wp_region_grow (by kernel_rfl) (by kernel_rfl) ?_
      repeat (first
        | ((with_reducible refine wpQuietGd ?_); (with_reducible refine wpQuiet_skip ?_ ?_); (· rfl); simp only [Act.put, List.setIfInBounds_toArray, List.set_cons_zero, List.set_cons_succ])
        | quiet_step ((first | (go_at_call 42; exact Calls.grow_of (HAFT.out _)) | (go_at_call 26; exact Calls.grow_of (HUSE.out _)))))
      refine wpQuiet_nil ?_
      intro w2 hb2
      have HA2 := Lib.hid (HA.out.below hb2)
      have HB2 := Lib.hid (HB.out.trans (hb2.mono HB.out.size))
      clear hb2 hg1 hg2 hcn hcr hc HAFT HUSE hws hws2 hwa hsub hmx1 hmx2
      by_cases hbig : (d.room : Int) < ((U - f.need : Nat) : Int) + (n1 : Int)
      · have e1 : decide ((d.room : Int) < ((U - f.need : Nat) : Int) + (n1 : Int)) = true := decide_eq_true hbig
        have e2 : decide (d.room < U - f.need + n1) = true := decide_eq_true (by omega)
        have HFIN : Hid (∀ w', Below w.heap.size w w' → DoP base db vs d i f s w (.returned (.int .i64 17)) w') := fun w' hb => by
          have hgt : d.room < usedL d.fs - f.need + max f.need (s.size f.now.length) := by
            have := HN1.out; have := HUE.out; have := HZE.out; have := HN1M.out; omega
          refine ⟨by unfold doE; rw [HDN.out, if_neg (by decide), if_pos hgt], vs, ?_, Turns.of_below hb, fun k hk => .inl hk⟩
          unfold doD
          rw [HDN.out, if_neg (by decide), if_pos hgt]
          exact H.out.below hb
        go_wp2_with fail
        go_ret
        exact HFIN.out _ HB2.out
      · have e1 : decide ((d.room : Int) < ((U - f.need : Nat) : Int) + (n1 : Int)) = false := decide_eq_false hbig
        have e2 : decide (d.room < U - f.need + n1) = false := decide_eq_false (by omega)
        have HLE : Hid (¬ d.room < usedL d.fs - f.need + max f.need (s.size f.now.length)) := by
          have := HN1.out; have := HUE.out; have := HZE.out; have := HN1M.out; show ¬ _; omega
        have HTK := Lib.hid (take_any w2 HA2.out (Nat.le_trans HBASE.out HB2.out.size) i HI.out f HFE.out SV s (HS.out.touch (Turns.of_below (S := fun _ => False) HB2.out) (fun _ _ _ _ h => h)) HOKS.out (units_fit HN1M.out.symm HLE.out HROOM.out HUS.out) HFEW.out (by have := HLE.out; show usedL d.fs - f.need + max f.need (s.size f.now.length) ≤ d.room; omega))
        have hbig2 : ((U - f.need : Nat) : Int) + (n1 : Int) ≤ (d.room : Int) := by omega
        go_wp2_with fail
        clear hbig hbig2
        refine (HTK.out).mono ?_
        rintro e w3 ⟨rfl, vs3, hd3, ht3, hn3⟩
        have HD3 := Lib.hid hd3
        have HT3 : Hid (Turns (DOwn db vs) w w3) := (Turns.of_below HB2.out).trans ht3 (fun _ _ h => h)
        have HN3 : Hid (∀ k, DOwn db vs3 k → DOwn db vs k ∨ w.heap.size ≤ k) := fun k hk => (hn3 k hk).imp id (fun h => Nat.le_trans HB2.out.size h)
        have HBN := Lib.hid (burn_any w3 hd3)
        clear hd3 ht3 hn3 HTK
        go_wp2_with fail
        refine (HBN.out).mono ?_
        rintro e w4 ⟨rfl, hd4, ht4⟩
        have HFIN : Hid (∀ v, v = doE d i f s → DoP base db vs d i f s w (.returned (.int .i64 v)) w4) := fun v hv => by
          refine ⟨by rw [hv], ?_⟩
          have := LeftD.trans HN3.out HT3.out (LeftD.row HD3.out hd4 ht4)
          unfold doD
          rw [HDN.out, if_neg (by decide), if_neg HLE.out]
          exact this
        have HDE : Hid (doE d i f s = if (setF d i (f.take s)).burn.down = true then 18 else 0) := by show _ = _; unfold doE; rw [HDN.out, if_neg (by decide), if_neg HLE.out]
        clear hd4 ht4
        cases hbd : (setF d i (f.take s)).burn.down with
        | true =>
          have HV18 := Lib.hid (HFIN.out 18 (by rw [HDE.out, hbd]; rfl))
          clear hbd
          go_wp2_with fail
          go_ret
          exact HV18.out
        | false =>
          have HV0 := Lib.hid (HFIN.out 0 (by rw [HDE.out, hbd]; rfl))
          clear hbd
          go_wp2_with fail
          go_ret
          exact HV0.out
end Go.Proofs.Ytbkkcejpkfbcjaa.Dk

namespace Go.Proofs.Ytbkkcejpkfbcjaa.Dk
open Go.RowKit Go.Mir

theorem LeftD.from {w w1 w2 : World} {base db : Nat} {vs : List FV} {d2 : DD} (hb : Below w.heap.size w w1) (h : LeftD base db vs d2 w1 w2) : LeftD base db vs d2 w w2 :=
  LeftD.trans (fun k hk => .inl hk) (Turns.of_below hb) h
theorem wpList_build {P : Program} {w : World} {ops : Array Oper} {rest : List Oper} {o : Oper} {a : Act} {Q : Exit → Act → World → Prop} (hgd : o.guard = none) (t : TypeId) (parts : Array (Nat × Operand)) (ho : o.op = .build t parts)
    (vals : List (Nat × Value)) (hv : (parts.toList.map fun p => (p.1, a.eval p.2)) = vals) (cells : Array Value) (h : P.built t vals = some cells) (k : wpList P ops Q rest (a.put o.dst (.agg cells)) w) : wpList P ops Q (o :: rest) a w := by
  refine wpList_plain hgd fun K hK => ?_
  unfold Oper.wp execOp
  have hb : P.built t (parts.map fun p => (p.1, a.eval p.2)).toList = some cells := by rw [Array.toList_map, hv]; exact h
  simp only [ho, Sem.run_bind, Sem.run_pure, Result.andThen_ok, run_build w t _ cells hb]
  exact hK _ _ k
theorem build_put (p : Option Addr) (n c : Nat) : Try.prog.built 71 [(0, .slice p n c)] = some #[.slice p n c] := by kernel_rfl
theorem build_cut (n : Int) : Try.prog.built 78 [(0, .int .i64 n)] = some #[.int .i64 n] := by kernel_rfl
set_option maxRecDepth 100000 in
theorem append_in {base db : Nat} {vs : List FV} {d : DD} (w : World) (h : DAt w base db vs d) (hbase : base ≤ w.heap.size) (i : Nat) (hi : i < d.fs.length) (f : FD) (hf : d.fs[i] = f) (p : Option Addr) (n c : Nat) (b : List UInt8) (hb : Bs w p n c b) (hn : n ≤ 140737488355328) (hfew : f.steps.length + 1 ≤ 4398046511104) :
    Calls Try.prog 9 #[.pointer (some ⟨db, 0, none⟩), .int .i64 (i : Int), .slice p n c] w (DoP base db vs d i f (.put b) w) := by
  have HBS := Lib.hid hb
  have hle := hb.le
  have hmax := hb.max
  have HNL : Hid (b.length = n) := hb.length
  have H := Lib.hid h
  have HBASE := Lib.hid hbase
  have HI := Lib.hid hi
  have HFE := Lib.hid hf
  clear hb h hf
  go_enter Try.func9, Try.ntmps9
  go_wp2_with (refine wpList_append_nx rfl _ _ 31 rfl (base := w.heap.size) Try.underlying31 info8 rfl (by omega) rfl (World.ownsRow_nil _ _ _ _) rfl HBS.out (bytesV_one _) ⟨by omega, by omega⟩ (Nat.le_refl _) ?_)
  intro p9 c9 w9 ho9 hg9 _ _
  have hb9 : Below w.heap.size w w9 := (Below.refl _ _).grown hg9 (Nat.le_refl _) (fun k hk => by simp [Value.ownBlock] at hk)
  have HB9 := Lib.hid hb9
  have HR9 : Hid (Rd w9 base (.slice p9 n c9) b) := by
    have := ho9
    rw [← HNL.out] at this ⊢
    exact (Rd.of_own this).base HBASE.out
  have HDO := Lib.hid (do_in w9 (H.out.below hb9) (Nat.le_trans HBASE.out hb9.size) i HI.out f HFE.out (.iface 71 (.agg #[.slice p9 n c9])) (.put b) ⟨_, rfl, HR9.out⟩ trivial (by show b.length ≤ _; rw [HNL.out]; exact hn) hfew)
  clear ho9 hg9 hb9
  go_wp2_with ((with_reducible refine wpAt 11 ?_); refine wpList_build rfl 71 _ rfl [(0, .slice p9 n c9)] rfl _ (build_put _ _ _) ?_)
  refine (HDO.out).mono ?_
  rintro e w2 ⟨rfl, hl⟩
  have HL := Lib.hid (LeftD.from HB9.out hl)
  clear hl
  go_wp2_with fail
  go_ret
  exact ⟨rfl, HL.out⟩
set_option maxRecDepth 100000 in
theorem cut_in {base db : Nat} {vs : List FV} {d : DD} (w : World) (h : DAt w base db vs d) (hbase : base ≤ w.heap.size) (i : Nat) (hi : i < d.fs.length) (f : FD) (hf : d.fs[i] = f) (m : Nat) (hm : m ≤ f.now.length) (hfew : f.steps.length + 1 ≤ 4398046511104) :
    Calls Try.prog 15 #[.pointer (some ⟨db, 0, none⟩), .int .i64 (i : Int), .int .i64 (m : Int)] w (DoP base db vs d i f (.cut m) w) := by
  have HDO := Lib.hid (do_in w h hbase i hi f hf (.iface 78 (.agg #[.int .i64 (m : Int)])) (.cut m) rfl hm (by show 1 ≤ _; omega) hfew)
  clear h hf
  go_enter Try.func15, Try.ntmps15
  go_wp2_with ((with_reducible refine wpAt 10 ?_); refine wpList_build rfl 78 _ rfl [(0, .int .i64 (m : Int))] rfl _ (build_cut _) ?_)
  refine (HDO.out).mono ?_
  rintro e w2 ⟨rfl, hl⟩
  have HL := Lib.hid hl
  clear hl
  go_wp2_with fail
  go_ret
  exact ⟨rfl, HL.out⟩
/-- a sync -/
def syncD (d : DD) (i : Nat) (f : FD) : DD := if d.down = true then d else if d.burn.down = true then d.burn else setF d.burn i (f.settle (unitsAll f.steps))
def syncE (d : DD) : Int := if d.down = true then 18 else if d.burn.down = true then 18 else 0
theorem sync_down {d : DD} (i : Nat) (f : FD) (h : d.down = true) : syncD d i f = d ∧ syncE d = 18 := by unfold syncD syncE; rw [if_pos h, if_pos h]; exact ⟨rfl, rfl⟩
theorem sync_burnt {d : DD} (i : Nat) (f : FD) (h : d.down = false) (hb : d.burn.down = true) : syncD d i f = d.burn ∧ syncE d = 18 := by
  unfold syncD syncE
  simp [h, hb]
theorem sync_ok {d : DD} (i : Nat) (f : FD) (h : d.down = false) (hb : d.burn.down = false) : syncD d i f = setF d.burn i (f.settle (unitsAll f.steps)) ∧ syncE d = 0 := by
  unfold syncD syncE
  simp [h, hb]
theorem burn_fs (d : DD) : d.burn.fs = d.fs := by unfold DD.burn; split <;> rfl
set_option maxRecDepth 100000 in
set_option maxHeartbeats 800000 in
theorem sync_in {base db : Nat} {vs : List FV} {d : DD} (w : World) (h : DAt w base db vs d) (hbase : base ≤ w.heap.size) (i : Nat) (hi : i < d.fs.length) (f : FD) (hf : d.fs[i] = f) :
    Calls Try.prog 10 #[.pointer (some ⟨db, 0, none⟩), .int .i64 (i : Int)] w fun e w' => e = .returned (.int .i64 (syncE d)) ∧ LeftD base db vs (syncD d i f) w w' := by
  have H := Lib.hid h
  have hi3 : i < 3 := by have := h.m3; omega
  have hc := h.cells.2.2.1
  have HI := Lib.hid hi
  have HFE := Lib.hid hf
  have HBASE := Lib.hid hbase
  clear h hf
  cases hdn : d.down with
  | true =>
    have HFIN : Hid (LeftD base db vs (syncD d i f) w w ∧ syncE d = 18) := by
      obtain ⟨e1, e2⟩ := sync_down i f hdn
      show _ ∧ _
      rw [e1]
      exact ⟨⟨vs, H.out, Turns.refl _ _, fun k hk => .inl hk⟩, e2⟩
    rw [hdn] at hc
    clear hdn
    go_enter Try.func10, Try.ntmps10
    go_wp2_with fail
    refine (at_in w H.out i hi3).mono ?_
    rintro e w' ⟨rfl, rfl⟩
    go_wp2_with fail
    refine (none_any w H.out).mono ?_
    rintro e w' ⟨rfl, rfl⟩
    go_wp2_with fail
    go_ret
    exact ⟨by rw [HFIN.out.2]; rfl, HFIN.out.1⟩
  | false =>
    have HDN := Lib.hid hdn
    rw [hdn] at hc
    clear hdn
    go_enter Try.func10, Try.ntmps10
    go_wp2_with fail
    refine (at_in w H.out i hi3).mono ?_
    rintro e w' ⟨rfl, rfl⟩
    go_wp2_with fail
    refine (none_any w H.out).mono ?_
    rintro e w' ⟨rfl, rfl⟩
    go_wp2_with fail
    refine (burn_any w H.out).mono ?_
    rintro e w1 ⟨rfl, hd1, ht1⟩
    have HD1 := Lib.hid hd1
    have HT1 := Lib.hid ht1
    clear hd1 ht1 hc
    cases hbd : d.burn.down with
    | true =>
      have HFIN : Hid (LeftD base db vs (syncD d i f) w w1 ∧ syncE d = 18) := by
        obtain ⟨e1, e2⟩ := sync_burnt i f HDN.out hbd
        show _ ∧ _
        rw [e1]
        exact ⟨LeftD.row H.out HD1.out HT1.out, e2⟩
      clear hbd
      go_wp2_with fail
      go_ret
      exact ⟨by rw [HFIN.out.2]; rfl, HFIN.out.1⟩
    | false =>
      have HBD := Lib.hid hbd
      have HI1 : Hid (i < d.burn.fs.length) := by show _ < _; rw [burn_fs]; exact HI.out
      have HF1 : Hid (d.burn.fs[i]'HI1.out = f) := by
        show _ = _
        rw [← HFE.out]
        congr 1
        exact burn_fs d
      have HU := Lib.hid (fileUnits_any w1 HD1.out i HI1.out)
      rw [HF1.out] at HU
      have HUB : Hid (unitsAll f.steps ≤ 4611686018427387904) := by
        show _ ≤ _
        have hv : i < vs.length := by have := H.out.n3; omega
        have h1 := (HD1.out.each i _ _ (List.getElem?_eq_getElem hv) (List.getElem?_eq_getElem HI1.out)).ok.un
        have h2 := HD1.out.few _ (List.getElem_mem HI1.out)
        rw [HF1.out] at h1 h2
        omega
      clear hbd
      go_wp2_with fail
      refine (HU.out).mono ?_
      rintro e w2 ⟨rfl, hb2⟩
      have HB2 := Lib.hid hb2
      have HST := Lib.hid (settle_any w2 (HD1.out.below hb2) (Nat.le_trans HBASE.out (Nat.le_trans HT1.out.size hb2.size)) i HI1.out f HF1.out (unitsAll f.steps) HUB.out)
      clear hb2 HU
      go_wp2_with fail
      refine (HST.out).mono ?_
      rintro e w3 ⟨rfl, ⟨vs3, hd3, hn3⟩, ht3⟩
      have HFIN : Hid (LeftD base db vs (syncD d i f) w w3 ∧ syncE d = 0) := by
        obtain ⟨e1, e2⟩ := sync_ok i f HDN.out HBD.out
        show _ ∧ _
        rw [e1]
        refine ⟨⟨vs3, hd3, ?_, fun k hk => ?_⟩, e2⟩
        · exact ((HT1.out.trans (Turns.of_below (S := fun k => k = db) HB2.out) (fun _ _ h => h)).trans ht3 (fun _ _ h => h)).imp (fun k _ hk => .inl hk)
        · rcases hk with hk | ⟨v, hv, hk⟩
          · exact .inl (.inl hk)
          · exact .inl (.inr (hn3 v hv k hk))
      clear hd3 ht3 hn3
      go_wp2_with fail
      go_ret
      exact ⟨by rw [HFIN.out.2]; rfl, HFIN.out.1⟩
/-- what a file holds -/
theorem read_in {base db : Nat} {vs : List FV} {d : DD} (w : World) (h : DAt w base db vs d) (i : Nat) (hi : i < d.fs.length) :
    Calls Try.prog 12 #[.pointer (some ⟨db, 0, none⟩), .int .i64 (i : Int)] w (RdP w.heap.size d.fs[i].now w) := by
  have hv : i < vs.length := by have := h.n3; have := h.m3; omega
  have hi3 : i < 3 := by have := h.m3; omega
  have H := Lib.hid h
  have hc := (h.file i hv).2.1
  have hF := h.each i _ _ (List.getElem?_eq_getElem hv) (List.getElem?_eq_getElem hi)
  have hle := usedL_mem hi
  have hused := h.used
  have hroom1 := h.room1
  have hnl : d.fs[i].now.length ≤ 65536 := by have := hF.ok.le; omega
  obtain ⟨pn, cn, hnv, hbn⟩ := hF.now.bs
  rw [hnv] at hc
  generalize d.fs[i].now = l at *
  have HBN := Lib.hid hbn
  have hl1 := hbn.le
  have hl2 := hbn.max
  clear hbn hF hnv h hle hused
  go_enter Try.func12, Try.ntmps12
  go_wp2_with fail
  refine (at_in w H.out i hi3).mono ?_
  rintro e w' ⟨rfl, rfl⟩
  go_wp2_with (refine wpList_append_nx rfl _ _ 31 rfl (base := w.heap.size) Try.underlying31 info8 rfl (by omega) rfl (World.ownsRow_nil _ _ _ _) rfl HBN.out (bytesV_one _) ⟨by omega, by omega⟩ (Nat.le_refl _) ?_)
  intro p9 c9 w9 ho9 hg9 _ _
  have HB9 : Hid (Below w.heap.size w w9) := (Below.refl _ _).grown hg9 (Nat.le_refl _) (fun k hk => by simp [Value.ownBlock] at hk)
  have HR9 : Hid (Rd w9 w.heap.size (.slice p9 l.length c9) l) := Rd.of_own ho9
  clear ho9 hg9
  go_wp2_with fail
  go_ret
  exact ⟨p9, c9, rfl, HR9.out, HB9.out⟩
/-- a crash that keeps no unit -/
def crash0 (d : DD) : DD := ⟨d.fs.map (fun f => f.settle 0), d.room, 0, false⟩
def crashK (d : DD) (k : Nat) : DD := ⟨(d.fs.take k).map (fun f => f.settle 0) ++ d.fs.drop k, d.room, d.fuse, d.down⟩
theorem crashK_zero (d : DD) : crashK d 0 = d := by simp [crashK]
theorem crashK_step {d : DD} (h : d.fs.length = 3) (k : Nat) (hk : k < 3) (hk2 : k < (crashK d k).fs.length) : setF (crashK d k) k (((crashK d k).fs[k]'hk2).settle 0) = crashK d (k + 1) := by
  obtain ⟨fs, room, fuse, down⟩ := d
  obtain ⟨a, b, c, rfl⟩ := list3 h
  match k, hk with
  | 0, _ => rfl
  | 1, _ => rfl
  | 2, _ => rfl
set_option maxRecDepth 100000 in
set_option maxHeartbeats 800000 in
theorem crash_none {base db : Nat} {vs : List FV} {d : DD} (w : World) (h : DAt w base db vs d) (hbase : base ≤ w.heap.size) (c : Nat) (p : Option Addr) :
    Calls Try.prog 11 #[.pointer (some ⟨db, 0, none⟩), .slice p 0 c] w fun e w' => e = .returned (.tuple #[]) ∧ LeftD base db vs (crash0 d) w w' := by
  have H := Lib.hid h
  have HBASE := Lib.hid hbase
  have HM3 := Lib.hid h.m3
  clear h
  go_enter Try.func11, Try.ntmps11
  go_wp2_with fail
  refine (none_any w H.out).mono ?_
  rintro e w' ⟨rfl, rfl⟩
  go_wp2_with fail
  go_loopw [10] (fun j wr => ∃ k : Nat, k ≤ 3 ∧ j = .int .i64 k ∧ LeftD base db vs (crashK d k) w wr) (fun j _ => 3 - (intOf j).toNat)
  case atStart => exact ⟨0, by omega, rfl, vs, by rw [crashK_zero]; exact H.out, Turns.refl _ _, fun k hk => .inl hk⟩
  case round =>
    obtain ⟨k, hk, rfl, vs1, hd1, ht1, hn1⟩ := hrel
    have HD1 := Lib.hid hd1
    have HT1 := Lib.hid ht1
    have HN1 := Lib.hid hn1
    clear hd1 ht1 hn1
    by_cases hlt : k < 3
    · have hd : decide ((k : Int) < 3) = true := decide_eq_true (by omega)
      have hd2 : decide (k < 3) = true := decide_eq_true (by omega)
      have hk1 : (k : Int) < 3 := by omega
      have hk0 : (0 : Int) ≤ (k : Int) := by omega
      have e0 : decide ((k : Int) < 0) = false := decide_eq_false (by omega)
      have HKL : Hid (k < (crashK d k).fs.length) := by show _ < _; rw [HD1.out.m3]; exact hlt
      have HST := Lib.hid (settle_any wr HD1.out (Nat.le_trans HBASE.out HT1.out.size) k HKL.out _ rfl 0 (by omega))
      have e1 : decide ((k : Int) < 0) = false := decide_eq_false (by omega)
      go_wp2_with fail
      refine (HST.out).mono ?_
      rintro e w3 ⟨rfl, ⟨vs3, hd3, hn3⟩, ht3⟩
      have HL3 : Hid (LeftD base db vs (crashK d (k + 1)) w w3) := by
        rw [crashK_step HM3.out k hlt HKL.out] at hd3
        refine LeftD.trans HN1.out HT1.out ⟨vs3, hd3, ht3.imp (fun k _ hk => .inl hk), fun k hk => ?_⟩
        rcases hk with hk | ⟨v, hv, hk⟩
        · exact .inl (.inl hk)
        · exact .inl (.inr (hn3 v hv k hk))
      clear hd3 hn3 ht3 HST
      go_wp2_with fail
      go_roundw
      case rel => exact ⟨k + 1, by omega, by go_num, HL3.out⟩
      case measure => simp [intOf]; omega
    · have hd : decide ((k : Int) < 3) = false := decide_eq_false (by omega)
      have hd2 : decide (k < 3) = false := decide_eq_false (by omega)
      obtain rfl : k = 3 := by omega
      obtain ⟨hc0, hc1, hc2, hfz⟩ := HD1.out.cells
      have HL3 : Hid (LeftD base db vs (crash0 d) w ((wr.setCell ⟨db, 13, none⟩ (.int .i64 0)).setCell ⟨db, 14, none⟩ (.bool false))) := by
        have ht2 : Turns (fun k => k = db) wr ((wr.setCell ⟨db, 13, none⟩ (.int .i64 0)).setCell ⟨db, 14, none⟩ (.bool false)) := ((Turns.refl (fun k => k = db) wr).setCell (p := ⟨db, 13, none⟩) (fun _ => rfl) _).setCell (p := ⟨db, 14, none⟩) (fun _ => rfl) _
        obtain ⟨s1, _, _⟩ := dA_set HD1.out.n3 (crashK d 3).room (crashK d 3).fuse (crashK d 3).down
        obtain ⟨_, s2, _⟩ := dA_set HD1.out.n3 (crashK d 3).room 0 (crashK d 3).down
        have r2 := cell_put (off := 13) (.int .i64 0) HD1.out.row
        have s1' := s1 0
        rw [show ((0 : Nat) : Int) = (0 : Int) from rfl] at s1'
        rw [s1'] at r2
        have r3 := cell_put (off := 14) (.bool false) r2
        rw [s2 false] at r3
        have hd4 := HD1.out.reRow ht2 r3 (by omega)
        have he : (⟨(crashK d 3).fs, (crashK d 3).room, 0, false⟩ : DD) = crash0 d := by
          have := HM3.out
          obtain ⟨fs, room, fuse, down⟩ := d
          obtain ⟨a, b, c, rfl⟩ := list3 this
          rfl
        rw [he] at hd4
        exact LeftD.trans HN1.out HT1.out (LeftD.row HD1.out hd4 ht2)
      go_wp2_with fail
      go_end0
      exact ⟨rfl, HL3.out⟩
end Go.Proofs.Ytbkkcejpkfbcjaa.Dk

namespace Go.Proofs.Ytbkkcejpkfbcjaa.Dk
open Go.RowKit Go.Mir

set_option maxRecDepth 100000 in
set_option maxHeartbeats 1600000 in
theorem do_bad_lo {base db : Nat} {vs : List FV} {d : DD} (w : World) (h : DAt w base db vs d) (i : Nat) (hi : i < d.fs.length) (f : FD) (hf : d.fs[i] = f) (m : Int) (hm : m < 0) :
    Calls Try.prog 31 #[.pointer (some ⟨db, 0, none⟩), .int .i64 (i : Int), .iface 78 (.agg #[.int .i64 m])] w fun e w' => e = .returned (.int .i64 1) ∧ Below w.heap.size w w' := by
  have hv : i < vs.length := by have := h.n3; have := h.m3; omega
  have hi3 : i < 3 := by have := h.m3; omega
  have hF := h.each i _ _ (List.getElem?_eq_getElem hv) (List.getElem?_eq_getElem hi)
  rw [hf] at hF
  have hta := ta_cc (.agg #[.int .i64 m])
  have H := Lib.hid h
  have HFF := Lib.hid hF
  have HV := Lib.hid hv
  clear hF hf h
  go_enter Try.func31, Try.ntmps31
  go_wp2_with fail
  refine (at_in w H.out i hi3).mono ?_
  rintro e w' ⟨rfl, rfl⟩
  have hb := Below.allocs w (.cells #[.int .i64 m] 78)
  have HB := Lib.hid hb
  have HA := Lib.hid (H.out.below hb)
  have hcm : (w.alloc (.cells #[.int .i64 m] 78)).cell? ⟨w.heap.size, 0, none⟩ = some (.int .i64 m) := by rw [cell_of_row _ _ _ _ _ _ (heap_alloc_last _ _)]; rfl
  clear hb
  go_upto_region 3 with fail
  generalize w.alloc (.cells #[.int .i64 m] 78) = w1 at *
  go_wp2_with fail
  refine (none_any _ HA.out).mono ?_
  rintro e w' ⟨rfl, rfl⟩
  clear hta
  have hg2 := cell_grown hcm
  have hm0 : decide (m < 0) = true := decide_eq_true hm
  go_upto_region 5 with fail
  refine wp_region_grow (by kernel_rfl) (by kernel_rfl) ?_
  repeat (first
    | ((with_reducible refine wpQuietGd ?_); (with_reducible refine wpQuiet_skip ?_ ?_); (· rfl); simp only [Act.put, List.setIfInBounds_toArray, List.set_cons_zero, List.set_cons_succ])
    | quiet_step (fail))
  refine wpQuiet_nil ?_
  intro w2 hb2
  have HB2 := Lib.hid (HB.out.trans (hb2.mono HB.out.size))
  clear hb2
  go_wp2_with fail
  go_ret
  exact ⟨rfl, HB2.out⟩
set_option maxRecDepth 100000 in
set_option maxHeartbeats 1600000 in
theorem do_bad_hi {base db : Nat} {vs : List FV} {d : DD} (w : World) (h : DAt w base db vs d) (i : Nat) (hi : i < d.fs.length) (f : FD) (hf : d.fs[i] = f) (m : Int) (hm : (f.now.length : Int) < m) :
    Calls Try.prog 31 #[.pointer (some ⟨db, 0, none⟩), .int .i64 (i : Int), .iface 78 (.agg #[.int .i64 m])] w fun e w' => e = .returned (.int .i64 1) ∧ Below w.heap.size w w' := by
  have hv : i < vs.length := by have := h.n3; have := h.m3; omega
  have hi3 : i < 3 := by have := h.m3; omega
  have hF := h.each i _ _ (List.getElem?_eq_getElem hv) (List.getElem?_eq_getElem hi)
  rw [hf] at hF
  have hta := ta_cc (.agg #[.int .i64 m])
  have H := Lib.hid h
  have HFF := Lib.hid hF
  have HV := Lib.hid hv
  clear hF hf h
  go_enter Try.func31, Try.ntmps31
  go_wp2_with fail
  refine (at_in w H.out i hi3).mono ?_
  rintro e w' ⟨rfl, rfl⟩
  have hb := Below.allocs w (.cells #[.int .i64 m] 78)
  have HB := Lib.hid hb
  have HA := Lib.hid (H.out.below hb)
  have hcm : (w.alloc (.cells #[.int .i64 m] 78)).cell? ⟨w.heap.size, 0, none⟩ = some (.int .i64 m) := by rw [cell_of_row _ _ _ _ _ _ (heap_alloc_last _ _)]; rfl
  clear hb
  go_upto_region 3 with fail
  generalize w.alloc (.cells #[.int .i64 m] 78) = w1 at *
  go_wp2_with fail
  refine (none_any _ HA.out).mono ?_
  rintro e w' ⟨rfl, rfl⟩
  clear hta
  obtain ⟨pn, cn, hnv, hbn⟩ := HFF.out.now.bs
  have hc1 := (HA.out.file i HV.out).2.1
  rw [hnv] at hc1
  have hg1 := cell_grown hc1
  have hg2 := cell_grown hcm
  have hm0 : decide (m < 0) = false := decide_eq_false (by omega)
  have hm1 : decide ((f.now.length : Int) < m) = true := decide_eq_true hm
  clear hbn hnv
  go_upto_region 5 with fail
  refine wp_region_grow (by kernel_rfl) (by kernel_rfl) ?_
  repeat (first
    | ((with_reducible refine wpQuietGd ?_); (with_reducible refine wpQuiet_skip ?_ ?_); (· rfl); simp only [Act.put, List.setIfInBounds_toArray, List.set_cons_zero, List.set_cons_succ])
    | quiet_step (fail))
  refine wpQuiet_nil ?_
  intro w2 hb2
  have HB2 := Lib.hid (HB.out.trans (hb2.mono HB.out.size))
  clear hb2
  go_wp2_with fail
  go_ret
  exact ⟨rfl, HB2.out⟩
/-- a cut asked at whatever place -/
theorem cut_bad {base db : Nat} {vs : List FV} {d : DD} (w : World) (n m : Int) (hdo : Calls Try.prog 31 #[.pointer (some ⟨db, 0, none⟩), .int .i64 n, .iface 78 (.agg #[.int .i64 m])] w fun e w' => e = .returned (.int .i64 1) ∧ Below w.heap.size w w') (_h : DAt w base db vs d) :
    Calls Try.prog 15 #[.pointer (some ⟨db, 0, none⟩), .int .i64 n, .int .i64 m] w fun e w' => e = .returned (.int .i64 1) ∧ Below w.heap.size w w' := by
  have HDO := Lib.hid hdo
  clear hdo
  go_enter Try.func15, Try.ntmps15
  go_wp2_with ((with_reducible refine wpAt 10 ?_); refine wpList_build rfl 78 _ rfl [(0, .int .i64 m)] rfl _ (build_cut _) ?_)
  refine (HDO.out).mono ?_
  rintro e w2 ⟨rfl, hl⟩
  have HL := Lib.hid hl
  clear hl
  go_wp2_with fail
  go_ret
  exact ⟨rfl, HL.out⟩
set_option maxRecDepth 100000 in
theorem append_out {base db : Nat} {vs : List FV} {d : DD} (w : World) (h : DAt w base db vs d) (i : Int) (hi : i < 0 ∨ 3 ≤ i) (p : Option Addr) (n c : Nat) (b : List UInt8) (hb : Bs w p n c b) (hn : n ≤ 140737488355328) :
    Calls Try.prog 9 #[.pointer (some ⟨db, 0, none⟩), .int .i64 i, .slice p n c] w fun e w' => e = .returned (.int .i64 1) ∧ Below w.heap.size w w' := by
  have HBS := Lib.hid hb
  have hle := hb.le
  have hmax := hb.max
  have H := Lib.hid h
  have HI := Lib.hid hi
  clear hb h hi
  go_enter Try.func9, Try.ntmps9
  go_wp2_with (refine wpList_append_nx rfl _ _ 31 rfl (base := w.heap.size) Try.underlying31 info8 rfl (by omega) rfl (World.ownsRow_nil _ _ _ _) rfl HBS.out (bytesV_one _) ⟨by omega, by omega⟩ (Nat.le_refl _) ?_)
  intro p9 c9 w9 ho9 hg9 _ _
  have hb9 : Below w.heap.size w w9 := (Below.refl _ _).grown hg9 (Nat.le_refl _) (fun k hk => by simp [Value.ownBlock] at hk)
  have HB9 := Lib.hid hb9
  have HDO := Lib.hid (do_out w9 (H.out.below hb9) i HI.out (.iface 71 (.agg #[.slice p9 (0 + n) c9])) (.inl ⟨_, rfl⟩))
  rw [Nat.zero_add] at HDO
  clear ho9 hg9 hb9
  go_wp2_with ((with_reducible refine wpAt 11 ?_); refine wpList_build rfl 71 _ rfl [(0, .slice p9 n c9)] rfl _ (build_put _ _ _) ?_)
  refine (HDO.out).mono ?_
  rintro e w2 ⟨rfl, hl⟩
  have HL := Lib.hid (HB9.out.trans (hl.mono HB9.out.size))
  clear hl
  go_wp2_with fail
  go_ret
  exact ⟨rfl, HL.out⟩
set_option maxRecDepth 100000 in
theorem sync_out {base db : Nat} {vs : List FV} {d : DD} (w : World) (h : DAt w base db vs d) (i : Int) (hi : i < 0 ∨ 3 ≤ i) :
    Calls Try.prog 10 #[.pointer (some ⟨db, 0, none⟩), .int .i64 i] w fun e w' => e = .returned (.int .i64 1) ∧ w = w' := by
  have H := Lib.hid h
  have HI := Lib.hid hi
  clear h hi
  go_enter Try.func10, Try.ntmps10
  go_wp2_with fail
  refine (at_out w H.out i HI.out).mono ?_
  rintro e w' ⟨rfl, rfl⟩
  go_wp2_with fail
  refine (none_any w H.out).mono ?_
  rintro e w' ⟨rfl, rfl⟩
  go_wp2_with fail
  go_ret
  exact ⟨rfl, rfl⟩
set_option maxRecDepth 100000 in
/-- what a file keeps -/
theorem kept_in {base db : Nat} {vs : List FV} {d : DD} (w : World) (h : DAt w base db vs d) (i : Nat) (hi : i < d.fs.length) :
    Calls Try.prog 22 #[.pointer (some ⟨db, 0, none⟩), .int .i64 (i : Int)] w (RdP w.heap.size d.fs[i].kept w) := by
  have hv : i < vs.length := by have := h.n3; have := h.m3; omega
  have hi3 : i < 3 := by have := h.m3; omega
  have H := Lib.hid h
  have hc := (h.file i hv).1
  have hF := h.each i _ _ (List.getElem?_eq_getElem hv) (List.getElem?_eq_getElem hi)
  have hle := usedL_mem hi
  have hused := h.used
  have hroom1 := h.room1
  have hnl : d.fs[i].kept.length ≤ 65536 := by
    have := hF.ok.all 0
    rw [someU_zero] at this
    omega
  obtain ⟨pn, cn, hnv, hbn⟩ := hF.kept.bs
  rw [hnv] at hc
  generalize d.fs[i].kept = l at *
  have HBN := Lib.hid hbn
  have hl1 := hbn.le
  have hl2 := hbn.max
  clear hbn hF hnv h hle hused
  go_enter Try.func22, Try.ntmps22
  go_wp2_with fail
  refine (at_in w H.out i hi3).mono ?_
  rintro e w' ⟨rfl, rfl⟩
  go_wp2_with (refine wpList_append_nx rfl _ _ 31 rfl (base := w.heap.size) Try.underlying31 info8 rfl (by omega) rfl (World.ownsRow_nil _ _ _ _) rfl HBN.out (bytesV_one _) ⟨by omega, by omega⟩ (Nat.le_refl _) ?_)
  intro p9 c9 w9 ho9 hg9 _ _
  have HB9 : Hid (Below w.heap.size w w9) := (Below.refl _ _).grown hg9 (Nat.le_refl _) (fun k hk => by simp [Value.ownBlock] at hk)
  have HR9 : Hid (Rd w9 w.heap.size (.slice p9 l.length c9) l) := Rd.of_own ho9
  clear ho9 hg9
  go_wp2_with fail
  go_ret
  exact ⟨p9, c9, rfl, HR9.out, HB9.out⟩
set_option maxRecDepth 100000 in
/-- how long a file is -/
theorem size_in {base db : Nat} {vs : List FV} {d : DD} (w : World) (h : DAt w base db vs d) (i : Nat) (hi : i < d.fs.length) :
    Calls Try.prog 25 #[.pointer (some ⟨db, 0, none⟩), .int .i64 (i : Int)] w fun e w' => e = .returned (.int .i64 (d.fs[i].now.length : Int)) ∧ Below w.heap.size w w' := by
  have HR := Lib.hid (read_in w h i hi)
  clear h
  go_enter Try.func25, Try.ntmps25
  go_wp2_with fail
  refine (HR.out).mono ?_
  rintro e w2 ⟨p, c, rfl, _, hb⟩
  have HB := Lib.hid hb
  clear hb HR
  go_wp2_with fail
  go_ret
  exact ⟨rfl, HB.out⟩
set_option maxRecDepth 100000 in
/-- how many units wait -/
theorem units_in {base db : Nat} {vs : List FV} {d : DD} (w : World) (h : DAt w base db vs d) (i : Nat) (hi : i < d.fs.length) :
    Calls Try.prog 23 #[.pointer (some ⟨db, 0, none⟩), .int .i64 (i : Int)] w fun e w' => e = .returned (.int .i64 (unitsAll d.fs[i].steps : Int)) ∧ Below w.heap.size w w' := by
  have hi3 : i < 3 := by have := h.m3; omega
  have H := Lib.hid h
  have HU := Lib.hid (fileUnits_any w h i hi)
  clear h
  go_enter Try.func23, Try.ntmps23
  go_wp2_with fail
  refine (at_in w H.out i hi3).mono ?_
  rintro e w' ⟨rfl, rfl⟩
  go_wp2_with fail
  refine (HU.out).mono ?_
  rintro e w2 ⟨rfl, hb⟩
  have HB := Lib.hid hb
  clear hb HU
  go_wp2_with fail
  go_ret
  exact ⟨rfl, HB.out⟩
end Go.Proofs.Ytbkkcejpkfbcjaa.Dk

namespace Go.Proofs.Ytbkkcejpkfbcjaa.Dk
open Go.RowKit Go.Mir Go.Mir.Parts

theorem infoDisk (n : Nat) (h : n = 15) : (Try.prog.info? 54).map (·.size) = some n := by subst h; kernel_rfl
/-- a disk that no call made -/
def zDisk : Array Value := #[.slice none 0 0, .slice none 0 0, .slice none 0 0, .int .i64 0, .slice none 0 0, .slice none 0 0, .slice none 0 0, .int .i64 0, .slice none 0 0, .slice none 0 0, .slice none 0 0, .int .i64 0, .int .i64 0, .int .i64 0, .bool false]
theorem dA_fit {w : World} {base db : Nat} {vs : List FV} {d : DD} (h : DAt w base db vs d) : (dA vs d.room d.fuse d.down).size = 15 ∧ (dA vs d.room d.fuse d.down).all (·.oneCell') = true := by
  have hl : ∀ v ∈ vs, v.kv.oneCell' = true ∧ v.nv.oneCell' = true ∧ v.sv.oneCell' = true := fun v hv => by
    obtain ⟨i, hi⟩ := List.mem_iff_getElem?.1 hv
    have hlt : i < d.fs.length := by rw [h.m3, ← h.n3]; exact (List.getElem?_eq_some_iff.1 hi).1
    have hF := h.each i v _ hi (List.getElem?_eq_getElem hlt)
    obtain ⟨vals, ho, _⟩ := hF.steps
    obtain ⟨_, _, e1, _⟩ := hF.kept.bs
    obtain ⟨_, _, e2, _⟩ := hF.now.bs
    obtain ⟨_, _, e3, _⟩ := own_sl ho
    rw [e1, e2, e3]
    exact ⟨rfl, rfl, rfl⟩
  obtain ⟨a, b, c, rfl⟩ := list3 h.n3
  obtain ⟨a1, a2, a3⟩ := hl a (by simp)
  obtain ⟨b1, b2, b3⟩ := hl b (by simp)
  obtain ⟨c1, c2, c3⟩ := hl c (by simp)
  refine ⟨rfl, ?_⟩
  show (([a, b, c].flatMap fvL ++ _ : List Value).toArray).all _ = true
  simp [fvL, a1, a2, a3, b1, b2, b3, c1, c2, c3]
  exact ⟨rfl, rfl, rfl, rfl, rfl, rfl⟩
theorem Mid.no8 {w wr : World} {base db : Nat} {vs : List FV} {d : DD} {i : Nat} {v : FV} (h : Mid w wr base db vs d i v) : ∀ k M fr, wr.heap[k]? = some (.cells M 5 fr) → ¬ k = db := fun k M fr hk e => by
  subst e
  rw [h.row] at hk
  injection hk with e1
  injection e1 with _ e2
  exact absurd e2 (by decide)
/-- a file's row put anew -/
theorem clone_end {w w' : World} {base nb : Nat} {vs : List FV} {d : DD} {i : Nat} {f : FD} {v' : FV} {vals : List Value} (h : DAt w base nb vs d) (hi : i < d.fs.length) (hv : i < vs.length) (hf : d.fs[i] = f) (hm : Mid w w' base nb vs d i v')
    (hk : Rd w' base v'.kv f.kept) (hn : Rd w' base v'.nv f.now) (ho : w'.ownsRow base 83 1 v'.sv f.steps.length vals) (hvals : ∀ (i : Nat) x s, vals[i]? = some x → f.steps[i]? = some s → StAt w base x s) (hnd : v'.nd = f.need)
    (hfr : ∀ k, v'.sv.ownBlock = some k → w.heap.size ≤ k) : DAt w' base nb (vs.set i v') d := by
  have hid : ∀ k M fr, w.heap[k]? = some (.cells M 5 fr) → ¬ k = nb := fun k M fr hk e => by
    subst e
    rw [h.row] at hk
    injection hk with e1
    injection e1 with _ e2
    exact absurd e2 (by decide)
  refine ⟨hm.row, h.low, by rw [List.length_set]; exact h.n3, h.m3, ?_, ?_, h.room1, h.fuse1, h.used, h.few⟩
  · intro j v g h1 h2
    rw [List.getElem?_set] at h1
    by_cases hij : i = j
    · subst hij
      rw [if_pos rfl, if_pos hv] at h1
      rw [List.getElem?_eq_getElem hi, hf] at h2
      cases h1; cases h2
      have hF := h.each i _ _ (List.getElem?_eq_getElem hv) (List.getElem?_eq_getElem hi)
      rw [hf] at hF
      exact ⟨hk, hn, ⟨vals, ho, fun j x s hx hs => (hvals j x s hx hs).touch hm.turn hid⟩, hnd, hF.ok⟩
    · rw [if_neg hij] at h1
      obtain ⟨vals', ho', _⟩ := (h.each j v g h1 h2).steps
      exact (h.each j v g h1 h2).touch hm.turn hid (fun k hk => own_ne_cells' ho' h.row (by decide) k hk)
  · intro j j' v v2 k h1 h2 h3 h4
    have key : ∀ (a : Nat) (va : FV), vs[a]? = some va → va.sv.ownBlock = some k → ¬ v'.sv.ownBlock = some k := fun a va hva hk hk2 => by
      have h5 := hfr k hk2
      have h6 := (h.ownLt k (.inr ⟨va, List.mem_of_getElem? hva, hk⟩)).2
      omega
    rw [List.getElem?_set] at h1 h2
    by_cases hij : i = j
    · subst hij
      rw [if_pos rfl, if_pos hv] at h1
      cases h1
      by_cases hij' : i = j'
      · exact hij'
      · rw [if_neg hij'] at h2
        exact absurd h3 (key j' v2 h2 h4)
    · rw [if_neg hij] at h1
      by_cases hij' : i = j'
      · subst hij'
        rw [if_pos rfl, if_pos hv] at h2
        cases h2
        exact absurd h4 (key j v h1 h3)
      · rw [if_neg hij'] at h2
        exact h.apart j j' v v2 k h1 h2 h3 h4
def CloneI (base nb B : Nat) (vs : List FV) (d : DD) (w : World) (k : Nat) (wr : World) : Prop :=
  ∃ vsr, DAt wr base nb vsr d ∧ Below B w wr ∧ ∀ (j : Nat) v, vsr[j]? = some v → (j < k → ∀ b, v.sv.ownBlock = some b → B ≤ b) ∧ (k ≤ j → vs[j]? = some v)
def CloneP (base : Nat) (d : DD) (w : World) (e : Ending) (w' : World) : Prop := ∃ nb vs', e = .returned (.pointer (some ⟨nb, 0, none⟩)) ∧ DAt w' base nb vs' d ∧ Below w.heap.size w w' ∧ ∀ k, DOwn nb vs' k → w.heap.size ≤ k
theorem CloneI.done {base nb : Nat} {vs : List FV} {d : DD} {w wr : World} (h : CloneI base nb w.heap.size vs d w 3 wr) (hnb : w.heap.size ≤ nb) : CloneP base d w (.returned (.pointer (some ⟨nb, 0, none⟩))) wr := by
  obtain ⟨vsr, hd, hb, hf⟩ := h
  refine ⟨nb, vsr, rfl, hd, hb, fun k hk => ?_⟩
  rcases hk with rfl | ⟨v, hv, hk⟩
  · exact hnb
  · obtain ⟨i, hi⟩ := List.mem_iff_getElem?.1 hv
    have hlt : i < 3 := by rw [← hd.n3]; exact (List.getElem?_eq_some_iff.1 hi).1
    exact (hf i v hi).1 hlt k hk
theorem CloneI.step {base nb B : Nat} {vs vsr : List FV} {d : DD} {w wr w' : World} {k : Nat} {v' : FV} (hd : DAt w' base nb (vsr.set k v') d) (hb : Below B w wr) (ht : Turns (fun k => k = nb) wr w') (hnb : B ≤ nb) (hB : B ≤ wr.heap.size)
    (hf : ∀ (j : Nat) v, vsr[j]? = some v → (j < k → ∀ b, v.sv.ownBlock = some b → B ≤ b) ∧ (k ≤ j → vs[j]? = some v)) (hk : k < vsr.length) (hfr : ∀ b, v'.sv.ownBlock = some b → wr.heap.size ≤ b) : CloneI base nb B vs d w (k + 1) w' := by
  refine ⟨_, hd, hb.trans (ht.below hB (fun i hi => by rw [hi]; exact hnb)), fun j v hj => ?_⟩
  rw [List.getElem?_set] at hj
  by_cases hkj : k = j
  · subst hkj
    rw [if_pos rfl, if_pos hk] at hj
    cases hj
    exact ⟨fun _ b hb => Nat.le_trans hB (hfr b hb), fun h => by omega⟩
  · rw [if_neg hkj] at hj
    exact ⟨fun h => (hf j v hj).1 (by omega), fun h => (hf j v hj).2 (by omega)⟩
set_option maxRecDepth 100000 in
set_option maxHeartbeats 3200000 in
theorem clone_any {base db : Nat} {vs : List FV} {d : DD} (w : World) (h : DAt w base db vs d) (hbase : base ≤ w.heap.size) :
    Calls Try.prog 20 #[.pointer (some ⟨db, 0, none⟩)] w (CloneP base d w) := by
  have H := Lib.hid h
  have HBASE := Lib.hid hbase
  obtain ⟨M, hM⟩ : ∃ M, M = dA vs d.room d.fuse d.down := ⟨_, rfl⟩
  obtain ⟨hs, ho⟩ := dA_fit h
  have hr := h.row
  rw [← hM] at hs ho hr
  have HME := Lib.hid hM
  have HMS := Lib.hid hs
  have HMO := Lib.hid ho
  have HR := Lib.hid hr
  have HR0 := Lib.hid (heap_alloc_last w (.cells zDisk 54))
  have HB0 := Lib.hid (Below.allocs w (.cells zDisk 54))
  clear hM hs ho hr h hbase
  go_enter Try.func20, Try.ntmps20
  go_wp2_with fail
  refine (none_any w H.out).mono ?_
  rintro e w' ⟨rfl, rfl⟩
  go_wp2_with (first
    | ((with_reducible refine wpAt 10 ?_); refine wpList_load_row rfl 54 _ rfl db rfl 54 M (0, 0) _ HR.out Try.underlying54 rfl (infoDisk _ HMS.out) ?_)
    | ((with_reducible refine wpStoreAt 3 ?_); refine wpList_store_row rfl 54 _ _ rfl w.heap.size M rfl rfl 54 zDisk HR0.out (infoDisk _ HMS.out) HMS.out.symm HMO.out ?_))
  have hrs := setRow_heap _ _ _ M _ _ HR0.out
  have hbf := below_setRow HB0.out (Nat.le_refl _) M
  have HI0 : Hid (CloneI base w.heap.size w.heap.size vs d w 0 ((w.alloc (.cells zDisk 54)).setRow w.heap.size M)) := by
    refine ⟨vs, ⟨?_, HBASE.out, H.out.n3, H.out.m3, fun i v f h1 h2 => (H.out.each i v f h1 h2).below hbf, H.out.apart, H.out.room1, H.out.fuse1, H.out.used, H.out.few⟩, hbf, fun j v hj => ⟨fun h => by omega, fun _ => hj⟩⟩
    rw [hrs, HME.out]
  simp only [show (#[Value.slice none 0 0, .slice none 0 0, .slice none 0 0, .int .i64 0, .slice none 0 0, .slice none 0 0, .slice none 0 0, .int .i64 0, .slice none 0 0, .slice none 0 0, .slice none 0 0, .int .i64 0, .int .i64 0, .int .i64 0, .bool false] : Array Value) = zDisk from rfl]
  clear hrs hbf
  generalize (w.alloc (.cells zDisk 54)).setRow w.heap.size M = w1 at *
  go_wp2_with fail
  go_loopw [11] (fun j wr => ∃ k : Nat, k ≤ 3 ∧ j = .int .i64 k ∧ CloneI base w.heap.size w.heap.size vs d w k wr) (fun j _ => 3 - (intOf j).toNat)
  case atStart => exact ⟨0, by omega, rfl, HI0.out⟩
  case round =>
    obtain ⟨k, hk, rfl, hci⟩ := hrel
    have HCI := Lib.hid hci
    clear hci
    by_cases hlt : k < 3
    · have hd : decide ((k : Int) < 3) = true := decide_eq_true (by omega)
      have hd2 : decide (k < 3) = true := decide_eq_true (by omega)
      have hk1 : (k : Int) < 3 := by omega
      have hk0 : (0 : Int) ≤ (k : Int) := by omega
      have e0 : decide ((k : Int) < 0) = false := decide_eq_false (by omega)
      obtain ⟨vsr, hdr, hbr, hfr⟩ := HCI.out
      have HDR := Lib.hid hdr
      have HBR := Lib.hid hbr
      have HFR := Lib.hid hfr
      have HLV : Hid (k < vsr.length) := by show _ < _; rw [hdr.n3]; exact hlt
      have HLF : Hid (k < d.fs.length) := by show _ < _; rw [hdr.m3]; exact hlt
      have hF := hdr.each k _ _ (List.getElem?_eq_getElem HLV.out) (List.getElem?_eq_getElem HLF.out)
      have HM0 : Hid (Mid wr wr base w.heap.size vsr d k (vsr[k]'HLV.out)) := ⟨by rw [List.set_getElem_self]; exact hdr.row, Turns.refl _ _⟩
      obtain ⟨v0, hv0⟩ : ∃ v0, v0 = vsr[k]'HLV.out := ⟨_, rfl⟩
      obtain ⟨f, hfe⟩ : ∃ f, f = d.fs[k]'HLF.out := ⟨_, rfl⟩
      have HFE : Hid (∀ hh : k < d.fs.length, d.fs[k]'hh = f) := fun _ => hfe.symm
      rw [← hv0] at hF HM0
      rw [← hfe] at hF
      have HF := Lib.hid hF
      have hle : f.need ≤ 65536 := by
        have h1 := usedL_mem HLF.out
        rw [← hfe] at h1
        have h2 := hdr.used
        have h3 := hdr.room1
        omega
      have HNL : Hid (f.now.length ≤ 65536) := Nat.le_trans hF.ok.le hle
      have HKL : Hid (f.kept.length ≤ 65536) := by
        have := hF.ok.all 0
        rw [someU_zero] at this
        show _ ≤ _
        omega
      have HSL : Hid (f.steps.length ≤ 4398046511104) := by
        show _ ≤ _
        rw [hfe]
        exact hdr.few _ (List.getElem_mem HLF.out)
      clear hdr hbr hfr hF hv0 hfe hle HCI
      have hc0 := (HM0.out.cells HDR.out.n3 HLV.out).1
      obtain ⟨pk, ck, hkv, hbk⟩ := HF.out.kept.bs
      rw [hkv] at hc0
      have HBK := Lib.hid hbk
      have hk2 := hbk.le
      have hk3 := hbk.max
      have hk4 := HKL.out
      clear hkv hbk
      go_wp2_with (refine wpList_append_nx rfl _ _ 31 rfl (base := wr.heap.size) Try.underlying31 info8 rfl (by omega) rfl (World.ownsRow_nil _ _ _ _) rfl HBK.out (bytesV_one _) ⟨by omega, by omega⟩ (Nat.le_refl _) ?_)
      intro p9 c9 w9 ho9 hg9 _ _
      have hb9 : Below wr.heap.size wr w9 := (Below.refl _ _).grown hg9 (Nat.le_refl _) (fun k hk => by simp [Value.ownBlock] at hk)
      have HR9 : Hid (Rd w9 wr.heap.size (.slice p9 f.kept.length c9) f.kept) := Rd.of_own ho9
      have HM9 := Lib.hid (HM0.out.below hb9)
      obtain ⟨g0, g1, g2, g3, hfz9⟩ := HM9.out.cells HDR.out.n3 HLV.out
      try simp only at g0 g1 g2 g3
      have HM10 := Lib.hid ((HM9.out.put HDR.out.n3 HLV.out).1 (.slice p9 f.kept.length c9))
      have HK10 := Lib.hid (HR9.out.touch ((Turns.refl (fun k => k = w.heap.size) w9).setCell (p := ⟨w.heap.size, k * 4, none⟩) (fun _ => rfl) (.slice p9 f.kept.length c9)) HM9.out.no8)
      clear ho9 hg9 hb9 hc0
      go_upto_region 9 with fail
      generalize w9.setCell ⟨w.heap.size, k * 4, none⟩ (.slice p9 f.kept.length c9) = w10 at *
      clear g0 g1 g2 g3 hfz9 HM9 HR9 HBK hk2 hk3 hk4 HM0
      try clear w9
      have hc1 := (HM10.out.cells HDR.out.n3 HLV.out).2.1
      obtain ⟨pn, cn, hnv, hbn⟩ := (Rd.turn HDR.out HF.out.now HM10.out.turn).bs
      replace hc1 : w10.cell? ⟨w.heap.size, k * 4 + 1, none⟩ = some v0.nv := hc1
      rw [hnv] at hc1
      have HBN := Lib.hid hbn
      have hk2 := hbn.le
      have hk3 := hbn.max
      have hk4 := HNL.out
      clear hnv hbn
      go_wp2_with (refine wpList_append_nx rfl _ _ 31 rfl (base := w10.heap.size) Try.underlying31 info8 rfl (by omega) rfl (World.ownsRow_nil _ _ _ _) rfl HBN.out (bytesV_one _) ⟨by omega, by omega⟩ (Nat.le_refl _) ?_)
      intro p8 c8 w9 ho9 hg9 _ _
      have hb9 : Below w10.heap.size w10 w9 := (Below.refl _ _).grown hg9 (Nat.le_refl _) (fun k hk => by simp [Value.ownBlock] at hk)
      have HR9 : Hid (Rd w9 w10.heap.size (.slice p8 f.now.length c8) f.now) := Rd.of_own ho9
      have HM9 := Lib.hid (HM10.out.below hb9)
      have HK9 := Lib.hid (HK10.out.below hb9)
      obtain ⟨g0, g1, g2, g3, hfz9⟩ := HM9.out.cells HDR.out.n3 HLV.out
      try simp only at g0 g1 g2 g3
      have HM11 := Lib.hid ((HM9.out.put HDR.out.n3 HLV.out).2.1 (.slice p8 f.now.length c8))
      have ht9 := (Turns.refl (fun k => k = w.heap.size) w9).setCell (p := ⟨w.heap.size, k * 4 + 1, none⟩) (fun _ => rfl) (.slice p8 f.now.length c8)
      have HN11 := Lib.hid (HR9.out.touch ht9 HM9.out.no8)
      have HK11 := Lib.hid (HK9.out.touch ht9 HM9.out.no8)
      have HZ : Hid (w10.heap.size ≤ w9.heap.size) := hb9.size
      clear ho9 hg9 hb9 hc1 ht9
      go_upto_region 10 with fail
      have HZW : Hid (wr.heap.size ≤ w10.heap.size) := HM10.out.turn.size
      generalize w9.setCell ⟨w.heap.size, k * 4 + 1, none⟩ (.slice p8 f.now.length c8) = w11 at *
      clear g0 g1 g2 g3 hfz9 HM9 HR9 HK9 HBN hk2 hk3 hk4 HK10 HZ
      obtain ⟨vals, hst, hvs⟩ := HF.out.steps
      have HVS := Lib.hid hvs
      have hst11 := own_touch hst HM11.out.turn (own_ne_cells' hst HDR.out.row (by decide))
      obtain ⟨ps, cs, hsv, hsl⟩ := own_sl hst11
      have hvl : vals.length = f.steps.length := by have := hst.1; omega
      have HONE : Hid (∀ u ∈ vals, u.oneCell' = true) := fun u hu => by
        obtain ⟨j, hj⟩ := List.mem_iff_getElem?.1 hu
        have hlt : j < f.steps.length := by rw [← hvl]; exact (List.getElem?_eq_some_iff.1 hj).1
        exact (hvs j u _ hj (List.getElem?_eq_getElem hlt)).one
      have hc2 := (HM11.out.cells HDR.out.n3 HLV.out).2.2.1
      replace hc2 : w11.cell? ⟨w.heap.size, k * 4 + 2, none⟩ = some v0.sv := hc2
      rw [hsv] at hc2
      have HSLL := Lib.hid hsl
      have hk2 := hsl.le
      have hk3 := hsl.max
      have hk4 := HSL.out
      have HBA : Hid (base ≤ w11.heap.size) := Nat.le_trans HBASE.out (Nat.le_trans HBR.out.size HM11.out.turn.size)
      clear hvs hst hst11 hsv hsl hvl
      go_wp2_with (refine wpList_append_nx rfl _ _ 49 rfl (base := base) Try.underlying49 infoStep rfl (by omega) rfl (World.ownsRow_nil _ _ _ _) rfl HSLL.out HONE.out ⟨by omega, by omega⟩ HBA.out ?_)
      intro p7 c7 w9 ho9 hg9 hn9 _
      have hb9 : Below w11.heap.size w11 w9 := (Below.refl _ _).grown hg9 (Nat.le_refl _) (fun k hk => by simp [Value.ownBlock] at hk)
      have HM9 := Lib.hid (HM11.out.below hb9)
      have HK9 := Lib.hid (HK11.out.below hb9)
      have HN9 := Lib.hid (HN11.out.below hb9)
      obtain ⟨g0, g1, g2, g3, hfz9⟩ := HM9.out.cells HDR.out.n3 HLV.out
      try simp only at g0 g1 g2 g3
      have HM12 := Lib.hid ((HM9.out.put HDR.out.n3 HLV.out).2.2.1 (.slice p7 f.steps.length c7))
      have ht9 := (Turns.refl (fun k => k = w.heap.size) w9).setCell (p := ⟨w.heap.size, k * 4 + 2, none⟩) (fun _ => rfl) (.slice p7 f.steps.length c7)
      have HN12 := Lib.hid (HN9.out.touch ht9 HM9.out.no8)
      have HK12 := Lib.hid (HK9.out.touch ht9 HM9.out.no8)
      have HS12 : Hid ((w9.setCell ⟨w.heap.size, k * 4 + 2, none⟩ (.slice p7 f.steps.length c7)).ownsRow base 83 1 (.slice p7 f.steps.length c7) f.steps.length vals) := own_touch ho9 ht9 (own_ne_cells' ho9 HM9.out.row (by decide))
      have HFS : Hid (∀ b, (Value.slice p7 f.steps.length c7).ownBlock = some b → wr.heap.size ≤ b) := fun b hb => by
        rcases hn9 b hb with h | h
        · simp [Value.ownBlock] at h
        · rw [h]; exact HM11.out.turn.size
      clear ho9 hg9 hb9 hc2 ht9 hn9
      go_upto_region 11 with fail
      generalize w9.setCell ⟨w.heap.size, k * 4 + 2, none⟩ (.slice p7 f.steps.length c7) = w12 at *
      have HBW : Hid (base ≤ wr.heap.size) := Nat.le_trans HBASE.out HBR.out.size
      have hdn := clone_end HDR.out HLF.out HLV.out (HFE.out _) HM12.out (HK12.out.base HBW.out) (HN12.out.base (Nat.le_trans HBW.out HZW.out)) HS12.out HVS.out HF.out.need HFS.out
      have HNX := Lib.hid (CloneI.step (vs := vs) (w := w) hdn HBR.out HM12.out.turn (Nat.le_refl _) HBR.out.size HFR.out HLV.out HFS.out)
      clear hdn
      go_wp2_with fail
      go_roundw
      case rel => exact ⟨k + 1, by omega, by go_num, HNX.out⟩
      case measure => simp [intOf]; omega
    · have hd : decide ((k : Int) < 3) = false := decide_eq_false (by omega)
      have hd2 : decide (k < 3) = false := decide_eq_false (by omega)
      obtain rfl : k = 3 := by omega
      have HFIN := Lib.hid (HCI.out.done (Nat.le_refl _))
      go_wp2_with fail
      go_ret
      exact HFIN.out
end Go.Proofs.Ytbkkcejpkfbcjaa.Dk

namespace Go.Proofs.Ytbkkcejpkfbcjaa.Dk
open Go.RowKit Go.Mir Go.Mir.Parts

/-- bytes put at whatever file -/
def putD (d : DD) (i : Int) (b : List UInt8) : DD := if 0 ≤ i then (match d.fs[i.toNat]? with | some f => doD d i.toNat f (.put b) | none => d) else d
/-- a cut at whatever file, to whatever size -/
def cutD (d : DD) (i m : Int) : DD := if 0 ≤ i then (match d.fs[i.toNat]? with | some f => if 0 ≤ m ∧ m ≤ (f.now.length : Int) then doD d i.toNat f (.cut m.toNat) else d | none => d) else d
/-- a sync at whatever file -/
def synD (d : DD) (i : Int) : DD := if 0 ≤ i then (match d.fs[i.toNat]? with | some f => syncD d i.toNat f | none => d) else d
theorem LeftD.same {w w' : World} {base db : Nat} {vs : List FV} {d : DD} (h : DAt w base db vs d) (hb : Below w.heap.size w w') : LeftD base db vs d w w' := ⟨vs, h.below hb, Turns.of_below hb, fun _ hk => .inl hk⟩
/-- a file of a disk's by its number -/
theorem file_cases {w : World} {base db : Nat} {vs : List FV} {d : DD} (h : DAt w base db vs d) (i : Int) :
    (∃ k : Nat, ∃ hk : k < d.fs.length, i = (k : Int) ∧ 0 ≤ i ∧ d.fs[i.toNat]? = some (d.fs[k]'hk) ∧ i.toNat = k) ∨ ((i < 0 ∨ 3 ≤ i) ∧ (¬ 0 ≤ i ∨ (0 ≤ i ∧ d.fs[i.toNat]? = none))) := by
  have h3 := h.m3
  by_cases h0 : 0 ≤ i
  · by_cases h1 : i < 3
    · have hk : i.toNat < d.fs.length := by omega
      exact .inl ⟨i.toNat, hk, by omega, h0, List.getElem?_eq_getElem hk, rfl⟩
    · exact .inr ⟨.inr (by omega), .inr ⟨h0, List.getElem?_eq_none (by omega)⟩⟩
  · exact .inr ⟨.inl (by omega), .inl h0⟩
def Said (base db : Nat) (vs : List FV) (d' : DD) (w : World) (e : Ending) (w' : World) : Prop := (∃ x, e = .returned (.int .i64 x)) ∧ LeftD base db vs d' w w'
theorem append_all {base db : Nat} {vs : List FV} {d : DD} (w : World) (h : DAt w base db vs d) (hbase : base ≤ w.heap.size) (i : Int) (p : Option Addr) (n c : Nat) (b : List UInt8) (hb : Bs w p n c b) (hn : n ≤ 140737488355328) (hfew : ∀ f ∈ d.fs, f.steps.length + 1 ≤ 4398046511104) :
    Calls Try.prog 9 #[.pointer (some ⟨db, 0, none⟩), .int .i64 i, .slice p n c] w (Said base db vs (putD d i b) w) := by
  rcases file_cases h i with ⟨k, hk, rfl, h0, hf, hki⟩ | ⟨ho, hr⟩
  · have e1 : putD d (k : Int) b = doD d k d.fs[k] (.put b) := by unfold putD; rw [if_pos h0, hf, hki]
    rw [e1]
    exact (append_in w h hbase k hk _ rfl p n c b hb hn (hfew _ (List.getElem_mem hk))).mono fun e w' ⟨h1, h2⟩ => ⟨⟨_, h1⟩, h2⟩
  · have e1 : putD d i b = d := by
      unfold putD
      rcases hr with hr | ⟨h0, hr⟩
      · rw [if_neg hr]
      · rw [if_pos h0, hr]
    rw [e1]
    exact (append_out w h i ho p n c b hb hn).mono fun e w' ⟨h1, h2⟩ => ⟨⟨_, h1⟩, LeftD.same h h2⟩
theorem cut_all {base db : Nat} {vs : List FV} {d : DD} (w : World) (h : DAt w base db vs d) (hbase : base ≤ w.heap.size) (i m : Int) (hfew : ∀ f ∈ d.fs, f.steps.length + 1 ≤ 4398046511104) :
    Calls Try.prog 15 #[.pointer (some ⟨db, 0, none⟩), .int .i64 i, .int .i64 m] w (Said base db vs (cutD d i m) w) := by
  rcases file_cases h i with ⟨k, hk, rfl, h0, hf, hki⟩ | ⟨ho, hr⟩
  · have e1 : cutD d (k : Int) m = if 0 ≤ m ∧ m ≤ ((d.fs[k]).now.length : Int) then doD d k d.fs[k] (.cut m.toNat) else d := by unfold cutD; rw [if_pos h0, hf, hki]
    rw [e1]
    by_cases hm : 0 ≤ m ∧ m ≤ ((d.fs[k]).now.length : Int)
    · rw [if_pos hm]
      have hmm : ((m.toNat : Nat) : Int) = m := by omega
      have := cut_in w h hbase k hk _ rfl m.toNat (by omega) (hfew _ (List.getElem_mem hk))
      rw [hmm] at this
      exact this.mono fun e w' ⟨h1, h2⟩ => ⟨⟨_, h1⟩, h2⟩
    · rw [if_neg hm]
      have hb : Calls Try.prog 31 #[.pointer (some ⟨db, 0, none⟩), .int .i64 (k : Int), .iface 78 (.agg #[.int .i64 m])] w fun e w' => e = .returned (.int .i64 1) ∧ Below w.heap.size w w' := by
        by_cases hl : m < 0
        · exact do_bad_lo w h k hk _ rfl m hl
        · exact do_bad_hi w h k hk _ rfl m (by omega)
      exact (cut_bad w _ m hb h).mono fun e w' ⟨h1, h2⟩ => ⟨⟨_, h1⟩, LeftD.same h h2⟩
  · have e1 : cutD d i m = d := by
      unfold cutD
      rcases hr with hr | ⟨h0, hr⟩
      · rw [if_neg hr]
      · rw [if_pos h0, hr]
    rw [e1]
    exact (cut_bad w i m (do_out w h i ho _ (.inr ⟨m, rfl⟩)) h).mono fun e w' ⟨h1, h2⟩ => ⟨⟨_, h1⟩, LeftD.same h h2⟩
theorem sync_all {base db : Nat} {vs : List FV} {d : DD} (w : World) (h : DAt w base db vs d) (hbase : base ≤ w.heap.size) (i : Int) :
    Calls Try.prog 10 #[.pointer (some ⟨db, 0, none⟩), .int .i64 i] w (Said base db vs (synD d i) w) := by
  rcases file_cases h i with ⟨k, hk, rfl, h0, hf, hki⟩ | ⟨ho, hr⟩
  · have e1 : synD d (k : Int) = syncD d k d.fs[k] := by unfold synD; rw [if_pos h0, hf, hki]
    rw [e1]
    exact (sync_in w h hbase k hk _ rfl).mono fun e w' ⟨h1, h2⟩ => ⟨⟨_, h1⟩, h2⟩
  · have e1 : synD d i = d := by
      unfold synD
      rcases hr with hr | ⟨h0, hr⟩
      · rw [if_neg hr]
      · rw [if_pos h0, hr]
    rw [e1]
    exact (sync_out w h i ho).mono fun e w' ⟨h1, h2⟩ => ⟨⟨_, h1⟩, h2 ▸ LeftD.same h (Below.refl _ _)⟩
end Go.Proofs.Ytbkkcejpkfbcjaa.Dk
