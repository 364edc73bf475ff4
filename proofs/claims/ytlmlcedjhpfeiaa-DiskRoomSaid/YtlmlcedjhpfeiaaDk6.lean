/- THE WALKS OF A DISK: a step taken. Conditions: none. -/
import Derived.Test.YtlmlcedjhpfeiaaDk5
namespace Go.Proofs.Ytlmlcedjhpfeiaa.Dk
open Go.RowKit Go.Mir

/-- a disk's own blocks -/
def DOwn (db : Nat) (vs : List FV) (k : Nat) : Prop := k = db ∨ ∃ v ∈ vs, v.sv.ownBlock = some k
theorem DAt.no8 {w : World} {base db : Nat} {vs : List FV} {d : DD} (h : DAt w base db vs d) : ∀ k M fr, w.heap[k]? = some (.cells M 5 fr) → ¬ DOwn db vs k := by
  intro k M fr hk hs
  rcases hs with rfl | ⟨v, hv, hs⟩
  · rw [h.row] at hk
    injection hk with e1
    injection e1 with _ e2
    exact absurd e2 (by decide)
  · obtain ⟨i, hi⟩ := List.mem_iff_getElem?.1 hv
    have hlt : i < d.fs.length := by rw [h.m3, ← h.n3]; exact (List.getElem?_eq_some_iff.1 hi).1
    obtain ⟨vals, ho, _⟩ := (h.each i v _ hi (List.getElem?_eq_getElem hlt)).steps
    exact own_ne_cells' ho hk (by decide) k hs rfl
theorem DAt.ownLt {w : World} {base db : Nat} {vs : List FV} {d : DD} (h : DAt w base db vs d) : ∀ k, DOwn db vs k → base ≤ k ∧ k < w.heap.size := by
  intro k hs
  rcases hs with rfl | ⟨v, hv, hs⟩
  · exact ⟨h.low, (Array.getElem?_eq_some_iff.1 h.row).1⟩
  · obtain ⟨i, hi⟩ := List.mem_iff_getElem?.1 hv
    have hlt : i < d.fs.length := by rw [h.m3, ← h.n3]; exact (List.getElem?_eq_some_iff.1 hi).1
    obtain ⟨vals, ho, _⟩ := (h.each i v _ hi (List.getElem?_eq_getElem hlt)).steps
    exact ho.lt k hs
/-- what a call leaves of a disk -/
def LeftD (base db : Nat) (vs : List FV) (d' : DD) (w w' : World) : Prop := ∃ vs', DAt w' base db vs' d' ∧ Turns (DOwn db vs) w w' ∧ (∀ k, DOwn db vs' k → DOwn db vs k ∨ w.heap.size ≤ k)
theorem take_end {w w3 : World} {base db : Nat} {vs : List FV} {d : DD} {i nd : Nat} {f : FD} {s : St} {v0 : FV} {nv sv : Value} {vals : List Value} {p' : Option Addr} {c' : Nat} (h : DAt w base db vs d) (hi : i < d.fs.length) (hv : i < vs.length) (hf : d.fs[i] = f) (hv0 : vs[i] = v0)
    (hvals : ∀ (i : Nat) x s, vals[i]? = some x → f.steps[i]? = some s → StAt w base x s) (hvl : vals.length = f.steps.length)
    (hrow : w3.heap[db]? = some (.cells (dA (vs.set i ⟨v0.kv, nv, v0.sv, nd⟩) d.room d.fuse d.down) 64 (0, 0))) (ht : Turns (fun k => k = db ∨ v0.sv.ownBlock = some k) w w3)
    (hnow : Rd w3 base nv (f.take s).now) (hnd : nd = (f.take s).need) (hown : w3.ownsRow base 83 1 (.slice p' (f.steps.length + 1) c') (f.steps.length + 1) (vals ++ [sv])) (hsv : StAt w3 base sv s)
    (hnx : ∀ k, (Value.slice p' (f.steps.length + 1) c').ownBlock = some k → v0.sv.ownBlock = some k ∨ w.heap.size ≤ k)
    (hok : s.ok f.now.length) (hu : s.units ≤ 65536) (hfew : f.steps.length + 1 ≤ 4398046511104) (hroom : usedL d.fs - f.need + (f.take s).need ≤ d.room) :
    LeftD base db vs (setF d i (f.take s)) w (w3.setCell ⟨db, i * 4 + 2, none⟩ (.slice p' (f.steps.length + 1) c')) := by
  have hF := h.each i _ _ (List.getElem?_eq_getElem hv) (List.getElem?_eq_getElem hi)
  rw [hf, hv0] at hF
  have hn3 : (vs.set i ⟨v0.kv, nv, v0.sv, nd⟩).length = 3 := by rw [List.length_set]; exact h.n3
  obtain ⟨_, _, h4⟩ := dA_set hn3 d.room d.fuse d.down
  obtain ⟨_, _, g3, _⟩ := h4 i (by rw [List.length_set]; exact hv)
  rw [List.getElem_set_self] at g3
  simp only [List.set_set] at g3
  have hrow4 := cell_put (off := i * 4 + 2) (.slice p' (f.steps.length + 1) c') hrow
  rw [g3] at hrow4
  have ht3 : Turns (fun k => k = db) w3 (w3.setCell ⟨db, i * 4 + 2, none⟩ (.slice p' (f.steps.length + 1) c')) := (Turns.refl (fun k => k = db) w3).setCell (p := ⟨db, i * 4 + 2, none⟩) (fun _ => rfl) _
  have ht4 : Turns (fun k => k = db ∨ v0.sv.ownBlock = some k) w (w3.setCell ⟨db, i * 4 + 2, none⟩ (.slice p' (f.steps.length + 1) c')) := ht.trans ht3 (fun _ _ h => .inl h)
  have hsub : ∀ k, (k = db ∨ v0.sv.ownBlock = some k) → DOwn db vs k := fun k hk => hk.imp id (fun hk => ⟨v0, by rw [← hv0]; exact List.getElem_mem hv, hk⟩)
  have hno3 : ∀ k M fr, w3.heap[k]? = some (.cells M 5 fr) → ¬ k = db := fun k M fr hk e => by
    subst e
    rw [hrow] at hk
    injection hk with e1
    injection e1 with _ e2
    exact absurd e2 (by decide)
  have hmem : v0 ∈ vs := by rw [← hv0]; exact List.getElem_mem hv
  refine ⟨vs.set i ⟨v0.kv, nv, .slice p' (f.steps.length + 1) c', nd⟩, ⟨hrow4, h.low, by rw [List.length_set]; exact h.n3, by show (d.fs.set i _).length = 3; rw [List.length_set]; exact h.m3, ?_, ?_, h.room1, h.fuse1, ?_, ?_⟩, ht4.imp (fun k _ hk => hsub k hk), ?_⟩
  · intro j v g h1 h2
    replace h2 : (d.fs.set i (f.take s))[j]? = some g := h2
    rw [List.getElem?_set] at h1 h2
    by_cases hij : i = j
    · subst hij
      rw [if_pos rfl, if_pos hv] at h1
      rw [if_pos rfl, if_pos hi] at h2
      cases h1; cases h2
      refine ⟨hF.kept.touch ht4 (fun k M fr hk hs => h.no8 k M fr hk (hsub k hs)), hnow.touch ht3 hno3, ⟨vals ++ [sv], ?_, ?_⟩, hnd, FD.take_ok hF.ok hok hu⟩
      · have := own_touch hown ht3 (fun k hk => own_ne_cells' hown hrow (by decide) k hk)
        show World.ownsRow _ _ _ _ _ ((f.steps ++ [s]).length) _
        rw [List.length_append]
        exact this
      · intro j x t hx ht
        replace ht : (f.steps ++ [s])[j]? = some t := ht
        by_cases hj : j < f.steps.length
        · rw [List.getElem?_append_left (by omega)] at hx
          rw [List.getElem?_append_left hj] at ht
          exact (hvals j x t hx ht).touch ht4 (fun k M fr hk hs => h.no8 k M fr hk (hsub k hs))
        · rw [List.getElem?_append_right (by omega)] at hx ht
          have hz : j - f.steps.length = 0 := by
            have := (List.getElem?_eq_some_iff.1 ht).1
            simp at this; omega
          rw [hvl, hz] at hx
          rw [hz] at ht
          cases hx; cases ht
          exact hsv.touch ht3 hno3
    · rw [if_neg hij] at h1 h2
      obtain ⟨vals', ho, _⟩ := (h.each j v g h1 h2).steps
      refine (h.each j v g h1 h2).touch ht4 (fun k M fr hk hs => h.no8 k M fr hk (hsub k hs)) (fun k hk hs => ?_)
      rcases hs with hs | hs
      · exact own_ne_cells' ho h.row (by decide) k hk hs
      · exact hij (h.apart i j v0 v k (by rw [← hv0]; exact List.getElem?_eq_getElem hv) h1 hs hk)
  · intro j j' v v' k h1 h2 h3 h4
    have key : ∀ (a : Nat) (va : FV), ¬ i = a → vs[a]? = some va → va.sv.ownBlock = some k → ¬ (Value.slice p' (f.steps.length + 1) c').ownBlock = some k := fun a va hia hva hk hk2 => by
      rcases hnx k hk2 with hn | hn
      · exact hia (h.apart i a v0 va k (by rw [← hv0]; exact List.getElem?_eq_getElem hv) hva hn hk)
      · have := (h.ownLt k (.inr ⟨va, List.mem_of_getElem? hva, hk⟩)).2
        omega
    rw [List.getElem?_set] at h1 h2
    by_cases hij : i = j
    · subst hij
      rw [if_pos rfl, if_pos hv] at h1
      cases h1
      by_cases hij' : i = j'
      · exact hij'
      · rw [if_neg hij'] at h2
        exact absurd h3 (key j' v' hij' h2 h4)
    · rw [if_neg hij] at h1
      by_cases hij' : i = j'
      · subst hij'
        rw [if_pos rfl, if_pos hv] at h2
        cases h2
        exact absurd h4 (key j v hij h1 h3)
      · rw [if_neg hij'] at h2
        exact h.apart j j' v v' k h1 h2 h3 h4
  · show usedL (d.fs.set i _) ≤ d.room
    have h1 := usedL_set hi (f.take s)
    rw [hf] at h1
    have h2 := usedL_mem hi
    rw [hf] at h2
    omega
  · intro g hg
    rcases List.mem_or_eq_of_mem_set hg with hg | hg
    · exact h.few g hg
    · rw [hg]; show (f.steps ++ [s]).length ≤ _; rw [List.length_append]; exact hfew
  · intro k hk
    rcases hk with hk | ⟨v, hv', hk⟩
    · exact .inl (.inl hk)
    · rcases List.mem_or_eq_of_mem_set hv' with hv' | rfl
      · exact .inl (.inr ⟨v, hv', hk⟩)
      · rcases hnx k hk with hn | hn
        · exact .inl (.inr ⟨v0, hmem, hn⟩)
        · exact .inr hn

theorem infoStep : (Try.prog.info? 83).map (fun i => (i.zero, i.size, i.bytes)) = some (some .nilIface, 1, 16) := by kernel_rfl
theorem row_sl1 {w : World} {b : Nat} {v : Value} {t : TypeId} {fr : Nat × Nat} (h : w.heap[b]? = some (.cells #[v] t fr)) : Sl w (some ⟨b, 0, none⟩) 1 1 1 [v] :=
  ⟨rfl, by omega, by omega, fun h => (by cases h), fun a ha j u hu => by
    obtain rfl := Option.some.inj ha
    have hj : j = 0 := by have := (List.getElem?_eq_some_iff.1 hu).1; simp at this; exact this
    subst hj
    rw [add_none, cell_of_row _ _ _ _ _ _ h]
    simpa using hu⟩
set_option maxRecDepth 100000 in
set_option maxHeartbeats 1600000 in
theorem take_any {base db : Nat} {vs : List FV} {d : DD} (w : World) (h : DAt w base db vs d) (hbase : base ≤ w.heap.size) (i : Nat) (hi : i < d.fs.length) (f : FD) (hf : d.fs[i] = f) (sv : Value) (s : St) (hs : StAt w base sv s)
    (hok : s.ok f.now.length) (hu : s.units ≤ 65536) (hfew : f.steps.length + 1 ≤ 4398046511104) (hroom : usedL d.fs - f.need + (f.take s).need ≤ d.room) :
    Calls Try.prog 43 #[.pointer (some ⟨db, i * 4, none⟩), sv] w fun e w' => e = .returned (.tuple #[]) ∧ LeftD base db vs (setF d i (f.take s)) w w' := by
  have hv : i < vs.length := by have := h.n3; have := h.m3; omega
  have HM0 : Hid (Mid w w base db vs d i (vs[i]'hv)) := ⟨by rw [List.set_getElem_self]; exact h.row, Turns.refl _ _⟩
  have H := Lib.hid h
  have HFE := Lib.hid hf
  have hF := h.each i _ _ (List.getElem?_eq_getElem hv) (List.getElem?_eq_getElem hi)
  rw [hf] at hF
  have HF := Lib.hid hF
  have hle := usedL_mem hi
  rw [hf] at hle
  have hused := h.used
  have hroom1 := h.room1
  have HNE : Hid (f.need ≤ 65536) := by show _ ≤ _; omega
  have HNL : Hid (f.now.length ≤ 65536) := Nat.le_trans hF.ok.le HNE.out
  have HAFD := Lib.hid (after_any w.drew (h.below (below_drew1 _ _)) i hi sv s (hs.touch (Turns.of_below (S := fun _ => False) (below_drew1 _ _)) (fun _ _ _ _ h => h)) (by rw [hf]; have := HNL.out; cases s with | put b => simp only [St.size, St.units] at *; omega | cut n => simp only [St.size, St.ok] at *; omega))
  rw [hf] at HAFD
  have HS := Lib.hid hs
  have HOKS := Lib.hid hok
  have HUS := Lib.hid hu
  have HROOM := Lib.hid hroom
  have HBASE := Lib.hid hbase
  have HI := Lib.hid hi
  have HV0 : Hid (∃ v0, vs[i]'hv = v0 ∧ Mid w w base db vs d i v0 ∧ FAt w base v0 f) := ⟨_, rfl, HM0.out, hF⟩
  have HV := Lib.hid hv
  obtain ⟨v0, hv0, hm0, hf0⟩ := HV0.out
  have HVE : Hid (∀ hv : i < vs.length, vs[i]'hv = v0) := fun _ => hv0
  have HM := Lib.hid hm0
  have HFF := Lib.hid hf0
  have HND : Hid (v0.nd = f.need) := hf0.need
  obtain ⟨n1, hn1⟩ : ∃ n1, n1 = (f.take s).need := ⟨_, rfl⟩
  have HN1 := Lib.hid hn1
  have HMX1 : Hid ((if ((f.need : Nat) : Int) < ((s.size f.now.length : Nat) : Int) then ((s.size f.now.length : Nat) : Int) else ((f.need : Nat) : Int)) = (n1 : Int) ∧ (if f.need < s.size f.now.length then ((s.size f.now.length : Nat) : Int) else ((f.need : Nat) : Int)) = (n1 : Int)) := by
    have e : n1 = max f.need (s.size f.now.length) := hn1
    show _ ∧ _
    constructor <;> (split <;> omega)
  obtain ⟨z, hz⟩ : ∃ z, z = s.size f.now.length := ⟨_, rfl⟩
  rw [← hz] at HMX1 HAFD
  clear HM0 HV0 hF hm0 hf0 hle hused hroom hok hu hs h hf hv0 hn1 hz
  obtain ⟨hc0, hc1, hc2, hc3, hfz⟩ := HM.out.cells H.out.n3 HV.out
  rw [HND.out] at hc3
  have hkc : Hid (∀ w', Below w.heap.size w w' → w'.cell? ⟨db, i * 4 + 3, none⟩ = some (.int .i64 (f.need : Int))) := fun w' hb => cell_below hc3 hb
  clear hc0 hc1 hc2 hc3 hfz
  go_enter Try.func43, Try.ntmps43
  go_upto_region 0 with fail
  refine wp_region_eager_t (Below w.heap.size w) [0, 1, 2, 3, 4, 5, 6, 8, 9, 10] [(0, true), (1, true), (2, true), (3, true), (4, true), (5, true), (6, true), (7, false), (8, true), (9, true), (10, true)] [11] (by kernel_rfl) (by kernel_rfl) ?_ (eagerTOpen rfl ?_)
  · exact below_drew1 _ _
  have hy0 : Below w.heap.size w w.drew := below_drew1 _ _
  repeat (first
    | (first | (apply wpEagerT_take; (· rfl); (· (intro w' hb'; go_simp; try with_reducible rfl)); (try simp only [Act.put, List.setIfInBounds_toArray, List.set_cons_zero, List.set_cons_succ]); (try refine eagerTOpen rfl ?_)) | (refine wpEagerT_skip (by rfl) ?_; (try simp only [Act.put, List.setIfInBounds_toArray, List.set_cons_zero, List.set_cons_succ]); (try refine eagerTOpen rfl ?_)))
    | (apply wpEagerT_take; (· rfl); (· (intro w' hb'; have hk' := (hkc.out) w' hb'; go_split_ands; go_simp; try with_reducible rfl)); (try simp only [Act.put, List.setIfInBounds_toArray, List.set_cons_zero, List.set_cons_succ]); (try refine eagerTOpen rfl ?_)))
  (refine wpEagerT_op (by rfl) (fun K hK => ?_); go_simp; (refine (HAFD.out).mono ?_; rintro e y ⟨rfl, hb9⟩; have hy1 : Below w.heap.size w y := hy0.trans hb9; clear hb9); refine Shut.out hK _ _ (by assumption) ?_; clear hK K; (try simp only [Act.put, List.setIfInBounds_toArray, List.set_cons_zero, List.set_cons_succ]); (try refine eagerTOpen rfl ?_))
  obtain ⟨hmx1, hmx2⟩ := HMX1.out
  repeat (first | (apply wpEagerT_take; (· rfl); (· (intro w' hb'; go_simp; try with_reducible rfl)); (try simp only [Act.put, List.setIfInBounds_toArray, List.set_cons_zero, List.set_cons_succ]); (try refine eagerTOpen rfl ?_)) | (refine wpEagerT_skip (by rfl) ?_; (try simp only [Act.put, List.setIfInBounds_toArray, List.set_cons_zero, List.set_cons_succ]); (try refine eagerTOpen rfl ?_)))
  refine eagerTEnd (tail1 rfl ?_)
  have HMY := Lib.hid (HM.out.below hy1)
  have HSY := Lib.hid (HS.out.touch (Turns.of_below (S := fun _ => False) hy1) (fun _ _ _ _ h => h))
  obtain ⟨hc0, hc1, hc2, hc3, hfz⟩ := HMY.out.cells H.out.n3 HV.out
  have HMZ := Lib.hid ((HMY.out.put H.out.n3 HV.out).2.2.2 n1)
  clear hy0 hy1 hmx1 hmx2
  go_wp2_with fail
  refine noPanic_end ?_
  have HS1 : Hid (StAt (y.setCell ⟨db, i * 4 + 3, none⟩ (.int .i64 (n1 : Int))) base sv s) := by
    have ht : Turns (fun k => k = db) y (y.setCell ⟨db, i * 4 + 3, none⟩ (.int .i64 (n1 : Int))) := (Turns.refl (fun k => k = db) y).setCell (p := ⟨db, i * 4 + 3, none⟩) (fun _ => rfl) _
    refine HSY.out.touch ht (fun k M fr hk e => ?_)
    subst e
    rw [HMY.out.row] at hk
    injection hk with e1
    injection e1 with _ e2
    exact absurd e2 (by decide)
  generalize y.setCell ⟨db, i * 4 + 3, none⟩ (.int .i64 (n1 : Int)) = w1 at *
  clear hc0 hc1 hc2 hc3 hfz HMY HSY HAFD HM hkc
  clear y
  go_upto_region 1 with fail
  have HBW1 : Hid (base ≤ w1.heap.size) := Nat.le_trans HBASE.out HMZ.out.turn.size
  obtain ⟨pn, cn, hnv, hbsn⟩ := HFF.out.now.bs
  have HNOW1 : Hid (Rd w1 base (.slice pn f.now.length cn) f.now) := by
    have := HFF.out.now
    rw [hnv] at this
    exact this.turn H.out HMZ.out.turn
  have hkc : Hid (∀ w', Below w1.heap.size w1 w' → w'.cell? ⟨db, i * 4 + 1, none⟩ = some (.slice pn f.now.length cn)) := fun w' hb => by
    have := ((HMZ.out.below hb).cells H.out.n3 HV.out).2.1
    rw [hnv] at this
    exact this
  clear hbsn hnv
  obtain ⟨x, hinv⟩ := inv_any HS1.out
  try simp only [Act.put, List.setIfInBounds_toArray, List.set_cons_zero, List.set_cons_succ]
  rcases hinv with ⟨hx, hcu, hcd⟩ | ⟨hx, hcu, hcd⟩
  · subst hx
    have HCU := Lib.hid hcu
    have HCD := Lib.hid hcd
    have hm1 := mPutUnits
    have hm2 := mPutDo
    have hm3 := nPutDo
    clear hcu hcd
    refine wp_region_eager_t (Below w1.heap.size w1) [0, 1, 2, 3, 4, 5, 6, 8, 9, 10, 12, 13] [(0, true), (1, true), (2, true), (3, true), (4, true), (5, true), (6, true), (8, true), (9, true), (10, true), (7, false), (11, false), (12, true), (13, true)] [14] (by kernel_rfl) (by kernel_rfl) ?_ (eagerTOpen rfl ?_)
    · exact below_drew1 _ _
    have hy0 : Below w1.heap.size w1 w1.drew := below_drew1 _ _
    repeat (first
      | (first | (apply wpEagerT_take; (· rfl); (· (intro w' hb'; go_simp; try with_reducible rfl)); (try simp only [Act.put, List.setIfInBounds_toArray, List.set_cons_zero, List.set_cons_succ]); (try refine eagerTOpen rfl ?_)) | (refine wpEagerT_skip (by rfl) ?_; (try simp only [Act.put, List.setIfInBounds_toArray, List.set_cons_zero, List.set_cons_succ]); (try refine eagerTOpen rfl ?_)))
      | (apply wpEagerT_take; (· rfl); (· (intro w' hb'; have hk' := (hkc.out) w' hb'; go_split_ands; go_simp; try with_reducible rfl)); (try simp only [Act.put, List.setIfInBounds_toArray, List.set_cons_zero, List.set_cons_succ]); (try refine eagerTOpen rfl ?_)))
    (refine wpEagerT_op (by rfl) (fun K hK => ?_); go_simp; (refine (HCU.out _).mono ?_; rintro e y0 ⟨rfl, hb9⟩; have hy1 : Below w1.heap.size w1 y0 := hy0.trans hb9; clear hb9); refine Shut.out hK _ _ (by assumption) ?_; clear hK K; (try simp only [Act.put, List.setIfInBounds_toArray, List.set_cons_zero, List.set_cons_succ]); (try refine eagerTOpen rfl ?_))
    repeat (first
      | (first | (apply wpEagerT_take; (· rfl); (· (intro w' hb'; go_simp; try with_reducible rfl)); (try simp only [Act.put, List.setIfInBounds_toArray, List.set_cons_zero, List.set_cons_succ]); (try refine eagerTOpen rfl ?_)) | (refine wpEagerT_skip (by rfl) ?_; (try simp only [Act.put, List.setIfInBounds_toArray, List.set_cons_zero, List.set_cons_succ]); (try refine eagerTOpen rfl ?_)))
      | (apply wpEagerT_take; (· rfl); (· (intro w' hb'; have hk' := (hkc.out) w' hb'; go_split_ands; go_simp; try with_reducible rfl)); (try simp only [Act.put, List.setIfInBounds_toArray, List.set_cons_zero, List.set_cons_succ]); (try refine eagerTOpen rfl ?_)))
    (refine wpEagerT_op (by rfl) (fun K hK => ?_); go_simp; (refine (HCD.out pn f.now.length cn f.now s.units (Nat.le_refl _) (fun _ => HOKS.out) (by have := HNL.out; have := HUS.out; omega) _ hy1 (Nat.le_trans HBW1.out hy1.size) (HNOW1.out.below hy1)).mono ?_; rintro e y ⟨p9, c9, rfl, hr9, hb9⟩; have HR9 := Lib.hid hr9; have hy2 : Below w1.heap.size w1 y := hy1.trans (hb9.mono hy1.size); clear hr9 hb9); refine Shut.out hK _ _ (by assumption) ?_; clear hK K; (try simp only [Act.put, List.setIfInBounds_toArray, List.set_cons_zero, List.set_cons_succ]); (try refine eagerTOpen rfl ?_))
    repeat (first | (apply wpEagerT_take; (· rfl); (· (intro w' hb'; go_simp; try with_reducible rfl)); (try simp only [Act.put, List.setIfInBounds_toArray, List.set_cons_zero, List.set_cons_succ]); (try refine eagerTOpen rfl ?_)) | (refine wpEagerT_skip (by rfl) ?_; (try simp only [Act.put, List.setIfInBounds_toArray, List.set_cons_zero, List.set_cons_succ]); (try refine eagerTOpen rfl ?_)))
    refine eagerTEnd (tail1 rfl ?_)
    have HMY := Lib.hid (HMZ.out.below hy2)
    have HSY := Lib.hid (HS1.out.touch (Turns.of_below (S := fun _ => False) hy2) (fun _ _ _ _ h => h))
    obtain ⟨hc0, hc1, hc2, hc3, hfz⟩ := HMY.out.cells H.out.n3 HV.out
    have HMW := Lib.hid ((HMY.out.put H.out.n3 HV.out).2.1 (.slice p9 (s.act f.now s.units).length c9))
    clear hy0 hy1 hy2
    go_wp2_with fail
    refine noPanic_end ?_
    have ht9 : Turns (fun k => k = db) y (y.setCell ⟨db, i * 4 + 1, none⟩ (.slice p9 (s.act f.now s.units).length c9)) := (Turns.refl (fun k => k = db) y).setCell (p := ⟨db, i * 4 + 1, none⟩) (fun _ => rfl) _
    have hid9 : ∀ k M fr, y.heap[k]? = some (.cells M 5 fr) → ¬ k = db := fun k M fr hk e => by
      subst e
      rw [HMY.out.row] at hk
      injection hk with e1
      injection e1 with _ e2
      exact absurd e2 (by decide)
    have HS2 := Lib.hid (HSY.out.touch ht9 hid9)
    have HNOW2 := Lib.hid (HR9.out.touch ht9 hid9)
    generalize y.setCell ⟨db, i * 4 + 1, none⟩ (.slice p9 (s.act f.now s.units).length c9) = w2 at *
    clear hc0 hc1 hc2 hc3 hfz HMY HSY HR9 ht9 hid9
    clear y
    have HST := Lib.hid HFF.out.steps
    obtain ⟨vals, ho, hst⟩ := HST.out
    obtain ⟨ps, cs, hsv0, hsl⟩ := own_sl ho
    have HOV := Lib.hid ho
    have HSTV := Lib.hid hst
    have HVL : Hid (vals.length = f.steps.length) := by show _ = _; have := ho.1; omega
    have HOW2 : Hid (w2.ownsRow base 83 1 v0.sv f.steps.length vals) := own_touch ho HMW.out.turn (own_ne_cells' ho H.out.row (by decide))
    rw [hsv0] at HOW2
    have HSV0 := Lib.hid hsv0
    clear ho hst hsl hsv0
    have hb2 := Below.allocs w2 (.cells #[(Value.iface 68 x)] 83)
    have HMA := Lib.hid (HMW.out.below hb2)
    have HSA := Lib.hid (HS2.out.touch (Turns.of_below (S := fun _ => False) hb2) (fun _ _ _ _ h => h))
    have HNA := Lib.hid (HNOW2.out.below hb2)
    have HOA := Lib.hid (own_touch HOW2.out (Turns.of_below (S := fun _ => False) hb2) (fun _ _ h => h))
    have HSLA : Hid (Sl (w2.alloc (.cells #[(Value.iface 68 x)] 83)) (some ⟨w2.heap.size, 0, none⟩) 1 1 1 [(Value.iface 68 x)]) := row_sl1 (heap_alloc_last _ _)
    have HBA : Hid (base ≤ (w2.alloc (.cells #[(Value.iface 68 x)] 83)).heap.size) := Nat.le_trans HBASE.out (Nat.le_trans HMW.out.turn.size hb2.size)
    obtain ⟨hc0, hc1, hc2, hc3, hfz⟩ := HMW.out.cells H.out.n3 HV.out
    rw [HSV0.out] at hc2
    clear hb2
    go_wp2_with (first


      | (refine wpList_append_nx rfl _ _ 59 rfl (base := base) Try.underlying59 infoStep rfl (by omega) rfl HOA.out rfl HSLA.out (fun u hu => by rw [List.mem_singleton] at hu; rw [hu]; rfl) ⟨by omega, by omega⟩ HBA.out ?_))
    intro p' c' w3 ho3 hg3 hnx3 _
    have hTg : Turns (fun k => (Value.slice ps f.steps.length cs).ownBlock = some k) (w2.alloc (.cells #[(Value.iface 68 x)] 83)) w3 := Turns.grown hg3 (S := fun k => (Value.slice ps f.steps.length cs).ownBlock = some k) (fun k hk => hk)
    have hno8 : ∀ k M fr, (w2.alloc (.cells #[(Value.iface 68 x)] 83)).heap[k]? = some (.cells M 5 fr) → ¬ (Value.slice ps f.steps.length cs).ownBlock = some k := fun k M fr hk hs => own_ne_cells' HOA.out hk (by decide) k hs rfl
    have HS3 := Lib.hid (HSA.out.touch hTg hno8)
    have HN3 := Lib.hid (HNA.out.touch hTg hno8)
    have HR3 := Lib.hid (hTg.keep HMA.out.row (fun hs => own_ne_cells' HOA.out HMA.out.row (by decide) db hs rfl))
    have HT3 : Hid (Turns (fun k => k = db ∨ v0.sv.ownBlock = some k) w w3) := (HMA.out.turn.imp (S' := fun k => k = db ∨ v0.sv.ownBlock = some k) (fun _ _ h => .inl h)).trans hTg (fun k _ hk => .inr (by rw [HSV0.out]; exact hk))
    have HX3 : Hid (∀ k, (Value.slice p' (f.steps.length + 1) c').ownBlock = some k → v0.sv.ownBlock = some k ∨ w.heap.size ≤ k) := fun k hk => by
      rcases hnx3 k hk with hn | hn
      · exact .inl (by rw [HSV0.out]; exact hn)
      · right
        have := HMA.out.turn.size
        have h2 : (w2.alloc (.cells #[(Value.iface 68 x)] 83)).heap.size = w2.heap.size + 1 := by simp
        have := HMW.out.turn.size
        omega
    have hc32 : w3.cell? ⟨db, i * 4 + 2, none⟩ = some v0.sv := by
      have := (HMA.out.cells H.out.n3 HV.out).2.2.1
      exact hTg.cell this (fun hs => own_ne_cells' HOA.out HMA.out.row (by decide) db hs rfl)
    have hfz3 : w3.frozen? ⟨db, i * 4 + 2, none⟩ = false := frozen_of_row _ _ _ _ _ HR3.out
    have HO3 := Lib.hid ho3
    clear ho3 hg3 hnx3 hTg hno8 hc0 hc1 hc2 hc3 hfz
    go_wp2_with fail
    go_end0
    exact ⟨rfl, take_end H.out HI.out HV.out HFE.out (HVE.out HV.out) HSTV.out HVL.out HR3.out HT3.out HN3.out HN1.out HO3.out HS3.out HX3.out HOKS.out HUS.out hfew HROOM.out⟩
  · subst hx
    have HCU := Lib.hid hcu
    have HCD := Lib.hid hcd
    have hm1 := mCutUnits
    have hm2 := mCutDo
    have hm3 := nCutDo
    clear hcu hcd
    refine wp_region_eager_t (Below w1.heap.size w1) [0, 1, 2, 3, 4, 5, 6, 8, 9, 10, 12, 13] [(0, true), (1, true), (2, true), (3, true), (4, true), (5, true), (6, true), (8, true), (9, true), (10, true), (7, false), (11, false), (12, true), (13, true)] [14] (by kernel_rfl) (by kernel_rfl) ?_ (eagerTOpen rfl ?_)
    · exact below_drew1 _ _
    have hy0 : Below w1.heap.size w1 w1.drew := below_drew1 _ _
    repeat (first
      | (first | (apply wpEagerT_take; (· rfl); (· (intro w' hb'; go_simp; try with_reducible rfl)); (try simp only [Act.put, List.setIfInBounds_toArray, List.set_cons_zero, List.set_cons_succ]); (try refine eagerTOpen rfl ?_)) | (refine wpEagerT_skip (by rfl) ?_; (try simp only [Act.put, List.setIfInBounds_toArray, List.set_cons_zero, List.set_cons_succ]); (try refine eagerTOpen rfl ?_)))
      | (apply wpEagerT_take; (· rfl); (· (intro w' hb'; have hk' := (hkc.out) w' hb'; go_split_ands; go_simp; try with_reducible rfl)); (try simp only [Act.put, List.setIfInBounds_toArray, List.set_cons_zero, List.set_cons_succ]); (try refine eagerTOpen rfl ?_)))
    (refine wpEagerT_op (by rfl) (fun K hK => ?_); go_simp; (refine (HCU.out _).mono ?_; rintro e y0 ⟨rfl, hb9⟩; have hy1 : Below w1.heap.size w1 y0 := hy0.trans hb9; clear hb9); refine Shut.out hK _ _ (by assumption) ?_; clear hK K; (try simp only [Act.put, List.setIfInBounds_toArray, List.set_cons_zero, List.set_cons_succ]); (try refine eagerTOpen rfl ?_))
    repeat (first
      | (first | (apply wpEagerT_take; (· rfl); (· (intro w' hb'; go_simp; try with_reducible rfl)); (try simp only [Act.put, List.setIfInBounds_toArray, List.set_cons_zero, List.set_cons_succ]); (try refine eagerTOpen rfl ?_)) | (refine wpEagerT_skip (by rfl) ?_; (try simp only [Act.put, List.setIfInBounds_toArray, List.set_cons_zero, List.set_cons_succ]); (try refine eagerTOpen rfl ?_)))
      | (apply wpEagerT_take; (· rfl); (· (intro w' hb'; have hk' := (hkc.out) w' hb'; go_split_ands; go_simp; try with_reducible rfl)); (try simp only [Act.put, List.setIfInBounds_toArray, List.set_cons_zero, List.set_cons_succ]); (try refine eagerTOpen rfl ?_)))
    (refine wpEagerT_op (by rfl) (fun K hK => ?_); go_simp; (refine (HCD.out pn f.now.length cn f.now s.units (Nat.le_refl _) (fun _ => HOKS.out) (by have := HNL.out; have := HUS.out; omega) _ hy1 (Nat.le_trans HBW1.out hy1.size) (HNOW1.out.below hy1)).mono ?_; rintro e y ⟨p9, c9, rfl, hr9, hb9⟩; have HR9 := Lib.hid hr9; have hy2 : Below w1.heap.size w1 y := hy1.trans (hb9.mono hy1.size); clear hr9 hb9); refine Shut.out hK _ _ (by assumption) ?_; clear hK K; (try simp only [Act.put, List.setIfInBounds_toArray, List.set_cons_zero, List.set_cons_succ]); (try refine eagerTOpen rfl ?_))
    repeat (first | (apply wpEagerT_take; (· rfl); (· (intro w' hb'; go_simp; try with_reducible rfl)); (try simp only [Act.put, List.setIfInBounds_toArray, List.set_cons_zero, List.set_cons_succ]); (try refine eagerTOpen rfl ?_)) | (refine wpEagerT_skip (by rfl) ?_; (try simp only [Act.put, List.setIfInBounds_toArray, List.set_cons_zero, List.set_cons_succ]); (try refine eagerTOpen rfl ?_)))
    refine eagerTEnd (tail1 rfl ?_)
    have HMY := Lib.hid (HMZ.out.below hy2)
    have HSY := Lib.hid (HS1.out.touch (Turns.of_below (S := fun _ => False) hy2) (fun _ _ _ _ h => h))
    obtain ⟨hc0, hc1, hc2, hc3, hfz⟩ := HMY.out.cells H.out.n3 HV.out
    have HMW := Lib.hid ((HMY.out.put H.out.n3 HV.out).2.1 (.slice p9 (s.act f.now s.units).length c9))
    clear hy0 hy1 hy2
    go_wp2_with fail
    refine noPanic_end ?_
    have ht9 : Turns (fun k => k = db) y (y.setCell ⟨db, i * 4 + 1, none⟩ (.slice p9 (s.act f.now s.units).length c9)) := (Turns.refl (fun k => k = db) y).setCell (p := ⟨db, i * 4 + 1, none⟩) (fun _ => rfl) _
    have hid9 : ∀ k M fr, y.heap[k]? = some (.cells M 5 fr) → ¬ k = db := fun k M fr hk e => by
      subst e
      rw [HMY.out.row] at hk
      injection hk with e1
      injection e1 with _ e2
      exact absurd e2 (by decide)
    have HS2 := Lib.hid (HSY.out.touch ht9 hid9)
    have HNOW2 := Lib.hid (HR9.out.touch ht9 hid9)
    generalize y.setCell ⟨db, i * 4 + 1, none⟩ (.slice p9 (s.act f.now s.units).length c9) = w2 at *
    clear hc0 hc1 hc2 hc3 hfz HMY HSY HR9 ht9 hid9
    clear y
    have HST := Lib.hid HFF.out.steps
    obtain ⟨vals, ho, hst⟩ := HST.out
    obtain ⟨ps, cs, hsv0, hsl⟩ := own_sl ho
    have HOV := Lib.hid ho
    have HSTV := Lib.hid hst
    have HVL : Hid (vals.length = f.steps.length) := by show _ = _; have := ho.1; omega
    have HOW2 : Hid (w2.ownsRow base 83 1 v0.sv f.steps.length vals) := own_touch ho HMW.out.turn (own_ne_cells' ho H.out.row (by decide))
    rw [hsv0] at HOW2
    have HSV0 := Lib.hid hsv0
    clear ho hst hsl hsv0
    have hb2 := Below.allocs w2 (.cells #[(Value.iface 70 x)] 83)
    have HMA := Lib.hid (HMW.out.below hb2)
    have HSA := Lib.hid (HS2.out.touch (Turns.of_below (S := fun _ => False) hb2) (fun _ _ _ _ h => h))
    have HNA := Lib.hid (HNOW2.out.below hb2)
    have HOA := Lib.hid (own_touch HOW2.out (Turns.of_below (S := fun _ => False) hb2) (fun _ _ h => h))
    have HSLA : Hid (Sl (w2.alloc (.cells #[(Value.iface 70 x)] 83)) (some ⟨w2.heap.size, 0, none⟩) 1 1 1 [(Value.iface 70 x)]) := row_sl1 (heap_alloc_last _ _)
    have HBA : Hid (base ≤ (w2.alloc (.cells #[(Value.iface 70 x)] 83)).heap.size) := Nat.le_trans HBASE.out (Nat.le_trans HMW.out.turn.size hb2.size)
    obtain ⟨hc0, hc1, hc2, hc3, hfz⟩ := HMW.out.cells H.out.n3 HV.out
    rw [HSV0.out] at hc2
    clear hb2
    go_wp2_with (first


      | (refine wpList_append_nx rfl _ _ 59 rfl (base := base) Try.underlying59 infoStep rfl (by omega) rfl HOA.out rfl HSLA.out (fun u hu => by rw [List.mem_singleton] at hu; rw [hu]; rfl) ⟨by omega, by omega⟩ HBA.out ?_))
    intro p' c' w3 ho3 hg3 hnx3 _
    have hTg : Turns (fun k => (Value.slice ps f.steps.length cs).ownBlock = some k) (w2.alloc (.cells #[(Value.iface 70 x)] 83)) w3 := Turns.grown hg3 (S := fun k => (Value.slice ps f.steps.length cs).ownBlock = some k) (fun k hk => hk)
    have hno8 : ∀ k M fr, (w2.alloc (.cells #[(Value.iface 70 x)] 83)).heap[k]? = some (.cells M 5 fr) → ¬ (Value.slice ps f.steps.length cs).ownBlock = some k := fun k M fr hk hs => own_ne_cells' HOA.out hk (by decide) k hs rfl
    have HS3 := Lib.hid (HSA.out.touch hTg hno8)
    have HN3 := Lib.hid (HNA.out.touch hTg hno8)
    have HR3 := Lib.hid (hTg.keep HMA.out.row (fun hs => own_ne_cells' HOA.out HMA.out.row (by decide) db hs rfl))
    have HT3 : Hid (Turns (fun k => k = db ∨ v0.sv.ownBlock = some k) w w3) := (HMA.out.turn.imp (S' := fun k => k = db ∨ v0.sv.ownBlock = some k) (fun _ _ h => .inl h)).trans hTg (fun k _ hk => .inr (by rw [HSV0.out]; exact hk))
    have HX3 : Hid (∀ k, (Value.slice p' (f.steps.length + 1) c').ownBlock = some k → v0.sv.ownBlock = some k ∨ w.heap.size ≤ k) := fun k hk => by
      rcases hnx3 k hk with hn | hn
      · exact .inl (by rw [HSV0.out]; exact hn)
      · right
        have := HMA.out.turn.size
        have h2 : (w2.alloc (.cells #[(Value.iface 70 x)] 83)).heap.size = w2.heap.size + 1 := by simp
        have := HMW.out.turn.size
        omega
    have hc32 : w3.cell? ⟨db, i * 4 + 2, none⟩ = some v0.sv := by
      have := (HMA.out.cells H.out.n3 HV.out).2.2.1
      exact hTg.cell this (fun hs => own_ne_cells' HOA.out HMA.out.row (by decide) db hs rfl)
    have hfz3 : w3.frozen? ⟨db, i * 4 + 2, none⟩ = false := frozen_of_row _ _ _ _ _ HR3.out
    have HO3 := Lib.hid ho3
    clear ho3 hg3 hnx3 hTg hno8 hc0 hc1 hc2 hc3 hfz
    go_wp2_with fail
    go_end0
    exact ⟨rfl, take_end H.out HI.out HV.out HFE.out (HVE.out HV.out) HSTV.out HVL.out HR3.out HT3.out HN3.out HN1.out HO3.out HS3.out HX3.out HOKS.out HUS.out hfew HROOM.out⟩
end Go.Proofs.Ytlmlcedjhpfeiaa.Dk
