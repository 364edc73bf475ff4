/- PARTS, JOINED: THE WALKS OF A DISK: a step taken. Conditions: none. THE WALKS OF A DISK: a step to a file; bytes put, a cut, a sync. Conditions: none. THE WALKS OF A DISK: bytes put, a cut, a sync. Conditions: none. THE WALKS OF A DISK: a crash that keeps some units. Conditions: none. THE CALLS OF A STATEMENT ON VAULTS, as they lie in memory; are there not too many? Conditions: a sum that fits. WHAT THE BOUND OF AN '..UptoSaid' GIVES: sizes of what came in. Conditions: the bound. CALLS OF A STATEMENT ON VAULTS, that came in. Conditions: none. THE LAW OF VAULTS: a Case that came in. Conditions: none. THE WALKS OF A DISK: what is asked wrongly; what a file keeps; sizes and units. Conditions: none. A DISK CLONED. Conditions: none. WHAT A CALL LEAVES OF A DISK, whatever is asked; what calls do, one behind the other. Conditions: none. THE CALLS OF A STATEMENT ON DISKS, as they lie in memory; are there not too many? Conditions: none. CALLS PLAYED, one behind the other. Conditions: none. PLAIN PART OF DiskKeeps: behind a sync nothing waits; a crash keeps the first bytes of what was put behind it. Conditions: none. THE WALKS OF THE WRITER: bytes one behind the other, room and a fault; each call as a plain function of what the writer held. Conditions: parts that stay as they are while the writer's own blocks turn. THE WALKS OF THE WRITER, on: put with any fault, Bytes, Id, Hint, Ids, Num, New, Len, Err, Done. Conditions: as in the first part. -/
import Derived.Test.YtnejjfglkindjaaGreatDoorVc1
import Derived.Test.YtnejjfglkindjaaGreatDoorVc2
import Derived.Test.YtnejjfglkindjaaGreatDoorRows
import Derived.SizedLaws
import Derived.Laws.Tables
import Derived.Laws.CopyOwn
import Derived.Test.YtnejjfglkindjaaGreatDoorProg
import Derived.BigQuiet
import Derived.Deep.QuietTactic
namespace Go.Proofs.YtnejjfglkindjaaGreatDoor.Dk
open Go.RowKit Go.Mir
def DOwn (db : Nat) (vs : List FV) (k : Nat) : Prop := k = db ∨ ∃ v ∈ vs, v.sv.ownBlock = some k
theorem DAt.no8 {w : World} {base db : Nat} {vs : List FV} {d : DD} (h : DAt w base db vs d) : ∀ k M fr, w.heap[k]? = some (.cells M 5 fr) → ¬ DOwn db vs k := by
 intro k M fr hk hs
 rcases hs with rfl | ⟨v, hv, hs⟩
 ·rw [h.row] at hk
  injection hk with e1
  injection e1 with _ e2
  exact absurd e2 (by decide)
 ·obtain ⟨i, hi⟩ := List.mem_iff_getElem?.1 hv
  have hlt : i < d.fs.length := by rw [h.m3, ← h.n3]; exact (List.getElem?_eq_some_iff.1 hi).1
  obtain ⟨vals, ho, _⟩ := (h.each i v _ hi (List.getElem?_eq_getElem hlt)).steps
  exact own_ne_cells' ho hk (by decide) k hs rfl
theorem DAt.ownLt {w : World} {base db : Nat} {vs : List FV} {d : DD} (h : DAt w base db vs d) : ∀ k, DOwn db vs k → base ≤ k ∧ k < w.heap.size := by
 intro k hs
 rcases hs with rfl | ⟨v, hv, hs⟩
 ·exact ⟨h.low, (Array.getElem?_eq_some_iff.1 h.row).1⟩
 ·obtain ⟨i, hi⟩ := List.mem_iff_getElem?.1 hv
  have hlt : i < d.fs.length := by rw [h.m3, ← h.n3]; exact (List.getElem?_eq_some_iff.1 hi).1
  obtain ⟨vals, ho, _⟩ := (h.each i v _ hi (List.getElem?_eq_getElem hlt)).steps
  exact ho.lt k hs
def LeftD (base db : Nat) (vs : List FV) (d' : DD) (w w' : World) : Prop := ∃ vs', DAt w' base db vs' d' ∧ Turns (DOwn db vs) w w' ∧ (∀ k, DOwn db vs' k → DOwn db vs k ∨ w.heap.size ≤ k)
theorem take_end {w w3 : World} {base db : Nat} {vs : List FV} {d : DD} {i nd : Nat} {f : FD} {s : St} {v0 : FV} {nv sv : Value} {vals : List Value} {p' : Option Addr} {c' : Nat} (h : DAt w base db vs d) (hi : i < d.fs.length) (hv : i < vs.length) (hf : d.fs[i] = f) (hv0 : vs[i] = v0)
  (hvals : ∀ (i : Nat) x s, vals[i]? = some x → f.steps[i]? = some s → StAt w base x s) (hvl : vals.length = f.steps.length)
  (hrow : w3.heap[db]? = some (.cells (dA (vs.set i ⟨v0.kv, nv, v0.sv, nd⟩) d.room d.fuse d.down) 105 (0, 0))) (ht : Turns (fun k => k = db ∨ v0.sv.ownBlock = some k) w w3)
  (hnow : Rd w3 base nv (f.take s).now) (hnd : nd = (f.take s).need) (hown : w3.ownsRow base 165 1 (.slice p' (f.steps.length + 1) c') (f.steps.length + 1) (vals ++ [sv])) (hsv : StAt w3 base sv s)
  (hnx : ∀ k, (Value.slice p' (f.steps.length + 1) c').ownBlock = some k → v0.sv.ownBlock = some k ∨ w.heap.size ≤ k)
  (hok : s.ok f.now.length) (hu : s.units ≤ 65536) (hfew : f.steps.length + 1 ≤ 4398046511104) (hroom : usedL d.fs - f.need + (f.take s).need ≤ d.room) :
  LeftD base db vs (setF d i (f.take s)) w (w3.setCell ⟨db, i * 4 + 2, none⟩ (.slice p' (f.steps.length + 1) c')) := by
 have hF := h.each i _ _ (List.getElem?_eq_getElem hv) (List.getElem?_eq_getElem hi)
 rw [hf, hv0] at hF
 have hn3 : (vs.set i ⟨v0.kv, nv, v0.sv, nd⟩).length = 3 := by rw [List.length_set]; exact h.n3
 obtain ⟨_, _, h4⟩ := dA_set hn3 d.room d.fuse d.down
 obtain ⟨_, _, g3, _⟩ := h4 i (by rw [List.length_set]; exact hv)
 rw [List.getElem_set_self] at g3
 simp only [List.set_set] at g3
 have hrow4 := cell_put (off := i * 4 + 2) (.slice p' (f.steps.length + 1) c') hrow
 rw [g3] at hrow4
 have ht3 : Turns (fun k => k = db) w3 (w3.setCell ⟨db, i * 4 + 2, none⟩ (.slice p' (f.steps.length + 1) c')) := (Turns.refl (fun k => k = db) w3).setCell (p := ⟨db, i * 4 + 2, none⟩) (fun _ => rfl) _
 have ht4 : Turns (fun k => k = db ∨ v0.sv.ownBlock = some k) w (w3.setCell ⟨db, i * 4 + 2, none⟩ (.slice p' (f.steps.length + 1) c')) := ht.trans ht3 (fun _ _ h => .inl h)
 have hsub : ∀ k, (k = db ∨ v0.sv.ownBlock = some k) → DOwn db vs k := fun k hk => hk.imp id (fun hk => ⟨v0, by rw [← hv0]; exact List.getElem_mem hv, hk⟩)
 have hno3 : ∀ k M fr, w3.heap[k]? = some (.cells M 5 fr) → ¬ k = db := fun k M fr hk e => by
  subst e
  rw [hrow] at hk
  injection hk with e1
  injection e1 with _ e2
  exact absurd e2 (by decide)
 have hmem : v0 ∈ vs := by rw [← hv0]; exact List.getElem_mem hv
 refine ⟨vs.set i ⟨v0.kv, nv, .slice p' (f.steps.length + 1) c', nd⟩, ⟨hrow4, h.low, by rw [List.length_set]; exact h.n3, by show (d.fs.set i _).length = 3; rw [List.length_set]; exact h.m3, ?_, ?_, h.room1, h.fuse1, ?_, ?_⟩, ht4.imp (fun k _ hk => hsub k hk), ?_⟩
 ·intro j v g h1 h2
  replace h2 : (d.fs.set i (f.take s))[j]? = some g := h2
  rw [List.getElem?_set] at h1 h2
  by_cases hij : i = j
  ·subst hij
   rw [if_pos rfl, if_pos hv] at h1
   rw [if_pos rfl, if_pos hi] at h2
   cases h1; cases h2
   refine ⟨hF.kept.touch ht4 (fun k M fr hk hs => h.no8 k M fr hk (hsub k hs)), hnow.touch ht3 hno3, ⟨vals ++ [sv], ?_, ?_⟩, hnd, FD.take_ok hF.ok hok hu⟩
   ·have := own_touch hown ht3 (fun k hk => own_ne_cells' hown hrow (by decide) k hk)
    show World.ownsRow _ _ _ _ _ ((f.steps ++ [s]).length) _
    rw [List.length_append]
    exact this
   ·intro j x t hx ht
    replace ht : (f.steps ++ [s])[j]? = some t := ht
    by_cases hj : j < f.steps.length
    ·rw [List.getElem?_append_left (by omega)] at hx
     rw [List.getElem?_append_left hj] at ht
     exact (hvals j x t hx ht).touch ht4 (fun k M fr hk hs => h.no8 k M fr hk (hsub k hs))
    ·rw [List.getElem?_append_right (by omega)] at hx ht
     have hz : j - f.steps.length = 0 := by
      have := (List.getElem?_eq_some_iff.1 ht).1
      simp at this; omega
     rw [hvl, hz] at hx
     rw [hz] at ht
     cases hx; cases ht
     exact hsv.touch ht3 hno3
  ·rw [if_neg hij] at h1 h2
   obtain ⟨vals', ho, _⟩ := (h.each j v g h1 h2).steps
   refine (h.each j v g h1 h2).touch ht4 (fun k M fr hk hs => h.no8 k M fr hk (hsub k hs)) (fun k hk hs => ?_)
   rcases hs with hs | hs
   ·exact own_ne_cells' ho h.row (by decide) k hk hs
   ·exact hij (h.apart i j v0 v k (by rw [← hv0]; exact List.getElem?_eq_getElem hv) h1 hs hk)
 ·intro j j' v v' k h1 h2 h3 h4
  have key : ∀ (a : Nat) (va : FV), ¬ i = a → vs[a]? = some va → va.sv.ownBlock = some k → ¬ (Value.slice p' (f.steps.length + 1) c').ownBlock = some k := fun a va hia hva hk hk2 => by
   rcases hnx k hk2 with hn | hn
   ·exact hia (h.apart i a v0 va k (by rw [← hv0]; exact List.getElem?_eq_getElem hv) hva hn hk)
   ·have := (h.ownLt k (.inr ⟨va, List.mem_of_getElem? hva, hk⟩)).2
    omega
  rw [List.getElem?_set] at h1 h2
  by_cases hij : i = j
  ·subst hij
   rw [if_pos rfl, if_pos hv] at h1
   cases h1
   by_cases hij' : i = j'
   ·exact hij'
   ·rw [if_neg hij'] at h2
    exact absurd h3 (key j' v' hij' h2 h4)
  ·rw [if_neg hij] at h1
   by_cases hij' : i = j'
   ·subst hij'
    rw [if_pos rfl, if_pos hv] at h2
    cases h2
    exact absurd h4 (key j v hij h1 h3)
   ·rw [if_neg hij'] at h2
    exact h.apart j j' v v' k h1 h2 h3 h4
 ·show usedL (d.fs.set i _) ≤ d.room
  have h1 := usedL_set hi (f.take s)
  rw [hf] at h1
  have h2 := usedL_mem hi
  rw [hf] at h2
  omega
 ·intro g hg
  rcases List.mem_or_eq_of_mem_set hg with hg | hg
  ·exact h.few g hg
  ·rw [hg]; show (f.steps ++ [s]).length ≤ _; rw [List.length_append]; exact hfew
 ·intro k hk
  rcases hk with hk | ⟨v, hv', hk⟩
  ·exact .inl (.inl hk)
  ·rcases List.mem_or_eq_of_mem_set hv' with hv' | rfl
   ·exact .inl (.inr ⟨v, hv', hk⟩)
   ·rcases hnx k hk with hn | hn
    ·exact .inl (.inr ⟨v0, hmem, hn⟩)
    ·exact .inr hn
theorem infoStep : (Tryz.prog.info? 165).map (fun i => (i.zero, i.size, i.bytes)) = some (some .nilIface, 1, 16) := by kernel_rfl
theorem row_sl1 {w : World} {b : Nat} {v : Value} {t : TypeId} {fr : Nat × Nat} (h : w.heap[b]? = some (.cells #[v] t fr)) : Sl w (some ⟨b, 0, none⟩) 1 1 1 [v] :=
 ⟨rfl, by omega, by omega, fun h => (by cases h), fun a ha j u hu => by
  obtain rfl := Option.some.inj ha
  have hj : j = 0 := by have := (List.getElem?_eq_some_iff.1 hu).1; simp at this; exact this
  subst hj
  rw [add_none, cell_of_row _ _ _ _ _ _ h]
  simpa using hu⟩
set_option maxRecDepth 100000 in
set_option maxHeartbeats 1600000 in
theorem take_any {base db : Nat} {vs : List FV} {d : DD} (w : World) (h : DAt w base db vs d) (hbase : base ≤ w.heap.size) (i : Nat) (hi : i < d.fs.length) (f : FD) (hf : d.fs[i] = f) (sv : Value) (s : St) (hs : StAt w base sv s)
  (hok : s.ok f.now.length) (hu : s.units ≤ 65536) (hfew : f.steps.length + 1 ≤ 4398046511104) (hroom : usedL d.fs - f.need + (f.take s).need ≤ d.room) :
  Calls Tryz.prog 95 #[.pointer (some ⟨db, i * 4, none⟩), sv] w fun e w' => e = .returned (.tuple #[]) ∧ LeftD base db vs (setF d i (f.take s)) w w' := by
 have hv : i < vs.length := by have := h.n3; have := h.m3; omega
 have HM0 : Hid (Mid w w base db vs d i (vs[i]'hv)) := ⟨by rw [List.set_getElem_self]; exact h.row, Turns.refl _ _⟩
 have H := Lib.hid h
 have HFE := Lib.hid hf
 have hF := h.each i _ _ (List.getElem?_eq_getElem hv) (List.getElem?_eq_getElem hi)
 rw [hf] at hF
 have HF := Lib.hid hF
 have hle := usedL_mem hi
 rw [hf] at hle
 have hused := h.used
 have hroom1 := h.room1
 have HNE : Hid (f.need ≤ 65536) := by show _ ≤ _; omega
 have HNL : Hid (f.now.length ≤ 65536) := Nat.le_trans hF.ok.le HNE.out
 have HAFD := Lib.hid (after_any w.drew (h.below (below_drew1 _ _)) i hi sv s (hs.touch (Turns.of_below (S := fun _ => False) (below_drew1 _ _)) (fun _ _ _ _ h => h)) (by rw [hf]; have := HNL.out; cases s with | put b => simp only [St.size, St.units] at *; omega | cut n => simp only [St.size, St.ok] at *; omega))
 rw [hf] at HAFD
 have HS := Lib.hid hs
 have HOKS := Lib.hid hok
 have HUS := Lib.hid hu
 have HROOM := Lib.hid hroom
 have HBASE := Lib.hid hbase
 have HI := Lib.hid hi
 have HV0 : Hid (∃ v0, vs[i]'hv = v0 ∧ Mid w w base db vs d i v0 ∧ FAt w base v0 f) := ⟨_, rfl, HM0.out, hF⟩
 have HV := Lib.hid hv
 obtain ⟨v0, hv0, hm0, hf0⟩ := HV0.out
 have HVE : Hid (∀ hv : i < vs.length, vs[i]'hv = v0) := fun _ => hv0
 have HM := Lib.hid hm0
 have HFF := Lib.hid hf0
 have HND : Hid (v0.nd = f.need) := hf0.need
 obtain ⟨n1, hn1⟩ : ∃ n1, n1 = (f.take s).need := ⟨_, rfl⟩
 have HN1 := Lib.hid hn1
 have HMX1 : Hid ((if ((f.need : Nat) : Int) < ((s.size f.now.length : Nat) : Int) then ((s.size f.now.length : Nat) : Int) else ((f.need : Nat) : Int)) = (n1 : Int) ∧ (if f.need < s.size f.now.length then ((s.size f.now.length : Nat) : Int) else ((f.need : Nat) : Int)) = (n1 : Int)) := by
  have e : n1 = max f.need (s.size f.now.length) := hn1
  show _ ∧ _
  constructor <;> (split <;> omega)
 obtain ⟨z, hz⟩ : ∃ z, z = s.size f.now.length := ⟨_, rfl⟩
 rw [← hz] at HMX1 HAFD
 clear HM0 HV0 hF hm0 hf0 hle hused hroom hok hu hs h hf hv0 hn1 hz
 obtain ⟨hc0, hc1, hc2, hc3, hfz⟩ := HM.out.cells H.out.n3 HV.out
 rw [HND.out] at hc3
 have hkc : Hid (∀ w', Below w.heap.size w w' → w'.cell? ⟨db, i * 4 + 3, none⟩ = some (.int .i64 (f.need : Int))) := fun w' hb => cell_below hc3 hb
 clear hc0 hc1 hc2 hc3 hfz
 go_enter Tryz.func95, Tryz.ntmps95
 go_upto_region 0 with fail
 refine wp_region_eager_t (Below w.heap.size w) [0, 1, 2, 3, 4, 5, 6, 8, 9, 10] [(0, true), (1, true), (2, true), (3, true), (4, true), (5, true), (6, true), (7, false), (8, true), (9, true), (10, true)] [11] (by kernel_rfl) (by kernel_rfl) ?_ (eagerTOpen rfl ?_)
 ·exact below_drew1 _ _
 have hy0 : Below w.heap.size w w.drew := below_drew1 _ _
 repeat (first
  | ((first | (apply wpEagerT_take; (· rfl); (· (intro w' hb'; go_simp; try with_reducible rfl))) | refine wpEagerT_skip (by rfl) ?_); (try simp only [Act.put, zA, zB, zC]); (try refine eagerTOpen rfl ?_))
  | (apply wpEagerT_take; (· rfl); (· (intro w' hb'; have hk' := (hkc.out) w' hb'; go_split_ands; go_simp; try with_reducible rfl)); (try simp only [Act.put, zA, zB, zC]); (try refine eagerTOpen rfl ?_)))
 (refine wpEagerT_op (by rfl) (fun K hK => ?_); go_simp; (refine (HAFD.out).mono ?_; rintro e y ⟨rfl, hb9⟩; have hy1 : Below w.heap.size w y := hy0.trans hb9; clear hb9); refine Shut.out hK _ _ (by assumption) ?_; clear hK K; (try simp only [Act.put, zA, zB, zC]); (try refine eagerTOpen rfl ?_))
 obtain ⟨hmx1, hmx2⟩ := HMX1.out
 repeat ((first | (apply wpEagerT_take; (· rfl); (· (intro w' hb'; go_simp; try with_reducible rfl))) | refine wpEagerT_skip (by rfl) ?_); (try simp only [Act.put, zA, zB, zC]); (try refine eagerTOpen rfl ?_))
 refine eagerTEnd (tail1 rfl ?_)
 have HMY := Lib.hid (HM.out.below hy1)
 have HSY := Lib.hid (HS.out.touch (Turns.of_below (S := fun _ => False) hy1) (fun _ _ _ _ h => h))
 obtain ⟨hc0, hc1, hc2, hc3, hfz⟩ := HMY.out.cells H.out.n3 HV.out
 have HMZ := Lib.hid ((HMY.out.put H.out.n3 HV.out).2.2.2 n1)
 clear hy0 hy1 hmx1 hmx2
 go_wp2_with fail
 refine noPanic_end ?_
 have HS1 : Hid (StAt (y.setCell ⟨db, i * 4 + 3, none⟩ (.int .i64 (n1 : Int))) base sv s) := by
  have ht : Turns (fun k => k = db) y (y.setCell ⟨db, i * 4 + 3, none⟩ (.int .i64 (n1 : Int))) := (Turns.refl (fun k => k = db) y).setCell (p := ⟨db, i * 4 + 3, none⟩) (fun _ => rfl) _
  refine HSY.out.touch ht (fun k M fr hk e => ?_)
  subst e
  rw [HMY.out.row] at hk
  injection hk with e1
  injection e1 with _ e2
  exact absurd e2 (by decide)
 generalize y.setCell ⟨db, i * 4 + 3, none⟩ (.int .i64 (n1 : Int)) = w1 at *
 clear hc0 hc1 hc2 hc3 hfz HMY HSY HAFD HM hkc
 clear y
 go_upto_region 1 with fail
 have HBW1 : Hid (base ≤ w1.heap.size) := Nat.le_trans HBASE.out HMZ.out.turn.size
 obtain ⟨pn, cn, hnv, hbsn⟩ := HFF.out.now.bs
 have HNOW1 : Hid (Rd w1 base (.slice pn f.now.length cn) f.now) := by
  have := HFF.out.now
  rw [hnv] at this
  exact this.turn H.out HMZ.out.turn
 have hkc : Hid (∀ w', Below w1.heap.size w1 w' → w'.cell? ⟨db, i * 4 + 1, none⟩ = some (.slice pn f.now.length cn)) := fun w' hb => by
  have := ((HMZ.out.below hb).cells H.out.n3 HV.out).2.1
  rw [hnv] at this
  exact this
 clear hbsn hnv
 obtain ⟨x, hinv⟩ := inv_any HS1.out
 try simp only [Act.put, zA, zB, zC]
 rcases hinv with ⟨hx, hcu, hcd⟩ | ⟨hx, hcu, hcd⟩
 ·subst hx
  have HCU := Lib.hid hcu
  have HCD := Lib.hid hcd
  have hm1 := mPutUnits
  have hm2 := mPutDo
  have hm3 := nPutDo
  clear hcu hcd
  refine wp_region_eager_t (Below w1.heap.size w1) [0, 1, 2, 3, 4, 5, 6, 8, 9, 10, 12, 13] [(0, true), (1, true), (2, true), (3, true), (4, true), (5, true), (6, true), (8, true), (9, true), (10, true), (7, false), (11, false), (12, true), (13, true)] [14] (by kernel_rfl) (by kernel_rfl) ?_ (eagerTOpen rfl ?_)
  ·exact below_drew1 _ _
  have hy0 : Below w1.heap.size w1 w1.drew := below_drew1 _ _
  repeat (first
   | ((first | (apply wpEagerT_take; (· rfl); (· (intro w' hb'; go_simp; try with_reducible rfl))) | refine wpEagerT_skip (by rfl) ?_); (try simp only [Act.put, zA, zB, zC]); (try refine eagerTOpen rfl ?_))
   | (apply wpEagerT_take; (· rfl); (· (intro w' hb'; have hk' := (hkc.out) w' hb'; go_split_ands; go_simp; try with_reducible rfl)); (try simp only [Act.put, zA, zB, zC]); (try refine eagerTOpen rfl ?_)))
  (refine wpEagerT_op (by rfl) (fun K hK => ?_); go_simp; (refine (HCU.out _).mono ?_; rintro e y0 ⟨rfl, hb9⟩; have hy1 : Below w1.heap.size w1 y0 := hy0.trans hb9; clear hb9); refine Shut.out hK _ _ (by assumption) ?_; clear hK K; (try simp only [Act.put, zA, zB, zC]); (try refine eagerTOpen rfl ?_))
  repeat (first
   | ((first | (apply wpEagerT_take; (· rfl); (· (intro w' hb'; go_simp; try with_reducible rfl))) | refine wpEagerT_skip (by rfl) ?_); (try simp only [Act.put, zA, zB, zC]); (try refine eagerTOpen rfl ?_))
   | (apply wpEagerT_take; (· rfl); (· (intro w' hb'; have hk' := (hkc.out) w' hb'; go_split_ands; go_simp; try with_reducible rfl)); (try simp only [Act.put, zA, zB, zC]); (try refine eagerTOpen rfl ?_)))
  (refine wpEagerT_op (by rfl) (fun K hK => ?_); go_simp; (refine (HCD.out pn f.now.length cn f.now s.units (Nat.le_refl _) (fun _ => HOKS.out) (by have := HNL.out; have := HUS.out; omega) _ hy1 (Nat.le_trans HBW1.out hy1.size) (HNOW1.out.below hy1)).mono ?_; rintro e y ⟨p9, c9, rfl, hr9, hb9⟩; have HR9 := Lib.hid hr9; have hy2 : Below w1.heap.size w1 y := hy1.trans (hb9.mono hy1.size); clear hr9 hb9); refine Shut.out hK _ _ (by assumption) ?_; clear hK K; (try simp only [Act.put, zA, zB, zC]); (try refine eagerTOpen rfl ?_))
  repeat ((first | (apply wpEagerT_take; (· rfl); (· (intro w' hb'; go_simp; try with_reducible rfl))) | refine wpEagerT_skip (by rfl) ?_); (try simp only [Act.put, zA, zB, zC]); (try refine eagerTOpen rfl ?_))
  refine eagerTEnd (tail1 rfl ?_)
  have HMY := Lib.hid (HMZ.out.below hy2)
  have HSY := Lib.hid (HS1.out.touch (Turns.of_below (S := fun _ => False) hy2) (fun _ _ _ _ h => h))
  obtain ⟨hc0, hc1, hc2, hc3, hfz⟩ := HMY.out.cells H.out.n3 HV.out
  have HMW := Lib.hid ((HMY.out.put H.out.n3 HV.out).2.1 (.slice p9 (s.act f.now s.units).length c9))
  clear hy0 hy1 hy2
  go_wp2_with fail
  refine noPanic_end ?_
  have ht9 : Turns (fun k => k = db) y (y.setCell ⟨db, i * 4 + 1, none⟩ (.slice p9 (s.act f.now s.units).length c9)) := (Turns.refl (fun k => k = db) y).setCell (p := ⟨db, i * 4 + 1, none⟩) (fun _ => rfl) _
  have hid9 : ∀ k M fr, y.heap[k]? = some (.cells M 5 fr) → ¬ k = db := fun k M fr hk e => by
   subst e
   rw [HMY.out.row] at hk
   injection hk with e1
   injection e1 with _ e2
   exact absurd e2 (by decide)
  have HS2 := Lib.hid (HSY.out.touch ht9 hid9)
  have HNOW2 := Lib.hid (HR9.out.touch ht9 hid9)
  generalize y.setCell ⟨db, i * 4 + 1, none⟩ (.slice p9 (s.act f.now s.units).length c9) = w2 at *
  clear hc0 hc1 hc2 hc3 hfz HMY HSY HR9 ht9 hid9
  clear y
  have HST := Lib.hid HFF.out.steps
  obtain ⟨vals, ho, hst⟩ := HST.out
  obtain ⟨ps, cs, hsv0, hsl⟩ := own_sl ho
  have HOV := Lib.hid ho
  have HSTV := Lib.hid hst
  have HVL : Hid (vals.length = f.steps.length) := by show _ = _; have := ho.1; omega
  have HOW2 : Hid (w2.ownsRow base 165 1 v0.sv f.steps.length vals) := own_touch ho HMW.out.turn (own_ne_cells' ho H.out.row (by decide))
  rw [hsv0] at HOW2
  have HSV0 := Lib.hid hsv0
  clear ho hst hsl hsv0
  have hb2 := Below.allocs w2 (.cells #[(Value.iface 109 x)] 165)
  have HMA := Lib.hid (HMW.out.below hb2)
  have HSA := Lib.hid (HS2.out.touch (Turns.of_below (S := fun _ => False) hb2) (fun _ _ _ _ h => h))
  have HNA := Lib.hid (HNOW2.out.below hb2)
  have HOA := Lib.hid (own_touch HOW2.out (Turns.of_below (S := fun _ => False) hb2) (fun _ _ h => h))
  have HSLA : Hid (Sl (w2.alloc (.cells #[(Value.iface 109 x)] 165)) (some ⟨w2.heap.size, 0, none⟩) 1 1 1 [(Value.iface 109 x)]) := row_sl1 (heap_alloc_last _ _)
  have HBA : Hid (base ≤ (w2.alloc (.cells #[(Value.iface 109 x)] 165)).heap.size) := Nat.le_trans HBASE.out (Nat.le_trans HMW.out.turn.size hb2.size)
  obtain ⟨hc0, hc1, hc2, hc3, hfz⟩ := HMW.out.cells H.out.n3 HV.out
  rw [HSV0.out] at hc2
  clear hb2
  go_wp2_with (first
   | (refine wpList_append_nx rfl _ _ 100 rfl (base := base) Tryz.underlying100 infoStep rfl (by omega) rfl HOA.out rfl HSLA.out (fun u hu => by rw [List.mem_singleton] at hu; rw [hu]; rfl) ⟨by omega, by omega⟩ HBA.out ?_))
  intro p' c' w3 ho3 hg3 hnx3 _
  have hTg : Turns (fun k => (Value.slice ps f.steps.length cs).ownBlock = some k) (w2.alloc (.cells #[(Value.iface 109 x)] 165)) w3 := Turns.grown hg3 (S := fun k => (Value.slice ps f.steps.length cs).ownBlock = some k) (fun k hk => hk)
  have hno8 : ∀ k M fr, (w2.alloc (.cells #[(Value.iface 109 x)] 165)).heap[k]? = some (.cells M 5 fr) → ¬ (Value.slice ps f.steps.length cs).ownBlock = some k := fun k M fr hk hs => own_ne_cells' HOA.out hk (by decide) k hs rfl
  have HS3 := Lib.hid (HSA.out.touch hTg hno8)
  have HN3 := Lib.hid (HNA.out.touch hTg hno8)
  have HR3 := Lib.hid (hTg.keep HMA.out.row (fun hs => own_ne_cells' HOA.out HMA.out.row (by decide) db hs rfl))
  have HT3 : Hid (Turns (fun k => k = db ∨ v0.sv.ownBlock = some k) w w3) := (HMA.out.turn.imp (S' := fun k => k = db ∨ v0.sv.ownBlock = some k) (fun _ _ h => .inl h)).trans hTg (fun k _ hk => .inr (by rw [HSV0.out]; exact hk))
  have HX3 : Hid (∀ k, (Value.slice p' (f.steps.length + 1) c').ownBlock = some k → v0.sv.ownBlock = some k ∨ w.heap.size ≤ k) := fun k hk => by
   rcases hnx3 k hk with hn | hn
   ·exact .inl (by rw [HSV0.out]; exact hn)
   ·right
    have := HMA.out.turn.size
    have h2 : (w2.alloc (.cells #[(Value.iface 109 x)] 165)).heap.size = w2.heap.size + 1 := by simp
    have := HMW.out.turn.size
    omega
  have hc32 : w3.cell? ⟨db, i * 4 + 2, none⟩ = some v0.sv := by
   have := (HMA.out.cells H.out.n3 HV.out).2.2.1
   exact hTg.cell this (fun hs => own_ne_cells' HOA.out HMA.out.row (by decide) db hs rfl)
  have hfz3 : w3.frozen? ⟨db, i * 4 + 2, none⟩ = false := frozen_of_row _ _ _ _ _ HR3.out
  have HO3 := Lib.hid ho3
  clear ho3 hg3 hnx3 hTg hno8 hc0 hc1 hc2 hc3 hfz
  go_wp2_with fail
  go_end0
  exact ⟨rfl, take_end H.out HI.out HV.out HFE.out (HVE.out HV.out) HSTV.out HVL.out HR3.out HT3.out HN3.out HN1.out HO3.out HS3.out HX3.out HOKS.out HUS.out hfew HROOM.out⟩
 ·subst hx
  have HCU := Lib.hid hcu
  have HCD := Lib.hid hcd
  have hm1 := mCutUnits
  have hm2 := mCutDo
  have hm3 := nCutDo
  clear hcu hcd
  refine wp_region_eager_t (Below w1.heap.size w1) [0, 1, 2, 3, 4, 5, 6, 8, 9, 10, 12, 13] [(0, true), (1, true), (2, true), (3, true), (4, true), (5, true), (6, true), (8, true), (9, true), (10, true), (7, false), (11, false), (12, true), (13, true)] [14] (by kernel_rfl) (by kernel_rfl) ?_ (eagerTOpen rfl ?_)
  ·exact below_drew1 _ _
  have hy0 : Below w1.heap.size w1 w1.drew := below_drew1 _ _
  repeat (first
   | ((first | (apply wpEagerT_take; (· rfl); (· (intro w' hb'; go_simp; try with_reducible rfl))) | refine wpEagerT_skip (by rfl) ?_); (try simp only [Act.put, zA, zB, zC]); (try refine eagerTOpen rfl ?_))
   | (apply wpEagerT_take; (· rfl); (· (intro w' hb'; have hk' := (hkc.out) w' hb'; go_split_ands; go_simp; try with_reducible rfl)); (try simp only [Act.put, zA, zB, zC]); (try refine eagerTOpen rfl ?_)))
  (refine wpEagerT_op (by rfl) (fun K hK => ?_); go_simp; (refine (HCU.out _).mono ?_; rintro e y0 ⟨rfl, hb9⟩; have hy1 : Below w1.heap.size w1 y0 := hy0.trans hb9; clear hb9); refine Shut.out hK _ _ (by assumption) ?_; clear hK K; (try simp only [Act.put, zA, zB, zC]); (try refine eagerTOpen rfl ?_))
  repeat (first
   | ((first | (apply wpEagerT_take; (· rfl); (· (intro w' hb'; go_simp; try with_reducible rfl))) | refine wpEagerT_skip (by rfl) ?_); (try simp only [Act.put, zA, zB, zC]); (try refine eagerTOpen rfl ?_))
   | (apply wpEagerT_take; (· rfl); (· (intro w' hb'; have hk' := (hkc.out) w' hb'; go_split_ands; go_simp; try with_reducible rfl)); (try simp only [Act.put, zA, zB, zC]); (try refine eagerTOpen rfl ?_)))
  (refine wpEagerT_op (by rfl) (fun K hK => ?_); go_simp; (refine (HCD.out pn f.now.length cn f.now s.units (Nat.le_refl _) (fun _ => HOKS.out) (by have := HNL.out; have := HUS.out; omega) _ hy1 (Nat.le_trans HBW1.out hy1.size) (HNOW1.out.below hy1)).mono ?_; rintro e y ⟨p9, c9, rfl, hr9, hb9⟩; have HR9 := Lib.hid hr9; have hy2 : Below w1.heap.size w1 y := hy1.trans (hb9.mono hy1.size); clear hr9 hb9); refine Shut.out hK _ _ (by assumption) ?_; clear hK K; (try simp only [Act.put, zA, zB, zC]); (try refine eagerTOpen rfl ?_))
  repeat ((first | (apply wpEagerT_take; (· rfl); (· (intro w' hb'; go_simp; try with_reducible rfl))) | refine wpEagerT_skip (by rfl) ?_); (try simp only [Act.put, zA, zB, zC]); (try refine eagerTOpen rfl ?_))
  refine eagerTEnd (tail1 rfl ?_)
  have HMY := Lib.hid (HMZ.out.below hy2)
  have HSY := Lib.hid (HS1.out.touch (Turns.of_below (S := fun _ => False) hy2) (fun _ _ _ _ h => h))
  obtain ⟨hc0, hc1, hc2, hc3, hfz⟩ := HMY.out.cells H.out.n3 HV.out
  have HMW := Lib.hid ((HMY.out.put H.out.n3 HV.out).2.1 (.slice p9 (s.act f.now s.units).length c9))
  clear hy0 hy1 hy2
  go_wp2_with fail
  refine noPanic_end ?_
  have ht9 : Turns (fun k => k = db) y (y.setCell ⟨db, i * 4 + 1, none⟩ (.slice p9 (s.act f.now s.units).length c9)) := (Turns.refl (fun k => k = db) y).setCell (p := ⟨db, i * 4 + 1, none⟩) (fun _ => rfl) _
  have hid9 : ∀ k M fr, y.heap[k]? = some (.cells M 5 fr) → ¬ k = db := fun k M fr hk e => by
   subst e
   rw [HMY.out.row] at hk
   injection hk with e1
   injection e1 with _ e2
   exact absurd e2 (by decide)
  have HS2 := Lib.hid (HSY.out.touch ht9 hid9)
  have HNOW2 := Lib.hid (HR9.out.touch ht9 hid9)
  generalize y.setCell ⟨db, i * 4 + 1, none⟩ (.slice p9 (s.act f.now s.units).length c9) = w2 at *
  clear hc0 hc1 hc2 hc3 hfz HMY HSY HR9 ht9 hid9
  clear y
  have HST := Lib.hid HFF.out.steps
  obtain ⟨vals, ho, hst⟩ := HST.out
  obtain ⟨ps, cs, hsv0, hsl⟩ := own_sl ho
  have HOV := Lib.hid ho
  have HSTV := Lib.hid hst
  have HVL : Hid (vals.length = f.steps.length) := by show _ = _; have := ho.1; omega
  have HOW2 : Hid (w2.ownsRow base 165 1 v0.sv f.steps.length vals) := own_touch ho HMW.out.turn (own_ne_cells' ho H.out.row (by decide))
  rw [hsv0] at HOW2
  have HSV0 := Lib.hid hsv0
  clear ho hst hsl hsv0
  have hb2 := Below.allocs w2 (.cells #[(Value.iface 169 x)] 165)
  have HMA := Lib.hid (HMW.out.below hb2)
  have HSA := Lib.hid (HS2.out.touch (Turns.of_below (S := fun _ => False) hb2) (fun _ _ _ _ h => h))
  have HNA := Lib.hid (HNOW2.out.below hb2)
  have HOA := Lib.hid (own_touch HOW2.out (Turns.of_below (S := fun _ => False) hb2) (fun _ _ h => h))
  have HSLA : Hid (Sl (w2.alloc (.cells #[(Value.iface 169 x)] 165)) (some ⟨w2.heap.size, 0, none⟩) 1 1 1 [(Value.iface 169 x)]) := row_sl1 (heap_alloc_last _ _)
  have HBA : Hid (base ≤ (w2.alloc (.cells #[(Value.iface 169 x)] 165)).heap.size) := Nat.le_trans HBASE.out (Nat.le_trans HMW.out.turn.size hb2.size)
  obtain ⟨hc0, hc1, hc2, hc3, hfz⟩ := HMW.out.cells H.out.n3 HV.out
  rw [HSV0.out] at hc2
  clear hb2
  go_wp2_with (first
   | (refine wpList_append_nx rfl _ _ 100 rfl (base := base) Tryz.underlying100 infoStep rfl (by omega) rfl HOA.out rfl HSLA.out (fun u hu => by rw [List.mem_singleton] at hu; rw [hu]; rfl) ⟨by omega, by omega⟩ HBA.out ?_))
  intro p' c' w3 ho3 hg3 hnx3 _
  have hTg : Turns (fun k => (Value.slice ps f.steps.length cs).ownBlock = some k) (w2.alloc (.cells #[(Value.iface 169 x)] 165)) w3 := Turns.grown hg3 (S := fun k => (Value.slice ps f.steps.length cs).ownBlock = some k) (fun k hk => hk)
  have hno8 : ∀ k M fr, (w2.alloc (.cells #[(Value.iface 169 x)] 165)).heap[k]? = some (.cells M 5 fr) → ¬ (Value.slice ps f.steps.length cs).ownBlock = some k := fun k M fr hk hs => own_ne_cells' HOA.out hk (by decide) k hs rfl
  have HS3 := Lib.hid (HSA.out.touch hTg hno8)
  have HN3 := Lib.hid (HNA.out.touch hTg hno8)
  have HR3 := Lib.hid (hTg.keep HMA.out.row (fun hs => own_ne_cells' HOA.out HMA.out.row (by decide) db hs rfl))
  have HT3 : Hid (Turns (fun k => k = db ∨ v0.sv.ownBlock = some k) w w3) := (HMA.out.turn.imp (S' := fun k => k = db ∨ v0.sv.ownBlock = some k) (fun _ _ h => .inl h)).trans hTg (fun k _ hk => .inr (by rw [HSV0.out]; exact hk))
  have HX3 : Hid (∀ k, (Value.slice p' (f.steps.length + 1) c').ownBlock = some k → v0.sv.ownBlock = some k ∨ w.heap.size ≤ k) := fun k hk => by
   rcases hnx3 k hk with hn | hn
   ·exact .inl (by rw [HSV0.out]; exact hn)
   ·right
    have := HMA.out.turn.size
    have h2 : (w2.alloc (.cells #[(Value.iface 169 x)] 165)).heap.size = w2.heap.size + 1 := by simp
    have := HMW.out.turn.size
    omega
  have hc32 : w3.cell? ⟨db, i * 4 + 2, none⟩ = some v0.sv := by
   have := (HMA.out.cells H.out.n3 HV.out).2.2.1
   exact hTg.cell this (fun hs => own_ne_cells' HOA.out HMA.out.row (by decide) db hs rfl)
  have hfz3 : w3.frozen? ⟨db, i * 4 + 2, none⟩ = false := frozen_of_row _ _ _ _ _ HR3.out
  have HO3 := Lib.hid ho3
  clear ho3 hg3 hnx3 hTg hno8 hc0 hc1 hc2 hc3 hfz
  go_wp2_with fail
  go_end0
  exact ⟨rfl, take_end H.out HI.out HV.out HFE.out (HVE.out HV.out) HSTV.out HVL.out HR3.out HT3.out HN3.out HN1.out HO3.out HS3.out HX3.out HOKS.out HUS.out hfew HROOM.out⟩
end Go.Proofs.YtnejjfglkindjaaGreatDoor.Dk
namespace Go.Proofs.YtnejjfglkindjaaGreatDoor.Dk
open Go.RowKit Go.Mir
theorem LeftD.row {w w' : World} {base db : Nat} {vs : List FV} {d d' : DD} (_h : DAt w base db vs d) (hd : DAt w' base db vs d') (ht : Turns (fun k => k = db) w w') : LeftD base db vs d' w w' :=
 ⟨vs, hd, ht.imp (fun _k _ hk => .inl hk), fun _k hk => .inl hk⟩
theorem LeftD.trans {w w1 w2 : World} {base db : Nat} {vs vs1 : List FV} {d2 : DD} (h0 : ∀ k, DOwn db vs1 k → DOwn db vs k ∨ w.heap.size ≤ k) (ht : Turns (DOwn db vs) w w1) (h : LeftD base db vs1 d2 w1 w2) : LeftD base db vs d2 w w2 := by
 obtain ⟨vs2, hd, ht2, hn⟩ := h
 refine ⟨vs2, hd, ht.trans ht2 (fun k hk hs => ?_), fun k hk => ?_⟩
 ·rcases h0 k hs with h | h
  ·exact h
  ·omega
 ·rcases hn k hk with hn | hn
  ·exact h0 k hn
  ·exact .inr (Nat.le_trans ht.size hn)
def doE (d : DD) (i : Nat) (f : FD) (s : St) : Int :=
 if d.down = true then 18 else if d.room < usedL d.fs - f.need + max f.need (s.size f.now.length) then 17 else if (setF d i (f.take s)).burn.down = true then 18 else 0
def doD (d : DD) (i : Nat) (f : FD) (s : St) : DD :=
 if d.down = true then d else if d.room < usedL d.fs - f.need + max f.need (s.size f.now.length) then d else (setF d i (f.take s)).burn
theorem used_grow {base db : Nat} {vs : List FV} {d : DD} (w : World) (h : DAt w base db vs d) : Calls Tryz.prog 93 #[.pointer (some ⟨db, 0, none⟩)] w fun e w' => e = .returned (.int .i64 (usedL d.fs : Int)) ∧ Below w.heap.size w w' :=
 (used_any w h).mono fun _e _w' ⟨h1, h2⟩ => ⟨h1, h2 ▸ Below.refl _ _⟩
theorem units_fit {s : St} {d : DD} {f : FD} {n1 : Nat} (_h : n1 = max f.need (s.size f.now.length)) (hle : ¬ d.room < usedL d.fs - f.need + max f.need (s.size f.now.length)) (hr : d.room ≤ 65536) (_hu : s.units ≤ 140737488355328) : s.units ≤ 65536 := by
 cases s with
 | put b => simp only [St.size, St.units] at *; omega
 | cut n => simp only [St.units]; omega
def DoP (base db : Nat) (vs : List FV) (d : DD) (i : Nat) (f : FD) (s : St) (w : World) (e : Ending) (w' : World) : Prop := e = .returned (.int .i64 (doE d i f s)) ∧ LeftD base db vs (doD d i f s) w w'
set_option maxRecDepth 100000 in
set_option maxHeartbeats 1600000 in
theorem do_in {base db : Nat} {vs : List FV} {d : DD} (w : World) (h : DAt w base db vs d) (hbase : base ≤ w.heap.size) (i : Nat) (hi : i < d.fs.length) (f : FD) (hf : d.fs[i] = f) (sv : Value) (s : St) (hs : StAt w base sv s)
  (hok : s.ok f.now.length) (hu : s.units ≤ 140737488355328) (hfew : f.steps.length + 1 ≤ 4398046511104) :
  Calls Tryz.prog 47 #[.pointer (some ⟨db, 0, none⟩), .int .i64 (i : Int), sv] w (DoP base db vs d i f s w) := by
 have hv : i < vs.length := by have := h.n3; have := h.m3; omega
 have hi3 : i < 3 := by have := h.m3; omega
 have hF := h.each i _ _ (List.getElem?_eq_getElem hv) (List.getElem?_eq_getElem hi)
 rw [hf] at hF
 have HND : Hid ((vs[i]'hv).nd = f.need) := hF.need
 have hle := usedL_mem hi
 rw [hf] at hle
 have hused := h.used
 have hroom1 := h.room1
 have HROOM := Lib.hid hroom1.2
 have HNL : Hid (f.now.length ≤ 65536) := by have := hF.ok.le; show _ ≤ _; omega
 obtain ⟨U, hU⟩ : ∃ U, U = usedL d.fs := ⟨_, rfl⟩
 have HUE := Lib.hid hU
 rw [← hU] at hle hused
 obtain ⟨z, hz⟩ : ∃ z, z = s.size f.now.length := ⟨_, rfl⟩
 have HZE := Lib.hid hz
 have HZL : Hid (z ≤ 281474976710656) := by
  show _ ≤ _
  rw [hz]
  have := HNL.out
  cases s with
  | put b => simp only [St.size, St.units] at *; omega
  | cut n => simp only [St.size, St.ok] at *; omega
 obtain ⟨n1, hn1⟩ : ∃ n1, n1 = max f.need z := ⟨_, rfl⟩
 have HN1 := Lib.hid hn1
 have HN1M : Hid (max f.need (s.size f.now.length) = n1) := by show _ = _; rw [← hz, hn1]
 have HN1L : Hid (n1 ≤ 281474976776192) := by have := HZL.out; show _ ≤ _; omega
 have HMX1 : Hid ((if ((f.need : Nat) : Int) < ((z : Nat) : Int) then ((z : Nat) : Int) else ((f.need : Nat) : Int)) = (n1 : Int) ∧ (if f.need < z then ((z : Nat) : Int) else ((f.need : Nat) : Int)) = (n1 : Int)) := by
  show _ ∧ _
  constructor <;> (split <;> omega)
 have H := Lib.hid h
 have HFE := Lib.hid hf
 have HS := Lib.hid hs
 have HOKS := Lib.hid hok
 have HUS := Lib.hid hu
 have HFEW := Lib.hid hfew
 have HBASE := Lib.hid hbase
 have HI := Lib.hid hi
 have HFF := Lib.hid hF
 have HV := Lib.hid hv
 clear hn1 hz hU hF hf h hu hfew
 cases s with
 | put b =>
  obtain ⟨bv, rfl, hrd⟩ := hs
  obtain ⟨p, c, rfl, hbs⟩ := hrd.bs
  clear hrd hbs hok
  obtain ⟨SV, hSV⟩ : ∃ SV, SV = Value.iface 109 (.agg #[.slice p b.length c]) := ⟨_, rfl⟩
  have hta : ∀ w, (Instr.typeAssert SV 165 169 true).run Tryz.prog w = .ok (.tuple #[.agg #[.int .i64 0], .bool false]) w := fun w => by rw [hSV]; exact ta_pc _ w
  rw [← hSV] at HS ⊢
  clear hSV
  go_enter Tryz.func47, Tryz.ntmps47
  go_wp2_with fail
  refine (at_in w H.out i hi3).mono ?_
  rintro e w' ⟨rfl, rfl⟩
  have hb := Below.allocs w (.cells #[.int .i64 0] 169)
  have HB := Lib.hid hb
  have HA := Lib.hid (H.out.below hb)
  clear hb
  go_upto_region 3 with fail
  generalize w.alloc (.cells #[.int .i64 0] 169) = w1 at *
  go_wp2_with fail
  refine (none_any _ HA.out).mono ?_
  rintro e w' ⟨rfl, rfl⟩
  clear hta
  go_wp2_with fail
  refine wp_region_grow (by kernel_rfl) (by kernel_rfl) ?_
  repeat (first
   | ((with_reducible refine wpQuietGd ?_); (with_reducible refine wpQuiet_skip ?_ ?_); (· rfl); simp only [Act.put, zA, zB, zC])
   | quiet_step (fail))
  refine wpQuiet_nil ?_
  intro w2 hb2
  have HBx := Lib.hid (HB.out.trans (hb2.mono HB.out.size))
  have HAx := Lib.hid (HA.out.below hb2)
  clear hb2 HB HA w1
  have HB := HBx
  have HA := HAx
  clear HBx HAx
  generalize hst : St.put b = s at *
  clear hst
  generalize hw2 : w2 = w1 at *
  clear hw2 w2
  have HDN1 := Lib.hid (HA.out.cells.2.2.1)
  cases hdn : d.down with
  | true =>
   have hc := HDN1.out
   rw [hdn] at hc
   have HFIN : Hid (∀ w', Below w.heap.size w w' → DoP base db vs d i f s w (.returned (.int .i64 18)) w') := fun w' hb => by
    refine ⟨by unfold doE; rw [if_pos hdn], vs, ?_, Turns.of_below hb, fun k hk => .inl hk⟩
    unfold doD
    rw [if_pos hdn]
    exact H.out.below hb
   clear hdn
   go_wp2_with fail
   go_ret
   exact HFIN.out _ HB.out
  | false =>
   have HDN := Lib.hid hdn
   have hc := HDN1.out
   rw [hdn] at hc
   clear hdn
   go_upto_region 9 with fail
   have hcn := (HA.out.file i HV.out).2.2.2
   rw [HND.out] at hcn
   have hcr := HA.out.cells.1
   have hg1 := cell_grown hcn
   have hg2 := cell_grown hcr
   have HAFT : Hid (∀ y : Grown w1, Calls Tryz.prog 94 #[.pointer (some ⟨db, i * 4, none⟩), SV] y.v fun e w' => e = .returned (.int .i64 (z : Int)) ∧ Below y.v.heap.size y.v w') := fun y => by
    have := after_any y.v (HA.out.below y.b) i HI.out SV s (HS.out.touch (Turns.of_below (S := fun _ => False) (HB.out.trans (y.b.mono HB.out.size))) (fun _ _ _ _ h => h)) (by rw [HFE.out]; have := HZL.out; rw [HZE.out] at this; omega)
    rw [HFE.out, ← HZE.out] at this
    exact this
   have HUSE : Hid (∀ y : Grown w1, Calls Tryz.prog 93 #[.pointer (some ⟨db, 0, none⟩)] y.v fun e w' => e = .returned (.int .i64 (U : Int)) ∧ Below y.v.heap.size y.v w') := fun y => by
    have := used_grow y.v (HA.out.below y.b)
    rwa [← HUE.out] at this
   obtain ⟨hmx1, hmx2⟩ := HMX1.out
   have hsub : (U : Int) - (f.need : Int) = ((U - f.need : Nat) : Int) := by omega
   have hws : IntKind.i64.wrap ((U : Int) - (f.need : Int)) = ((U - f.need : Nat) : Int) := by rw [hsub]; exact IntWalk.i64_in _ (by omega)
   have hws2 : IntKind.i64.wrap ((U - f.need : Nat) : Int) = ((U - f.need : Nat) : Int) := IntWalk.i64_in _ (by omega)
   have hwa : IntKind.i64.wrap (((U - f.need : Nat) : Int) + (n1 : Int)) = ((U - f.need : Nat) : Int) + (n1 : Int) := IntWalk.i64_in _ (by have := HN1L.out; omega)
   refine wp_region_grow (by kernel_rfl) (by kernel_rfl) ?_
   repeat (first
    | ((with_reducible refine wpQuietGd ?_); (with_reducible refine wpQuiet_skip ?_ ?_); (· rfl); simp only [Act.put, zA, zB, zC])
    | quiet_step ((first | (go_at_call 94; exact Calls.grow_of (HAFT.out _)) | (go_at_call 93; exact Calls.grow_of (HUSE.out _)))))
   refine wpQuiet_nil ?_
   intro w2 hb2
   have HA2 := Lib.hid (HA.out.below hb2)
   have HB2 := Lib.hid (HB.out.trans (hb2.mono HB.out.size))
   clear hb2 hg1 hg2 hcn hcr hc HAFT HUSE hws hws2 hwa hsub hmx1 hmx2
   by_cases hbig : (d.room : Int) < ((U - f.need : Nat) : Int) + (n1 : Int)
   ·have e1 : decide ((d.room : Int) < ((U - f.need : Nat) : Int) + (n1 : Int)) = true := decide_eq_true hbig
    have e2 : decide (d.room < U - f.need + n1) = true := decide_eq_true (by omega)
    have HFIN : Hid (∀ w', Below w.heap.size w w' → DoP base db vs d i f s w (.returned (.int .i64 17)) w') := fun w' hb => by
     have hgt : d.room < usedL d.fs - f.need + max f.need (s.size f.now.length) := by
      have := HN1.out; have := HUE.out; have := HZE.out; have := HN1M.out; omega
     refine ⟨by unfold doE; rw [HDN.out, if_neg (by decide), if_pos hgt], vs, ?_, Turns.of_below hb, fun k hk => .inl hk⟩
     unfold doD
     rw [HDN.out, if_neg (by decide), if_pos hgt]
     exact H.out.below hb
    go_wp2_with fail
    go_ret
    exact HFIN.out _ HB2.out
   ·have e1 : decide ((d.room : Int) < ((U - f.need : Nat) : Int) + (n1 : Int)) = false := decide_eq_false hbig
    have e2 : decide (d.room < U - f.need + n1) = false := decide_eq_false (by omega)
    have HLE : Hid (¬ d.room < usedL d.fs - f.need + max f.need (s.size f.now.length)) := by
     have := HN1.out; have := HUE.out; have := HZE.out; have := HN1M.out; show ¬ _; omega
    have HTK := Lib.hid (take_any w2 HA2.out (Nat.le_trans HBASE.out HB2.out.size) i HI.out f HFE.out SV s (HS.out.touch (Turns.of_below (S := fun _ => False) HB2.out) (fun _ _ _ _ h => h)) HOKS.out (units_fit HN1M.out.symm HLE.out HROOM.out HUS.out) HFEW.out (by have := HLE.out; show usedL d.fs - f.need + max f.need (s.size f.now.length) ≤ d.room; omega))
    have hbig2 : ((U - f.need : Nat) : Int) + (n1 : Int) ≤ (d.room : Int) := by omega
    go_wp2_with fail
    clear hbig hbig2
    refine (HTK.out).mono ?_
    rintro e w3 ⟨rfl, vs3, hd3, ht3, hn3⟩
    have HD3 := Lib.hid hd3
    have HT3 : Hid (Turns (DOwn db vs) w w3) := (Turns.of_below HB2.out).trans ht3 (fun _ _ h => h)
    have HN3 : Hid (∀ k, DOwn db vs3 k → DOwn db vs k ∨ w.heap.size ≤ k) := fun k hk => (hn3 k hk).imp id (fun h => Nat.le_trans HB2.out.size h)
    have HBN := Lib.hid (burn_any w3 hd3)
    clear hd3 ht3 hn3 HTK
    go_wp2_with fail
    refine (HBN.out).mono ?_
    rintro e w4 ⟨rfl, hd4, ht4⟩
    have HFIN : Hid (∀ v, v = doE d i f s → DoP base db vs d i f s w (.returned (.int .i64 v)) w4) := fun v hv => by
     refine ⟨by rw [hv], ?_⟩
     have := LeftD.trans HN3.out HT3.out (LeftD.row HD3.out hd4 ht4)
     unfold doD
     rw [HDN.out, if_neg (by decide), if_neg HLE.out]
     exact this
    have HDE : Hid (doE d i f s = if (setF d i (f.take s)).burn.down = true then 18 else 0) := by show _ = _; unfold doE; rw [HDN.out, if_neg (by decide), if_neg HLE.out]
    clear hd4 ht4
    cases hbd : (setF d i (f.take s)).burn.down with
    | true =>
     have HV18 := Lib.hid (HFIN.out 18 (by rw [HDE.out, hbd]; rfl))
     clear hbd
     go_wp2_with fail
     go_ret
     exact HV18.out
    | false =>
     have HV0 := Lib.hid (HFIN.out 0 (by rw [HDE.out, hbd]; rfl))
     clear hbd
     go_wp2_with fail
     go_ret
     exact HV0.out
 | cut m =>
  cases hs
  obtain ⟨SV, hSV⟩ : ∃ SV, SV = Value.iface 169 (.agg #[.int .i64 (m : Int)]) := ⟨_, rfl⟩
  have hta : ∀ w, (Instr.typeAssert SV 165 169 true).run Tryz.prog w = .ok (.tuple #[.agg #[.int .i64 (m : Int)], .bool true]) w := fun w => by rw [hSV]; exact ta_cc _ w
  rw [← hSV] at HS ⊢
  have hmn : m ≤ f.now.length := hok
  clear hSV hok
  go_enter Tryz.func47, Tryz.ntmps47
  go_wp2_with fail
  refine (at_in w H.out i hi3).mono ?_
  rintro e w' ⟨rfl, rfl⟩
  have hb := Below.allocs w (.cells #[.int .i64 (m : Int)] 169)
  have HB := Lib.hid hb
  have HA := Lib.hid (H.out.below hb)
  have hcm : (w.alloc (.cells #[.int .i64 (m : Int)] 169)).cell? ⟨w.heap.size, 0, none⟩ = some (.int .i64 (m : Int)) := by rw [cell_of_row _ _ _ _ _ _ (heap_alloc_last _ _)]; rfl
  clear hb
  go_upto_region 3 with fail
  generalize w.alloc (.cells #[.int .i64 (m : Int)] 169) = w1 at *
  go_wp2_with fail
  refine (none_any _ HA.out).mono ?_
  rintro e w' ⟨rfl, rfl⟩
  clear hta
  obtain ⟨pn, cn, hnv, hbn⟩ := HFF.out.now.bs
  have hc1 := (HA.out.file i HV.out).2.1
  rw [hnv] at hc1
  have hg1 := cell_grown hc1
  have hg2 := cell_grown hcm
  have hm0 : decide ((m : Int) < 0) = false := decide_eq_false (by omega)
  have hm1 : decide ((f.now.length : Int) < (m : Int)) = false := decide_eq_false (by omega)
  have hm2 : decide (f.now.length < m) = false := decide_eq_false (by omega)
  clear hbn hnv
  go_upto_region 5 with fail
  refine wp_region_grow (by kernel_rfl) (by kernel_rfl) ?_
  repeat (first
   | ((with_reducible refine wpQuietGd ?_); (with_reducible refine wpQuiet_skip ?_ ?_); (· rfl); simp only [Act.put, zA, zB, zC])
   | quiet_step (fail))
  refine wpQuiet_nil ?_
  intro w2 hb2
  have HBx := Lib.hid (HB.out.trans (hb2.mono HB.out.size))
  have HAx := Lib.hid (HA.out.below hb2)
  clear hb2 HB HA hg1 hg2 hcm hc1 hm0 hm1 hm2 hmn w1
  have HB := HBx
  have HA := HAx
  clear HBx HAx
  generalize hst : St.cut m = s at *
  clear hst
  generalize hw2 : w2 = w1 at *
  clear hw2 w2
  have HDN1 := Lib.hid (HA.out.cells.2.2.1)
  cases hdn : d.down with
  | true =>
   have hc := HDN1.out
   rw [hdn] at hc
   have HFIN : Hid (∀ w', Below w.heap.size w w' → DoP base db vs d i f s w (.returned (.int .i64 18)) w') := fun w' hb => by
    refine ⟨by unfold doE; rw [if_pos hdn], vs, ?_, Turns.of_below hb, fun k hk => .inl hk⟩
    unfold doD
    rw [if_pos hdn]
    exact H.out.below hb
   clear hdn
   go_wp2_with fail
   go_ret
   exact HFIN.out _ HB.out
  | false =>
   have HDN := Lib.hid hdn
   have hc := HDN1.out
   rw [hdn] at hc
   clear hdn
   go_upto_region 9 with fail
   have hcn := (HA.out.file i HV.out).2.2.2
   rw [HND.out] at hcn
   have hcr := HA.out.cells.1
   have hg1 := cell_grown hcn
   have hg2 := cell_grown hcr
   have HAFT : Hid (∀ y : Grown w1, Calls Tryz.prog 94 #[.pointer (some ⟨db, i * 4, none⟩), SV] y.v fun e w' => e = .returned (.int .i64 (z : Int)) ∧ Below y.v.heap.size y.v w') := fun y => by
    have := after_any y.v (HA.out.below y.b) i HI.out SV s (HS.out.touch (Turns.of_below (S := fun _ => False) (HB.out.trans (y.b.mono HB.out.size))) (fun _ _ _ _ h => h)) (by rw [HFE.out]; have := HZL.out; rw [HZE.out] at this; omega)
    rw [HFE.out, ← HZE.out] at this
    exact this
   have HUSE : Hid (∀ y : Grown w1, Calls Tryz.prog 93 #[.pointer (some ⟨db, 0, none⟩)] y.v fun e w' => e = .returned (.int .i64 (U : Int)) ∧ Below y.v.heap.size y.v w') := fun y => by
    have := used_grow y.v (HA.out.below y.b)
    rwa [← HUE.out] at this
   obtain ⟨hmx1, hmx2⟩ := HMX1.out
   have hsub : (U : Int) - (f.need : Int) = ((U - f.need : Nat) : Int) := by omega
   have hws : IntKind.i64.wrap ((U : Int) - (f.need : Int)) = ((U - f.need : Nat) : Int) := by rw [hsub]; exact IntWalk.i64_in _ (by omega)
   have hws2 : IntKind.i64.wrap ((U - f.need : Nat) : Int) = ((U - f.need : Nat) : Int) := IntWalk.i64_in _ (by omega)
   have hwa : IntKind.i64.wrap (((U - f.need : Nat) : Int) + (n1 : Int)) = ((U - f.need : Nat) : Int) + (n1 : Int) := IntWalk.i64_in _ (by have := HN1L.out; omega)
   refine wp_region_grow (by kernel_rfl) (by kernel_rfl) ?_
   repeat (first
    | ((with_reducible refine wpQuietGd ?_); (with_reducible refine wpQuiet_skip ?_ ?_); (· rfl); simp only [Act.put, zA, zB, zC])
    | quiet_step ((first | (go_at_call 94; exact Calls.grow_of (HAFT.out _)) | (go_at_call 93; exact Calls.grow_of (HUSE.out _)))))
   refine wpQuiet_nil ?_
   intro w2 hb2
   have HA2 := Lib.hid (HA.out.below hb2)
   have HB2 := Lib.hid (HB.out.trans (hb2.mono HB.out.size))
   clear hb2 hg1 hg2 hcn hcr hc HAFT HUSE hws hws2 hwa hsub hmx1 hmx2
   by_cases hbig : (d.room : Int) < ((U - f.need : Nat) : Int) + (n1 : Int)
   ·have e1 : decide ((d.room : Int) < ((U - f.need : Nat) : Int) + (n1 : Int)) = true := decide_eq_true hbig
    have e2 : decide (d.room < U - f.need + n1) = true := decide_eq_true (by omega)
    have HFIN : Hid (∀ w', Below w.heap.size w w' → DoP base db vs d i f s w (.returned (.int .i64 17)) w') := fun w' hb => by
     have hgt : d.room < usedL d.fs - f.need + max f.need (s.size f.now.length) := by
      have := HN1.out; have := HUE.out; have := HZE.out; have := HN1M.out; omega
     refine ⟨by unfold doE; rw [HDN.out, if_neg (by decide), if_pos hgt], vs, ?_, Turns.of_below hb, fun k hk => .inl hk⟩
     unfold doD
     rw [HDN.out, if_neg (by decide), if_pos hgt]
     exact H.out.below hb
    go_wp2_with fail
    go_ret
    exact HFIN.out _ HB2.out
   ·have e1 : decide ((d.room : Int) < ((U - f.need : Nat) : Int) + (n1 : Int)) = false := decide_eq_false hbig
    have e2 : decide (d.room < U - f.need + n1) = false := decide_eq_false (by omega)
    have HLE : Hid (¬ d.room < usedL d.fs - f.need + max f.need (s.size f.now.length)) := by
     have := HN1.out; have := HUE.out; have := HZE.out; have := HN1M.out; show ¬ _; omega
    have HTK := Lib.hid (take_any w2 HA2.out (Nat.le_trans HBASE.out HB2.out.size) i HI.out f HFE.out SV s (HS.out.touch (Turns.of_below (S := fun _ => False) HB2.out) (fun _ _ _ _ h => h)) HOKS.out (units_fit HN1M.out.symm HLE.out HROOM.out HUS.out) HFEW.out (by have := HLE.out; show usedL d.fs - f.need + max f.need (s.size f.now.length) ≤ d.room; omega))
    have hbig2 : ((U - f.need : Nat) : Int) + (n1 : Int) ≤ (d.room : Int) := by omega
    go_wp2_with fail
    clear hbig hbig2
    refine (HTK.out).mono ?_
    rintro e w3 ⟨rfl, vs3, hd3, ht3, hn3⟩
    have HD3 := Lib.hid hd3
    have HT3 : Hid (Turns (DOwn db vs) w w3) := (Turns.of_below HB2.out).trans ht3 (fun _ _ h => h)
    have HN3 : Hid (∀ k, DOwn db vs3 k → DOwn db vs k ∨ w.heap.size ≤ k) := fun k hk => (hn3 k hk).imp id (fun h => Nat.le_trans HB2.out.size h)
    have HBN := Lib.hid (burn_any w3 hd3)
    clear hd3 ht3 hn3 HTK
    go_wp2_with fail
    refine (HBN.out).mono ?_
    rintro e w4 ⟨rfl, hd4, ht4⟩
    have HFIN : Hid (∀ v, v = doE d i f s → DoP base db vs d i f s w (.returned (.int .i64 v)) w4) := fun v hv => by
     refine ⟨by rw [hv], ?_⟩
     have := LeftD.trans HN3.out HT3.out (LeftD.row HD3.out hd4 ht4)
     unfold doD
     rw [HDN.out, if_neg (by decide), if_neg HLE.out]
     exact this
    have HDE : Hid (doE d i f s = if (setF d i (f.take s)).burn.down = true then 18 else 0) := by show _ = _; unfold doE; rw [HDN.out, if_neg (by decide), if_neg HLE.out]
    clear hd4 ht4
    cases hbd : (setF d i (f.take s)).burn.down with
    | true =>
     have HV18 := Lib.hid (HFIN.out 18 (by rw [HDE.out, hbd]; rfl))
     clear hbd
     go_wp2_with fail
     go_ret
     exact HV18.out
    | false =>
     have HV0 := Lib.hid (HFIN.out 0 (by rw [HDE.out, hbd]; rfl))
     clear hbd
     go_wp2_with fail
     go_ret
     exact HV0.out
end Go.Proofs.YtnejjfglkindjaaGreatDoor.Dk
namespace Go.Proofs.YtnejjfglkindjaaGreatDoor.Dk
open Go.RowKit Go.Mir
theorem LeftD.from {w w1 w2 : World} {base db : Nat} {vs : List FV} {d2 : DD} (hb : Below w.heap.size w w1) (h : LeftD base db vs d2 w1 w2) : LeftD base db vs d2 w w2 :=
 LeftD.trans (fun _k hk => .inl hk) (Turns.of_below hb) h
theorem wpList_build {P : Program} {w : World} {ops : Array Oper} {rest : List Oper} {o : Oper} {a : Act} {Q : Exit → Act → World → Prop} (hgd : o.guard = none) (t : TypeId) (parts : Array (Nat × Operand)) (ho : o.op = .build t parts)
  (vals : List (Nat × Value)) (hv : (parts.toList.map fun p => (p.1, a.eval p.2)) = vals) (cells : Array Value) (h : P.built t vals = some cells) (k : wpList P ops Q rest (a.put o.dst (.agg cells)) w) : wpList P ops Q (o :: rest) a w := by
 refine wpList_plain hgd fun K hK => ?_
 unfold Oper.wp execOp
 have hb : P.built t (parts.map fun p => (p.1, a.eval p.2)).toList = some cells := by rw [Array.toList_map, hv]; exact h
 simp only [ho, Sem.run_bind, Sem.run_pure, Result.andThen_ok, run_build w t _ cells hb]
 exact hK _ _ k
theorem build_put (p : Option Addr) (n c : Nat) : Tryz.prog.built 109 [(0, .slice p n c)] = some #[.slice p n c] := by kernel_rfl
theorem build_cut (n : Int) : Tryz.prog.built 169 [(0, .int .i64 n)] = some #[.int .i64 n] := by kernel_rfl
set_option maxRecDepth 100000 in
theorem append_in {base db : Nat} {vs : List FV} {d : DD} (w : World) (h : DAt w base db vs d) (hbase : base ≤ w.heap.size) (i : Nat) (hi : i < d.fs.length) (f : FD) (hf : d.fs[i] = f) (p : Option Addr) (n c : Nat) (b : List UInt8) (hb : Bs w p n c b) (hn : n ≤ 140737488355328) (hfew : f.steps.length + 1 ≤ 4398046511104) :
  Calls Tryz.prog 24 #[.pointer (some ⟨db, 0, none⟩), .int .i64 (i : Int), .slice p n c] w (DoP base db vs d i f (.put b) w) := by
 have HBS := Lib.hid hb
 have hle := hb.le
 have hmax := hb.max
 have HNL : Hid (b.length = n) := hb.length
 have H := Lib.hid h
 have HBASE := Lib.hid hbase
 have HI := Lib.hid hi
 have HFE := Lib.hid hf
 clear hb h hf
 go_enter Tryz.func24, Tryz.ntmps24
 go_wp2_with (refine wpList_append_nx rfl _ _ 22 rfl (base := w.heap.size) Tryz.underlying22 info8 rfl (by omega) rfl (World.ownsRow_nil _ _ _ _) rfl HBS.out (bytesV_one _) ⟨by omega, by omega⟩ (Nat.le_refl _) ?_)
 intro p9 c9 w9 ho9 hg9 _ _
 have hb9 : Below w.heap.size w w9 := (Below.refl _ _).grown hg9 (Nat.le_refl _) (fun k hk => by simp [Value.ownBlock] at hk)
 have HB9 := Lib.hid hb9
 have HR9 : Hid (Rd w9 base (.slice p9 n c9) b) := by
  have := ho9
  rw [← HNL.out] at this ⊢
  exact (Rd.of_own this).base HBASE.out
 have HDO := Lib.hid (do_in w9 (H.out.below hb9) (Nat.le_trans HBASE.out hb9.size) i HI.out f HFE.out (.iface 109 (.agg #[.slice p9 n c9])) (.put b) ⟨_, rfl, HR9.out⟩ trivial (by show b.length ≤ _; rw [HNL.out]; exact hn) hfew)
 clear ho9 hg9 hb9
 go_wp2_with ((with_reducible refine wpAt 11 ?_); refine wpList_build rfl 109 _ rfl [(0, .slice p9 n c9)] rfl _ (build_put _ _ _) ?_)
 refine (HDO.out).mono ?_
 rintro e w2 ⟨rfl, hl⟩
 have HL := Lib.hid (LeftD.from HB9.out hl)
 clear hl
 go_wp2_with fail
 go_ret
 exact ⟨rfl, HL.out⟩
set_option maxRecDepth 100000 in
theorem cut_in {base db : Nat} {vs : List FV} {d : DD} (w : World) (h : DAt w base db vs d) (hbase : base ≤ w.heap.size) (i : Nat) (hi : i < d.fs.length) (f : FD) (hf : d.fs[i] = f) (m : Nat) (hm : m ≤ f.now.length) (hfew : f.steps.length + 1 ≤ 4398046511104) :
  Calls Tryz.prog 87 #[.pointer (some ⟨db, 0, none⟩), .int .i64 (i : Int), .int .i64 (m : Int)] w (DoP base db vs d i f (.cut m) w) := by
 have HDO := Lib.hid (do_in w h hbase i hi f hf (.iface 169 (.agg #[.int .i64 (m : Int)])) (.cut m) rfl hm (by show 1 ≤ _; omega) hfew)
 clear h hf
 go_enter Tryz.func87, Tryz.ntmps87
 go_wp2_with ((with_reducible refine wpAt 10 ?_); refine wpList_build rfl 169 _ rfl [(0, .int .i64 (m : Int))] rfl _ (build_cut _) ?_)
 refine (HDO.out).mono ?_
 rintro e w2 ⟨rfl, hl⟩
 have HL := Lib.hid hl
 clear hl
 go_wp2_with fail
 go_ret
 exact ⟨rfl, HL.out⟩
def syncD (d : DD) (i : Nat) (f : FD) : DD := if d.down = true then d else if d.burn.down = true then d.burn else setF d.burn i (f.settle (unitsAll f.steps))
def syncE (d : DD) : Int := if d.down = true then 18 else if d.burn.down = true then 18 else 0
theorem sync_down {d : DD} (i : Nat) (f : FD) (h : d.down = true) : syncD d i f = d ∧ syncE d = 18 := by unfold syncD syncE; rw [if_pos h, if_pos h]; exact ⟨rfl, rfl⟩
theorem sync_burnt {d : DD} (i : Nat) (f : FD) (h : d.down = false) (hb : d.burn.down = true) : syncD d i f = d.burn ∧ syncE d = 18 := by
 unfold syncD syncE
 simp [h, hb]
theorem sync_ok {d : DD} (i : Nat) (f : FD) (h : d.down = false) (hb : d.burn.down = false) : syncD d i f = setF d.burn i (f.settle (unitsAll f.steps)) ∧ syncE d = 0 := by
 unfold syncD syncE
 simp [h, hb]
theorem burn_fs (d : DD) : d.burn.fs = d.fs := by unfold DD.burn; split <;> rfl
set_option maxRecDepth 100000 in
set_option maxHeartbeats 800000 in
theorem sync_in {base db : Nat} {vs : List FV} {d : DD} (w : World) (h : DAt w base db vs d) (hbase : base ≤ w.heap.size) (i : Nat) (hi : i < d.fs.length) (f : FD) (hf : d.fs[i] = f) :
  Calls Tryz.prog 79 #[.pointer (some ⟨db, 0, none⟩), .int .i64 (i : Int)] w fun e w' => e = .returned (.int .i64 (syncE d)) ∧ LeftD base db vs (syncD d i f) w w' := by
 have H := Lib.hid h
 have hi3 : i < 3 := by have := h.m3; omega
 have hc := h.cells.2.2.1
 have HI := Lib.hid hi
 have HFE := Lib.hid hf
 have HBASE := Lib.hid hbase
 clear h hf
 cases hdn : d.down with
 | true =>
  have HFIN : Hid (LeftD base db vs (syncD d i f) w w ∧ syncE d = 18) := by
   obtain ⟨e1, e2⟩ := sync_down i f hdn
   show _ ∧ _
   rw [e1]
   exact ⟨⟨vs, H.out, Turns.refl _ _, fun k hk => .inl hk⟩, e2⟩
  rw [hdn] at hc
  clear hdn
  go_enter Tryz.func79, Tryz.ntmps79
  go_wp2_with fail
  refine (at_in w H.out i hi3).mono ?_
  rintro e w' ⟨rfl, rfl⟩
  go_wp2_with fail
  refine (none_any w H.out).mono ?_
  rintro e w' ⟨rfl, rfl⟩
  go_wp2_with fail
  go_ret
  exact ⟨by rw [HFIN.out.2]; rfl, HFIN.out.1⟩
 | false =>
  have HDN := Lib.hid hdn
  rw [hdn] at hc
  clear hdn
  go_enter Tryz.func79, Tryz.ntmps79
  go_wp2_with fail
  refine (at_in w H.out i hi3).mono ?_
  rintro e w' ⟨rfl, rfl⟩
  go_wp2_with fail
  refine (none_any w H.out).mono ?_
  rintro e w' ⟨rfl, rfl⟩
  go_wp2_with fail
  refine (burn_any w H.out).mono ?_
  rintro e w1 ⟨rfl, hd1, ht1⟩
  have HD1 := Lib.hid hd1
  have HT1 := Lib.hid ht1
  clear hd1 ht1 hc
  cases hbd : d.burn.down with
  | true =>
   have HFIN : Hid (LeftD base db vs (syncD d i f) w w1 ∧ syncE d = 18) := by
    obtain ⟨e1, e2⟩ := sync_burnt i f HDN.out hbd
    show _ ∧ _
    rw [e1]
    exact ⟨LeftD.row H.out HD1.out HT1.out, e2⟩
   clear hbd
   go_wp2_with fail
   go_ret
   exact ⟨by rw [HFIN.out.2]; rfl, HFIN.out.1⟩
  | false =>
   have HBD := Lib.hid hbd
   have HI1 : Hid (i < d.burn.fs.length) := by show _ < _; rw [burn_fs]; exact HI.out
   have HF1 : Hid (d.burn.fs[i]'HI1.out = f) := by
    show _ = _
    rw [← HFE.out]
    congr 1
    exact burn_fs d
   have HU := Lib.hid (fileUnits_any w1 HD1.out i HI1.out)
   rw [HF1.out] at HU
   have HUB : Hid (unitsAll f.steps ≤ 4611686018427387904) := by
    show _ ≤ _
    have hv : i < vs.length := by have := H.out.n3; omega
    have h1 := (HD1.out.each i _ _ (List.getElem?_eq_getElem hv) (List.getElem?_eq_getElem HI1.out)).ok.un
    have h2 := HD1.out.few _ (List.getElem_mem HI1.out)
    rw [HF1.out] at h1 h2
    omega
   clear hbd
   go_wp2_with fail
   refine (HU.out).mono ?_
   rintro e w2 ⟨rfl, hb2⟩
   have HB2 := Lib.hid hb2
   have HST := Lib.hid (settle_any w2 (HD1.out.below hb2) (Nat.le_trans HBASE.out (Nat.le_trans HT1.out.size hb2.size)) i HI1.out f HF1.out (unitsAll f.steps) HUB.out)
   clear hb2 HU
   go_wp2_with fail
   refine (HST.out).mono ?_
   rintro e w3 ⟨rfl, ⟨vs3, hd3, hn3⟩, ht3⟩
   have HFIN : Hid (LeftD base db vs (syncD d i f) w w3 ∧ syncE d = 0) := by
    obtain ⟨e1, e2⟩ := sync_ok i f HDN.out HBD.out
    show _ ∧ _
    rw [e1]
    refine ⟨⟨vs3, hd3, ?_, fun k hk => ?_⟩, e2⟩
    ·exact ((HT1.out.trans (Turns.of_below (S := fun k => k = db) HB2.out) (fun _ _ h => h)).trans ht3 (fun _ _ h => h)).imp (fun k _ hk => .inl hk)
    ·rcases hk with hk | ⟨v, hv, hk⟩
     ·exact .inl (.inl hk)
     ·exact .inl (.inr (hn3 v hv k hk))
   clear hd3 ht3 hn3
   go_wp2_with fail
   go_ret
   exact ⟨by rw [HFIN.out.2]; rfl, HFIN.out.1⟩
theorem read_in {base db : Nat} {vs : List FV} {d : DD} (w : World) (h : DAt w base db vs d) (i : Nat) (hi : i < d.fs.length) :
  Calls Tryz.prog 54 #[.pointer (some ⟨db, 0, none⟩), .int .i64 (i : Int)] w (RdP w.heap.size d.fs[i].now w) := by
 have hv : i < vs.length := by have := h.n3; have := h.m3; omega
 have hi3 : i < 3 := by have := h.m3; omega
 have H := Lib.hid h
 have hc := (h.file i hv).2.1
 have hF := h.each i _ _ (List.getElem?_eq_getElem hv) (List.getElem?_eq_getElem hi)
 have hle := usedL_mem hi
 have hused := h.used
 have hroom1 := h.room1
 have hnl : d.fs[i].now.length ≤ 65536 := by have := hF.ok.le; omega
 obtain ⟨pn, cn, hnv, hbn⟩ := hF.now.bs
 rw [hnv] at hc
 generalize d.fs[i].now = l at *
 have HBN := Lib.hid hbn
 have hl1 := hbn.le
 have hl2 := hbn.max
 clear hbn hF hnv h hle hused
 go_enter Tryz.func54, Tryz.ntmps54
 go_wp2_with fail
 refine (at_in w H.out i hi3).mono ?_
 rintro e w' ⟨rfl, rfl⟩
 go_wp2_with (refine wpList_append_nx rfl _ _ 22 rfl (base := w.heap.size) Tryz.underlying22 info8 rfl (by omega) rfl (World.ownsRow_nil _ _ _ _) rfl HBN.out (bytesV_one _) ⟨by omega, by omega⟩ (Nat.le_refl _) ?_)
 intro p9 c9 w9 ho9 hg9 _ _
 have HB9 : Hid (Below w.heap.size w w9) := (Below.refl _ _).grown hg9 (Nat.le_refl _) (fun k hk => by simp [Value.ownBlock] at hk)
 have HR9 : Hid (Rd w9 w.heap.size (.slice p9 l.length c9) l) := Rd.of_own ho9
 clear ho9 hg9
 go_wp2_with fail
 go_ret
 exact ⟨p9, c9, rfl, HR9.out, HB9.out⟩
end Go.Proofs.YtnejjfglkindjaaGreatDoor.Dk
namespace Go.Proofs.YtnejjfglkindjaaGreatDoor.Dk
open Go.RowKit Go.Mir
def crU (us : List Int) (k : Nat) (f : FD) : Nat := match us[k]? with
 | some x => ((x.tmod ((unitsAll f.steps + 1 : Nat) : Int) + ((unitsAll f.steps + 1 : Nat) : Int)).tmod ((unitsAll f.steps + 1 : Nat) : Int)).toNat
 | none => 0
def crF (us : List Int) : Nat → List FD → List FD
 | _, [] => []
 | k, f :: r => f.settle (crU us k f) :: crF us (k + 1) r
def crashD (us : List Int) (d : DD) : DD := ⟨crF us 0 d.fs, d.room, 0, false⟩
def crashM (us : List Int) (d : DD) (k : Nat) : DD := ⟨crF us 0 (d.fs.take k) ++ d.fs.drop k, d.room, d.fuse, d.down⟩
theorem crashM_zero (us : List Int) (d : DD) : crashM us d 0 = d := by simp [crashM, crF]
theorem crashM_get {us : List Int} {d : DD} (h : d.fs.length = 3) (k : Nat) (hk : k < 3) (hk2 : k < (crashM us d k).fs.length) : (crashM us d k).fs[k]'hk2 = d.fs[k]'(by omega) := by
 obtain ⟨fs, room, fuse, down⟩ := d
 obtain ⟨a, b, c, rfl⟩ := list3 h
 match k, hk with
 | 0, _ => rfl
 | 1, _ => rfl
 | 2, _ => rfl
theorem crashM_step {us : List Int} {d : DD} (h : d.fs.length = 3) (k : Nat) (hk : k < 3) : setF (crashM us d k) k ((d.fs[k]'(by omega)).settle (crU us k (d.fs[k]'(by omega)))) = crashM us d (k + 1) := by
 obtain ⟨fs, room, fuse, down⟩ := d
 obtain ⟨a, b, c, rfl⟩ := list3 h
 match k, hk with
 | 0, _ => rfl
 | 1, _ => rfl
 | 2, _ => rfl
theorem crU_le {us : List Int} {k : Nat} {f : FD} : crU us k f ≤ unitsAll f.steps := by
 unfold crU
 cases us[k]? with
 | none => exact Nat.zero_le _
 | some x =>
  dsimp only
  have h0 : (0 : Int) < ((unitsAll f.steps + 1 : Nat) : Int) := by omega
  have h1 := Int.tmod_lt_of_pos (x.tmod ((unitsAll f.steps + 1 : Nat) : Int) + ((unitsAll f.steps + 1 : Nat) : Int)) h0
  omega
structure Ns (w : World) (p : Option Addr) (n c : Nat) (us : List Int) : Prop where
 sl : Sl w p n c 1 (us.map (Value.int .i64))
 count : us.length = n
 bd : ∀ x ∈ us, -9223372036854775808 ≤ x ∧ x ≤ 9223372036854775807
theorem Ns.turn {S : Nat → Prop} {w w' : World} {p : Option Addr} {n c : Nat} {us : List Int} (h : Ns w p n c us) (ht : Turns S w w') (hs : ∀ a, p = some a → ¬ S a.block) : Ns w' p n c us := ⟨h.sl.touch ht (fun a ha _ hk => hs a ha hk), h.count, h.bd⟩
set_option maxRecDepth 100000 in
set_option maxHeartbeats 1600000 in
theorem crash_any {base db : Nat} {vs : List FV} {d : DD} (w : World) (h : DAt w base db vs d) (hbase : base ≤ w.heap.size) (us : List Int) (p : Option Addr) (c : Nat) (hN : Ns w p us.length c us) (hap : ∀ a, p = some a → ¬ DOwn db vs a.block ∧ a.block < w.heap.size) :
  Calls Tryz.prog 20 #[.pointer (some ⟨db, 0, none⟩), .slice p us.length c] w fun e w' => e = .returned (.tuple #[]) ∧ LeftD base db vs (crashD us d) w w' := by
 have H := Lib.hid h
 have HBASE := Lib.hid hbase
 have HM3 := Lib.hid h.m3
 have HN := Lib.hid hN
 have HAP := Lib.hid hap
 have hle := hN.sl.le
 have hmax := hN.sl.max
 clear h hN hap
 go_enter Tryz.func20, Tryz.ntmps20
 go_wp2_with fail
 refine (none_any w H.out).mono ?_
 rintro e w' ⟨rfl, rfl⟩
 go_wp2_with fail
 go_loopw [10] (fun j wr => ∃ k : Nat, k ≤ 3 ∧ j = .int .i64 k ∧ LeftD base db vs (crashM us d k) w wr) (fun j _ => 3 - (intOf j).toNat)
 case atStart => exact ⟨0, by omega, rfl, vs, by rw [crashM_zero]; exact H.out, Turns.refl _ _, fun k hk => .inl hk⟩
 case round =>
  obtain ⟨k, hk, rfl, vs1, hd1, ht1, hn1⟩ := hrel
  have HD1 := Lib.hid hd1
  have HT1 := Lib.hid ht1
  have HN1 := Lib.hid hn1
  clear hd1 ht1 hn1
  by_cases hlt : k < 3
  ·have hd : decide ((k : Int) < 3) = true := decide_eq_true (by omega)
   have hd2 : decide (k < 3) = true := decide_eq_true (by omega)
   have hk1 : (k : Int) < 3 := by omega
   have hk0 : (0 : Int) ≤ (k : Int) := by omega
   have HKL : Hid (k < (crashM us d k).fs.length) := by show _ < _; rw [HD1.out.m3]; exact hlt
   have HFE : Hid ((crashM us d k).fs[k]'HKL.out = d.fs[k]'(by have := HM3.out; omega)) := crashM_get HM3.out k hlt HKL.out
   have HSP := Lib.hid (crashM_step (us := us) HM3.out k hlt)
   have HU := Lib.hid (fileUnits_any wr HD1.out k HKL.out)
   rw [HFE.out] at HU
   have HUB : Hid (unitsAll (d.fs[k]'(by have := HM3.out; omega)).steps ≤ 1152921504606846976) := by
    show _ ≤ _
    have hv : k < vs1.length := by have := HD1.out.n3; omega
    have h1 := (HD1.out.each k _ _ (List.getElem?_eq_getElem hv) (List.getElem?_eq_getElem HKL.out)).ok.un
    have h2 := HD1.out.few _ (List.getElem_mem HKL.out)
    rw [HFE.out] at h1 h2
    omega
   have HCU : Hid (crU us k (d.fs[k]'(by have := HM3.out; omega)) ≤ unitsAll (d.fs[k]'(by have := HM3.out; omega)).steps) := crU_le
   generalize hff : d.fs[k]'(by have := HM3.out; omega) = f at *
   clear hff
   by_cases hku : k < us.length
   ·have e0 : decide ((k : Int) < (us.length : Int)) = true := decide_eq_true (by omega)
    have e1 : decide (k < us.length) = true := decide_eq_true hku
    obtain ⟨g, o, rfl⟩ := HN.out.sl.addr (by omega) (by omega)
    have hcx : wr.cell? ⟨g, o + k, none⟩ = some (.int .i64 (us[k]'hku)) := HT1.out.cell (HN.out.sl.at (by simp [hku])) (fun hs => (HAP.out _ rfl).1 hs)
    have HXE : Hid (us[k]? = some (us[k]'hku)) := List.getElem?_eq_getElem hku
    have HXB := Lib.hid (HN.out.bd _ (List.getElem_mem hku))
    generalize us[k] = x at *
    have HCE : Hid (crU us k f = ((x.tmod ((unitsAll f.steps + 1 : Nat) : Int) + ((unitsAll f.steps + 1 : Nat) : Int)).tmod ((unitsAll f.steps + 1 : Nat) : Int)).toNat) := by show _ = _; unfold crU; rw [HXE.out]
    generalize hua : unitsAll f.steps = ua at *
    obtain ⟨A, hA⟩ : ∃ A, A = ua + 1 := ⟨_, rfl⟩
    have hA0 : 1 ≤ A := by omega
    have hAB : A ≤ 1152921504606846977 := by have := HUB.out; omega
    rw [← hA] at HCE
    have hua1 : IntKind.i64.wrap ((ua : Int) + 1) = (A : Int) := by rw [show ((ua : Int) + 1) = (A : Int) by omega]; exact IntWalk.i64_in _ (by omega)
    have hua2 : (ua : Int) + 1 = (A : Int) := by omega
    obtain ⟨r, hr⟩ : ∃ r, x.tmod (A : Int) = r := ⟨_, rfl⟩
    have hr1 : -(A : Int) < r ∧ r < (A : Int) := by
     rw [← hr]
     exact ⟨Int.lt_tmod_of_pos x (by omega), Int.tmod_lt_of_pos x (by omega)⟩
    obtain ⟨mm, hmm⟩ : ∃ mm : Nat, (r + (A : Int)).tmod (A : Int) = (mm : Int) := by
     have h1 : 0 ≤ (r + (A : Int)).tmod (A : Int) := Int.tmod_nonneg _ (by omega)
     exact ⟨((r + (A : Int)).tmod (A : Int)).toNat, by omega⟩
    have HME : Hid (mm = crU us k f) := by show _ = _; rw [HCE.out, hr, hmm]; simp
    have hmb : mm ≤ 4611686018427387904 := by have := HCU.out; have := HUB.out; have := HME.out; omega
    have hne0 : ((A : Int) == 0) = false := by rw [beq_eq_false_iff_ne]; omega
    have hne1 : ¬ (A : Int) = 0 := by omega
    have hne2 : ¬ A = 0 := by omega
    have hwr : IntKind.i64.wrap r = r := IntWalk.i64_in _ (by omega)
    have hws : IntKind.i64.wrap (r + (A : Int)) = r + (A : Int) := IntWalk.i64_in _ (by omega)
    have hwm : IntKind.i64.wrap (mm : Int) = (mm : Int) := IntWalk.i64_in _ (by omega)
    clear hA
    go_wp2_with fail
    refine (HU.out).mono ?_
    rintro e w2 ⟨rfl, hb2⟩
    have HB2 := Lib.hid hb2
    have hcx2 : w2.cell? ⟨g, o + k, none⟩ = some (.int .i64 x) := cell_below hcx hb2
    have HST := Lib.hid (settle_any w2 (HD1.out.below hb2) (Nat.le_trans HBASE.out (Nat.le_trans HT1.out.size hb2.size)) k HKL.out f HFE.out mm hmb)
    clear hb2 HU hcx
    go_wp2_with fail
    refine (HST.out).mono ?_
    rintro e w3 ⟨rfl, ⟨vs3, hd3, hn3⟩, ht3⟩
    have HL3 : Hid (LeftD base db vs (crashM us d (k + 1)) w w3) := by
     have hd3' := hd3
     have e1 : setF (crashM us d k) k (f.settle mm) = crashM us d (k + 1) := by rw [← HSP.out, HME.out]
     rw [e1] at hd3'
     refine LeftD.trans HN1.out HT1.out (LeftD.from HB2.out ⟨vs3, hd3', ht3.imp (fun k _ hk => .inl hk), fun k hk => ?_⟩)
     rcases hk with hk | ⟨v, hv, hk⟩
     ·exact .inl (.inl hk)
     ·exact .inl (.inr (hn3 v hv k hk))
    clear hd3 hn3 ht3 HST
    go_wp2_with fail
    go_roundw
    case rel => exact ⟨k + 1, by omega, by go_num, HL3.out⟩
    case measure => simp [intOf]; omega
   ·have e0 : decide ((k : Int) < (us.length : Int)) = false := decide_eq_false (by omega)
    have e1 : decide (k < us.length) = false := decide_eq_false hku
    obtain ⟨mm, hmm⟩ : ∃ mm : Nat, mm = 0 := ⟨_, rfl⟩
    have HME : Hid (mm = crU us k f) := by show _ = _; unfold crU; rw [List.getElem?_eq_none (by omega), hmm]
    have HST := Lib.hid (settle_any wr HD1.out (Nat.le_trans HBASE.out HT1.out.size) k HKL.out f HFE.out mm (by omega))
    have hm0 : (mm : Int) = 0 := by omega
    rw [hm0] at HST
    clear hm0
    go_wp2_with fail
    refine (HST.out).mono ?_
    rintro e w3 ⟨rfl, ⟨vs3, hd3, hn3⟩, ht3⟩
    have HL3 : Hid (LeftD base db vs (crashM us d (k + 1)) w w3) := by
     have hd3' := hd3
     have e1 : setF (crashM us d k) k (f.settle mm) = crashM us d (k + 1) := by rw [← HSP.out, HME.out]
     rw [e1] at hd3'
     refine LeftD.trans HN1.out HT1.out (LeftD.from (Below.refl _ _) ⟨vs3, hd3', ht3.imp (fun k _ hk => .inl hk), fun k hk => ?_⟩)
     rcases hk with hk | ⟨v, hv, hk⟩
     ·exact .inl (.inl hk)
     ·exact .inl (.inr (hn3 v hv k hk))
    clear hd3 hn3 ht3 HST
    go_wp2_with fail
    go_roundw
    case rel => exact ⟨k + 1, by omega, by go_num, HL3.out⟩
    case measure => simp [intOf]; omega
  ·have hd : decide ((k : Int) < 3) = false := decide_eq_false (by omega)
   have hd2 : decide (k < 3) = false := decide_eq_false (by omega)
   obtain rfl : k = 3 := by omega
   obtain ⟨hc0, hc1, hc2, hfz⟩ := HD1.out.cells
   have HL3 : Hid (LeftD base db vs (crashD us d) w ((wr.setCell ⟨db, 13, none⟩ (.int .i64 0)).setCell ⟨db, 14, none⟩ (.bool false))) := by
    have ht2 : Turns (fun k => k = db) wr ((wr.setCell ⟨db, 13, none⟩ (.int .i64 0)).setCell ⟨db, 14, none⟩ (.bool false)) := ((Turns.refl (fun k => k = db) wr).setCell (p := ⟨db, 13, none⟩) (fun _ => rfl) _).setCell (p := ⟨db, 14, none⟩) (fun _ => rfl) _
    obtain ⟨s1, _, _⟩ := dA_set HD1.out.n3 (crashM us d 3).room (crashM us d 3).fuse (crashM us d 3).down
    obtain ⟨_, s2, _⟩ := dA_set HD1.out.n3 (crashM us d 3).room 0 (crashM us d 3).down
    have r2 := cell_put (off := 13) (.int .i64 0) HD1.out.row
    have s1' := s1 0
    rw [show ((0 : Nat) : Int) = (0 : Int) from rfl] at s1'
    rw [s1'] at r2
    have r3 := cell_put (off := 14) (.bool false) r2
    rw [s2 false] at r3
    have hd4 := HD1.out.reRow ht2 r3 (by omega)
    have he : (⟨(crashM us d 3).fs, (crashM us d 3).room, 0, false⟩ : DD) = crashD us d := by
     have := HM3.out
     obtain ⟨fs, room, fuse, down⟩ := d
     obtain ⟨a, b, c, rfl⟩ := list3 this
     rfl
    rw [he] at hd4
    exact LeftD.trans HN1.out HT1.out (LeftD.row HD1.out hd4 ht2)
   go_wp2_with fail
   go_end0
   exact ⟨rfl, HL3.out⟩
end Go.Proofs.YtnejjfglkindjaaGreatDoor.Dk
namespace Go.Proofs.YtnejjfglkindjaaGreatDoor.Vlt
open Go.RowKit Go.Mir Go.Mir.Parts
structure VOp where
 kind : Int
 n : Int
 m : Int
 k : Int
 b : List UInt8
def vopA (o : VOp) (pb : Option Addr) (cb : Nat) : Array Value := #[.int .i64 o.kind, .int .i64 o.n, .int .i64 o.m, .int .i64 o.k, .slice pb o.b.length cb]
structure VOpAt (w : World) (cs : List Value) (o : VOp) : Prop where
 form : ∃ pb cb, cs = (vopA o pb cb).toList ∧ Bs w pb o.b.length cb o.b
 kindB : -9223372036854775808 ≤ o.kind ∧ o.kind ≤ 9223372036854775807
 nB : -9223372036854775808 ≤ o.n ∧ o.n ≤ 9223372036854775807
 mB : -9223372036854775808 ≤ o.m ∧ o.m ≤ 9223372036854775807
 kB : -9223372036854775808 ≤ o.k ∧ o.k ≤ 9223372036854775807
theorem VOpAt.below {w w' : World} {cs : List Value} {o : VOp} (h : VOpAt w cs o) (hb : Below w.heap.size w w') : VOpAt w' cs o := by
 obtain ⟨pb, cb, h1, h2⟩ := h.form
 exact ⟨⟨pb, cb, h1, h2.below hb⟩, h.kindB, h.nB, h.mB, h.kB⟩
structure VOps (w : World) (p : Option Addr) (n c : Nat) (os : List VOp) (rows : List (List Value)) : Prop where
 rs : Rs w p n c 5 rows
 count : os.length = n
 each : ∀ (i : Nat) r o, rows[i]? = some r → os[i]? = some o → VOpAt w r o
theorem VOps.below {w w' : World} {p : Option Addr} {n c : Nat} {os : List VOp} {rows : List (List Value)} (h : VOps w p n c os rows) (hb : Below w.heap.size w w') : VOps w' p n c os rows :=
 ⟨h.rs.below hb, h.count, fun i r o h1 h2 => (h.each i r o h1 h2).below hb⟩
theorem VOps.at {w : World} {b o n c : Nat} {os : List VOp} {rows : List (List Value)} (h : VOps w (some ⟨b, o, none⟩) n c os rows) (k : Nat) (hk : k < os.length) : ∃ pb cb, Bs w pb os[k].b.length cb os[k].b ∧ w.rangeAt b (o + k * 5) (vopA os[k] pb cb).toList := by
 have hkr : k < rows.length := by rw [h.rs.count, ← h.count]; exact hk
 obtain ⟨pb, cb, e, h1⟩ := (h.each k _ os[k] (List.getElem?_eq_getElem hkr) (List.getElem?_eq_getElem hk)).form
 refine ⟨pb, cb, h1, ?_⟩
 rw [← e]
 exact h.rs.row k hkr
theorem vopA_cell {w : World} {b : Nat} {o : VOp} {pb : Option Addr} {cb : Nat} {t : TypeId} {fr : Nat × Nat} (h : w.heap[b]? = some (.cells (vopA o pb cb) t fr)) :
  w.cell? ⟨b, 0, none⟩ = some (.int .i64 o.kind) ∧ w.cell? ⟨b, 1, none⟩ = some (.int .i64 o.n) ∧ w.cell? ⟨b, 2, none⟩ = some (.int .i64 o.m) ∧ w.cell? ⟨b, 3, none⟩ = some (.int .i64 o.k) ∧ w.cell? ⟨b, 4, none⟩ = some (.slice pb o.b.length cb) := by
 refine ⟨?_, ?_, ?_, ?_, ?_⟩ <;> (rw [cell_of_row _ _ _ _ _ _ h]; rfl)
theorem vopA_one (o : VOp) (pb : Option Addr) (cb : Nat) : (vopA o pb cb).all (·.oneCell') = true := by
 unfold vopA
 simp [Value.oneCell']
theorem infoVOp (n : Nat) (h : n = 5) : (Tryz.prog.info? 54).map (·.size) = some n := by subst h; kernel_rfl
theorem zVOp : ∃ Z : Array Value, (∀ w0, (zeroValue 54).run Tryz.prog w0 = .ok (.agg Z) w0) ∧ Z.size = 5 := ⟨#[.int .i64 0, .int .i64 0, .int .i64 0, .int .i64 0, .slice none 0 0], fun w0 => by kernel_rfl, by kernel_rfl⟩
def bsum : List VOp → Nat
 | [] => 0
 | o :: r => o.b.length + bsum r
theorem bsum_take_succ : ∀ (l : List VOp) (k : Nat) (h : k < l.length), bsum (l.take (k + 1)) = bsum (l.take k) + (l[k]).b.length
 | o :: r, 0, _ => by simp [bsum]
 | o :: r, k + 1, h => by
  have := bsum_take_succ r k (by simpa using h)
  simp only [List.take_succ_cons, bsum, List.getElem_cons_succ, this]; omega
theorem bsum_take_le : ∀ (l : List VOp) (k : Nat), bsum (l.take k) ≤ bsum l
 | [], _ => by simp [bsum]
 | o :: r, 0 => by simp [bsum]
 | o :: r, k + 1 => by
  have := bsum_take_le r k
  simp only [List.take_succ_cons, bsum]; omega
set_option maxRecDepth 100000 in
set_option maxHeartbeats 1600000 in
theorem small22_any (os : List VOp) (p : Option Addr) (c : Nat) (rows : List (List Value)) (w : World) (h : VOps w p os.length c os rows) (hbl : os.length + bsum os ≤ 4611686018427387904) :
  Calls Tryz.prog 15 #[.slice p os.length c] w fun e w' => e = .returned (.bool (decide (os.length + bsum os ≤ 1000))) ∧ Below w.heap.size w w' := by
 obtain ⟨Z, hz, hZ⟩ := zVOp
 have HZZ := Lib.hid hZ
 have H := Lib.hid h
 have HBL := Lib.hid hbl
 have hle := h.rs.sl.le
 have hmax := h.rs.sl.max
 clear h hZ hbl
 go_enter Tryz.func15, Tryz.ntmps15
 go_wp2_with fail
 go_loopw [3, 5, 10] (fun a _ j wr => ∃ k : Nat, k ≤ os.length ∧ j = .int .i64 k ∧ a = .int .i64 ((os.length + bsum (os.take k) : Nat) : Int) ∧ Below w.heap.size w wr) (fun _ _ j _ => os.length - (intOf j).toNat)
 case atStart => exact ⟨0, by omega, rfl, by simp [bsum], Below.refl _ _⟩
 case round =>
  obtain ⟨k, hk, rfl, rfl, hb0⟩ := hrel
  have HB0 := Lib.hid hb0
  clear hb0
  by_cases hlt : k < os.length
  ·have hd : decide ((k : Int) < (os.length : Int)) = true := decide_eq_true (by omega)
   have hd2 : decide (k < os.length) = true := decide_eq_true hlt
   obtain ⟨b, o, rfl⟩ := H.out.rs.sl.addr (by omega) (by omega)
   obtain ⟨pb, cb, hbs, hrg⟩ := H.out.at k hlt
   have HRG := Lib.hid (range_below hrg HB0.out)
   have hts := bsum_take_succ os k hlt
   have hx1 := bsum_take_le os (k + 1)
   have hx2 := HBL.out
   have HTS := Lib.hid hts
   generalize hoo : os[k] = oo at *
   have HOB : Hid (os[k].b.length = oo.b.length) := by show _ = _; rw [hoo]
   clear hoo
   generalize hS : bsum (os.take k) = SS at *
   have hw1 : IntKind.i64.wrap (((os.length + SS : Nat) : Int) + (oo.b.length : Int)) = ((os.length + bsum (os.take (k + 1)) : Nat) : Int) := by rw [IntWalk.i64_in _ (by omega)]; omega
   have hw2 : IntKind.i64.wrap (((os.length : Int) + (SS : Int)) + (oo.b.length : Int)) = ((os.length + bsum (os.take (k + 1)) : Nat) : Int) := by rw [IntWalk.i64_in _ (by omega)]; omega
   have HSS : Hid (bsum (os.take k) = SS) := hS
   clear hts hx1 hx2 hbs hrg hS
   generalize bsum (os.take (k + 1)) = S2 at *
   obtain ⟨A, hA⟩ : ∃ A, A = vopA oo pb cb := ⟨_, rfl⟩
   have HOS : Hid (A.size = 5) := by show _ = _; rw [hA]; rfl
   have HOO : Hid (A.all (·.oneCell') = true) := by show _ = _; rw [hA]; exact vopA_one _ _ _
   have HOL : Hid (A.toList.length = 5) := by show _ = _; rw [Array.length_toList]; exact HOS.out
   have HNW := Lib.hid (box_new wr Z 54)
   have hbr := box_row wr Z A 54
   have HBB := Lib.hid (box_below wr Z A 54)
   have HB3 := Lib.hid (HB0.out.trans (HBB.out.mono HB0.out.size))
   rw [hA] at hbr
   obtain ⟨_, _, _, _, hc4⟩ := vopA_cell hbr
   rw [← hA] at hc4 HRG
   clear hbr hA
   go_wp2_with (first
    | ((with_reducible refine wpAt 13 ?_); refine wpList_load_mid rfl 54 _ rfl b (o + k * 5) rfl A.toList _ HRG.out Tryz.underlying54 rfl (infoVOp _ HOL.out) ?_)
    | ((with_reducible refine wpStoreAt 5 ?_); refine wpList_store_row rfl 54 _ _ rfl wr.heap.size A rfl rfl 54 Z HNW.out (infoVOp _ HOS.out) (HZZ.out.trans HOS.out.symm) HOO.out ?_))
   go_roundw
   case rel => exact ⟨k + 1, by omega, by go_num, by rw [bsum_take_succ os k hlt, HSS.out, HOB.out]; first | rfl | (refine congrArg (Value.int IntKind.i64) ?_; have e1 := HTS.out; omega), HB3.out⟩
   case measure => simp [intOf]; omega
  ·have hd : decide ((k : Int) < (os.length : Int)) = false := decide_eq_false (by omega)
   have hd2 : decide (k < os.length) = false := decide_eq_false hlt
   obtain rfl : k = os.length := by omega
   rw [List.take_length]
   have hq : decide (((os.length + bsum os : Nat) : Int) ≤ 1000) = decide (os.length + bsum os ≤ 1000) := by rw [decide_eq_decide]; omega
   have hq2 : decide ((os.length : Int) + (bsum os : Int) ≤ 1000) = decide (os.length + bsum os ≤ 1000) := by rw [decide_eq_decide]; omega
   go_wp2_with fail
   go_ret
   exact ⟨by first | rfl | simp [hq, hq2], HB0.out⟩
end Go.Proofs.YtnejjfglkindjaaGreatDoor.Vlt
namespace Go.Proofs.YtnejjfglkindjaaGreatDoor.bulks
open Go.Mir
theorem one_le {H : Type} (d : DataW H) : 1 ≤ Rows.uptoBulk d := by
 cases d with
 | lit l => cases l <;> simp [Rows.uptoBulk]
 | nil => simp [Rows.uptoBulk]
 | ptr d => simp [Rows.uptoBulk]
 | slice elems spare => simp [Rows.uptoBulk]
 | agg parts => simp [Rows.uptoBulk]
 | iface t d => simp [Rows.uptoBulk]
 | map entries => simp [Rows.uptoBulk]
 | held h => simp [Rows.uptoBulk]
theorem bulkAll_cons {H : Type} (d : DataW H) (r : List (DataW H)) : Rows.uptoBulkAll (d :: r) = Rows.uptoBulk d + Rows.uptoBulkAll r := by simp only [Rows.uptoBulkAll]
theorem bulkAll_nil {H : Type} : Rows.uptoBulkAll ([] : List (DataW H)) = 0 := by simp only [Rows.uptoBulkAll]
theorem length_le {H : Type} (l : List (DataW H)) : l.length ≤ Rows.uptoBulkAll l := by
 induction l with
 | nil => simp [Rows.uptoBulkAll]
 | cons x r ih => have := one_le x; simp only [Rows.uptoBulkAll, List.length_cons]; omega
theorem slice_eq {H : Type} (elems spare : List (DataW H)) : Rows.uptoBulk (.slice elems spare) = Rows.uptoBulkAll elems + Rows.uptoBulkAll spare + 1 := by
 simp only [Rows.uptoBulk]
theorem agg_eq {H : Type} (ds : List (DataW H)) : Rows.uptoBulk (.agg ds) = Rows.uptoBulkAll ds + 1 := by
 simp only [Rows.uptoBulk]
theorem dlen_le {H : Type} (d : DataW H) : dlen d + 1 ≤ Rows.uptoBulk d := by
 cases d with
 | slice elems spare => have := length_le elems; rw [slice_eq]; simp only [dlen]; omega
 | _ => exact one_le _
theorem bound {H : Type} {l : List (DataW H)} (hk : Rows.uptoSmall H l = true) : Rows.uptoBulkAll l ≤ 1048576 := of_decide_eq_true hk
end Go.Proofs.YtnejjfglkindjaaGreatDoor.bulks
namespace Go.Proofs.YtnejjfglkindjaaGreatDoor.Vlt
open Go.ChangeShapes Go.WideShapes Go.ChangeAt Go.RowKit Go.Mir
theorem split5 {cs : List Value} (h : cs.length = 5) : cs = (cs.drop 0).take 1 ++ (cs.drop 1).take 1 ++ (cs.drop 2).take 1 ++ (cs.drop 3).take 1 ++ (cs.drop 4).take 1 := by
 match cs, h with
 | [a, b, c, d, e], _ => rfl
set_option maxRecDepth 100000 in
theorem trod_vop {W : World} {H : Type} {enc : TypeId × Value → H} {base fuel : Nat} {held : Bool} {cs : List Value} {x : DataW H × List MemPlace}
  (h : DataW.trod enc Tryz.prog W base (fun _ => true) held fuel 54 cs = some x) :
  ∃ o : VOp, VOpAt W cs o ∧ ∃ d0 d1 d2 d3 d4, x.1 = .agg [d0, d1, d2, d3, d4] ∧ dlen d4 = o.b.length := by
 obtain ⟨xs, m, rfl, rfl, hl, hxl, hx⟩ := DataW.trod_struct Tryz.underlying54 h
 have hl' : cs.length = 5 := by rw [hl]; kernel_rfl
 have hxl' : xs.length = 5 := by rw [hxl]; rfl
 match xs, hxl' with
 | [x0, x1, x2, x3, x4], _ =>
  have h0 := hx 0 _ rfl
  have h1 := hx 1 _ rfl
  have h2 := hx 2 _ rfl
  have h3 := hx 3 _ rfl
  have h4 := hx 4 _ rfl
  obtain ⟨z0, e0, _, w0⟩ := DataW.trod_int Tryz.underlying3 h0
  obtain ⟨z1, e1, _, w1⟩ := DataW.trod_int Tryz.underlying3 h1
  obtain ⟨z2, e2, _, w2⟩ := DataW.trod_int Tryz.underlying3 h2
  obtain ⟨z3, e3, _, w3⟩ := DataW.trod_int Tryz.underlying3 h3
  obtain ⟨p4, n4, c4, l4, e4, b4, dl4⟩ := trod_bs Tryz.underlying22 Tryz.underlying5 (by kernel_rfl) h4
  obtain rfl := b4.length
  refine ⟨⟨z0, z1, z2, z3, l4⟩, ⟨⟨p4, c4, ?_, b4⟩, i64_bd w0, i64_bd w1, i64_bd w2, i64_bd w3⟩, x0.1, x1.1, x2.1, x3.1, x4.1, rfl, dl4⟩
  have hs := split5 hl'
  have e0' : (cs.drop 0).take 1 = [.int .i64 z0] := e0
  have e1' : (cs.drop 1).take 1 = [.int .i64 z1] := e1
  have e2' : (cs.drop 2).take 1 = [.int .i64 z2] := e2
  have e3' : (cs.drop 3).take 1 = [.int .i64 z3] := e3
  have e4' : (cs.drop 4).take 1 = [.slice p4 l4.length c4] := e4
  rw [e0', e1', e2', e3', e4'] at hs
  rw [hs]
  rfl
def VopR (W : World) {H : Type} (o : VOp) (cs : List Value) (d : DataW H) : Prop := VOpAt W cs o ∧ ∃ d0 d1 d2 d3 d4, d = .agg [d0, d1, d2, d3, d4] ∧ dlen d4 = o.b.length
theorem vbulk_le {H : Type} (W : World) : ∀ (L : List (List Value × VOp)) (elems : List (DataW H)), elems.length = L.length → (∀ i (h1 : i < elems.length) (h2 : i < L.length), VopR W L[i].2 L[i].1 elems[i]) → L.length + bsum (L.map (·.2)) ≤ Rows.uptoBulkAll elems
 | [], elems, _, _ => by simp [bsum]
 | x :: L, [], h, _ => by simp at h
 | x :: L, d :: elems, h, hR => by
  obtain ⟨_, d0, d1, d2, d3, d4, hd, h3⟩ := hR 0 (by simp) (by simp)
  have ih := vbulk_le W L elems (by simpa using h) (fun i h1 h2 => hR (i + 1) (by simpa using h1) (by simpa using h2))
  have hd' : d = .agg [d0, d1, d2, d3, d4] := hd
  have h3' : dlen d4 = x.2.b.length := h3
  have b3 := bulks.dlen_le d4
  have b0 := bulks.one_le d0
  rw [bulks.bulkAll_cons, hd', bulks.agg_eq, List.length_cons]
  simp only [bulks.bulkAll_cons, bulks.bulkAll_nil, List.map_cons, bsum]
  omega
set_option maxRecDepth 100000 in
theorem trod_vops {W : World} {H : Type} {enc : TypeId × Value → H} {base fuel : Nat} {held : Bool} {cs : List Value} {x : DataW H × List MemPlace}
  (h : DataW.trod enc Tryz.prog W base (fun _ => true) held fuel 42 cs = some x) :
  ∃ p c os rows, cs = [.slice p os.length c] ∧ VOps W p os.length c os rows ∧ os.length + bsum os ≤ Rows.uptoBulk x.1 := by
 obtain ⟨p, n, c, L, hcs, hr, hdl, hL⟩ := trod_rows (size := 5) (R := fun (o : VOp) cs' d => VopR W o cs' d) Tryz.underlying42 (by kernel_rfl) (by omega) (fun m cs' y hy => by
  obtain ⟨o, ho, x0, x1, x2, x3, x4, hy1, hy2⟩ := trod_vop hy
  exact ⟨o, ho, x0, x1, x2, x3, x4, hy1, hy2⟩) h
 have hc : (L.map (·.2)).length = n := by
  have := hr.count
  simpa using this
 refine ⟨p, c, L.map (·.2), L.map (·.1), by rw [hc]; exact hcs, ⟨by rw [hc]; exact hr, rfl, fun i r o h1 h2 => ?_⟩, ?_⟩
 ·simp only [List.getElem?_map, Option.map_eq_some_iff] at h1 h2
  obtain ⟨x1, hx1, rfl⟩ := h1
  obtain ⟨x2, hx2, rfl⟩ := h2
  rw [hx1] at hx2
  cases hx2
  have hlt := (List.getElem?_eq_some_iff.1 hx1).1
  rcases hL with ⟨_, hL⟩ | ⟨elems, spare, hd, hlen, hall⟩
  ·subst hL; simp at hlt
  ·have := hall i (by omega) hlt
   rw [List.getElem?_eq_getElem hlt] at hx1
   cases hx1
   exact this.1
 ·rcases hL with ⟨_, hL⟩ | ⟨elems, spare, hd, hlen, hall⟩
  ·subst hL; simp [bsum]
  ·have h1 := vbulk_le W L elems hlen hall
   rw [hd, bulks.slice_eq, List.length_map]
   omega
end Go.Proofs.YtnejjfglkindjaaGreatDoor.Vlt
namespace Go.Proofs.YtnejjfglkindjaaGreatDoor.Vlt
open Go.ChangeShapes Go.WideShapes Go.ChangeAt Go.RowKit Go.Mir
theorem vsplit2 {cs : List Value} (h : cs.length = 2) : cs = (cs.drop 0).take 1 ++ (cs.drop 1).take 1 := by
 match cs, h with
 | [a, b], _ => rfl
def caseA22 (room : Int) (p : Option Addr) (n c : Nat) : Array Value := #[.int .i64 room, .slice p n c]
set_option maxRecDepth 100000 in
theorem open_case22 {W : World} {H : Type} {enc : TypeId × Value → H} {base : Nat} {v : Value} {d : DataW H} {ps : List MemPlace} (hval : Value.okWide Tryz.prog W .any base 82 v) (h : DataW.Trod enc Tryz.prog W 0 (fun _ => true) true 82 v d ps) :
  ∃ room p c os rows, v = .agg (caseA22 room p os.length c) ∧ (-9223372036854775808 ≤ room ∧ room ≤ 9223372036854775807) ∧ VOps W p os.length c os rows ∧ os.length + bsum os ≤ Rows.uptoBulk d := by
 obtain ⟨cs, rfl, hcs⟩ := okWide_struct Tryz.underlying82 hval
 obtain ⟨fuel, hf⟩ := h
 have hf' : DataW.trod enc Tryz.prog W 0 (fun _ => true) true fuel 82 cs.toList = some (d, ps) := hf
 obtain ⟨xs, m, rfl, hd, hl, hxl, hx⟩ := DataW.trod_struct Tryz.underlying82 hf'
 have hl' : cs.toList.length = 2 := by rw [hl]; kernel_rfl
 have hxl' : xs.length = 2 := by rw [hxl]; rfl
 match xs, hxl' with
 | [x0, x1], _ =>
  have h0 := hx 0 _ rfl
  have h1 := hx 1 _ rfl
  obtain ⟨z0, e0, _, w0⟩ := DataW.trod_int Tryz.underlying3 h0
  obtain ⟨p, c, os, rows, e1, hO, hb1⟩ := trod_vops h1
  have hs := vsplit2 hl'
  have e0' : (cs.toList.drop 0).take 1 = [.int .i64 z0] := e0
  have e1' : (cs.toList.drop 1).take 1 = [.slice p os.length c] := e1
  rw [e0', e1'] at hs
  have hd' : d = .agg [x0.1, x1.1] := by
   have := congrArg Prod.fst hd
   exact this
  refine ⟨z0, p, c, os, rows, ?_, i64_bd w0, hO, ?_⟩
  ·have : cs = [Value.int .i64 z0, Value.slice p os.length c].toArray := by rw [← Array.toArray_toList (xs := cs), hs]; rfl
   rw [this]; rfl
  ·rw [hd', bulks.agg_eq]
   simp only [bulks.bulkAll_cons, bulks.bulkAll_nil]
   omega
end Go.Proofs.YtnejjfglkindjaaGreatDoor.Vlt
namespace Go.Proofs.YtnejjfglkindjaaGreatDoor.Dk
open Go.RowKit Go.Mir
set_option maxRecDepth 100000 in
theorem kept_in {base db : Nat} {vs : List FV} {d : DD} (w : World) (h : DAt w base db vs d) (i : Nat) (hi : i < d.fs.length) :
  Calls Tryz.prog 56 #[.pointer (some ⟨db, 0, none⟩), .int .i64 (i : Int)] w (RdP w.heap.size d.fs[i].kept w) := by
 have hv : i < vs.length := by have := h.n3; have := h.m3; omega
 have hi3 : i < 3 := by have := h.m3; omega
 have H := Lib.hid h
 have hc := (h.file i hv).1
 have hF := h.each i _ _ (List.getElem?_eq_getElem hv) (List.getElem?_eq_getElem hi)
 have hle := usedL_mem hi
 have hused := h.used
 have hroom1 := h.room1
 have hnl : d.fs[i].kept.length ≤ 65536 := by
  have := hF.ok.all 0
  rw [someU_zero] at this
  omega
 obtain ⟨pn, cn, hnv, hbn⟩ := hF.kept.bs
 rw [hnv] at hc
 generalize d.fs[i].kept = l at *
 have HBN := Lib.hid hbn
 have hl1 := hbn.le
 have hl2 := hbn.max
 clear hbn hF hnv h hle hused
 go_enter Tryz.func56, Tryz.ntmps56
 go_wp2_with fail
 refine (at_in w H.out i hi3).mono ?_
 rintro e w' ⟨rfl, rfl⟩
 go_wp2_with (refine wpList_append_nx rfl _ _ 22 rfl (base := w.heap.size) Tryz.underlying22 info8 rfl (by omega) rfl (World.ownsRow_nil _ _ _ _) rfl HBN.out (bytesV_one _) ⟨by omega, by omega⟩ (Nat.le_refl _) ?_)
 intro p9 c9 w9 ho9 hg9 _ _
 have HB9 : Hid (Below w.heap.size w w9) := (Below.refl _ _).grown hg9 (Nat.le_refl _) (fun k hk => by simp [Value.ownBlock] at hk)
 have HR9 : Hid (Rd w9 w.heap.size (.slice p9 l.length c9) l) := Rd.of_own ho9
 clear ho9 hg9
 go_wp2_with fail
 go_ret
 exact ⟨p9, c9, rfl, HR9.out, HB9.out⟩
set_option maxRecDepth 100000 in
theorem size_in {base db : Nat} {vs : List FV} {d : DD} (w : World) (h : DAt w base db vs d) (i : Nat) (hi : i < d.fs.length) :
  Calls Tryz.prog 58 #[.pointer (some ⟨db, 0, none⟩), .int .i64 (i : Int)] w fun e w' => e = .returned (.int .i64 (d.fs[i].now.length : Int)) ∧ Below w.heap.size w w' := by
 have HR := Lib.hid (read_in w h i hi)
 clear h
 go_enter Tryz.func58, Tryz.ntmps58
 go_wp2_with fail
 refine (HR.out).mono ?_
 rintro e w2 ⟨p, c, rfl, _, hb⟩
 have HB := Lib.hid hb
 clear hb HR
 go_wp2_with fail
 go_ret
 exact ⟨rfl, HB.out⟩
set_option maxRecDepth 100000 in
theorem units_in {base db : Nat} {vs : List FV} {d : DD} (w : World) (h : DAt w base db vs d) (i : Nat) (hi : i < d.fs.length) :
  Calls Tryz.prog 90 #[.pointer (some ⟨db, 0, none⟩), .int .i64 (i : Int)] w fun e w' => e = .returned (.int .i64 (unitsAll d.fs[i].steps : Int)) ∧ Below w.heap.size w w' := by
 have hi3 : i < 3 := by have := h.m3; omega
 have H := Lib.hid h
 have HU := Lib.hid (fileUnits_any w h i hi)
 clear h
 go_enter Tryz.func90, Tryz.ntmps90
 go_wp2_with fail
 refine (at_in w H.out i hi3).mono ?_
 rintro e w' ⟨rfl, rfl⟩
 go_wp2_with fail
 refine (HU.out).mono ?_
 rintro e w2 ⟨rfl, hb⟩
 have HB := Lib.hid hb
 clear hb HU
 go_wp2_with fail
 go_ret
 exact ⟨rfl, HB.out⟩
end Go.Proofs.YtnejjfglkindjaaGreatDoor.Dk
namespace Go.Proofs.YtnejjfglkindjaaGreatDoor.Dk
open Go.RowKit Go.Mir Go.Mir.Parts
def CloneI (base nb B : Nat) (vs : List FV) (d : DD) (w : World) (k : Nat) (wr : World) : Prop :=
 ∃ vsr, DAt wr base nb vsr d ∧ Below B w wr ∧ ∀ (j : Nat) v, vsr[j]? = some v → (j < k → ∀ b, v.sv.ownBlock = some b → B ≤ b) ∧ (k ≤ j → vs[j]? = some v)
def CloneP (base : Nat) (d : DD) (w : World) (e : Ending) (w' : World) : Prop := ∃ nb vs', e = .returned (.pointer (some ⟨nb, 0, none⟩)) ∧ DAt w' base nb vs' d ∧ Below w.heap.size w w' ∧ ∀ k, DOwn nb vs' k → w.heap.size ≤ k
theorem CloneI.done {base nb : Nat} {vs : List FV} {d : DD} {w wr : World} (h : CloneI base nb w.heap.size vs d w 3 wr) (hnb : w.heap.size ≤ nb) : CloneP base d w (.returned (.pointer (some ⟨nb, 0, none⟩))) wr := by
 obtain ⟨vsr, hd, hb, hf⟩ := h
 refine ⟨nb, vsr, rfl, hd, hb, fun k hk => ?_⟩
 rcases hk with rfl | ⟨v, hv, hk⟩
 ·exact hnb
 ·obtain ⟨i, hi⟩ := List.mem_iff_getElem?.1 hv
  have hlt : i < 3 := by rw [← hd.n3]; exact (List.getElem?_eq_some_iff.1 hi).1
  exact (hf i v hi).1 hlt k hk
theorem CloneI.step {base nb B : Nat} {vs vsr : List FV} {d : DD} {w wr w' : World} {k : Nat} {v' : FV} (hd : DAt w' base nb (vsr.set k v') d) (hb : Below B w wr) (ht : Turns (fun k => k = nb) wr w') (hnb : B ≤ nb) (hB : B ≤ wr.heap.size)
  (hf : ∀ (j : Nat) v, vsr[j]? = some v → (j < k → ∀ b, v.sv.ownBlock = some b → B ≤ b) ∧ (k ≤ j → vs[j]? = some v)) (hk : k < vsr.length) (hfr : ∀ b, v'.sv.ownBlock = some b → wr.heap.size ≤ b) : CloneI base nb B vs d w (k + 1) w' := by
 refine ⟨_, hd, hb.trans (ht.below hB (fun i hi => by rw [hi]; exact hnb)), fun j v hj => ?_⟩
 rw [List.getElem?_set] at hj
 by_cases hkj : k = j
 ·subst hkj
  rw [if_pos rfl, if_pos hk] at hj
  cases hj
  exact ⟨fun _ b hb => Nat.le_trans hB (hfr b hb), fun h => by omega⟩
 ·rw [if_neg hkj] at hj
  exact ⟨fun h => (hf j v hj).1 (by omega), fun h => (hf j v hj).2 (by omega)⟩
end Go.Proofs.YtnejjfglkindjaaGreatDoor.Dk
namespace Go.Proofs.YtnejjfglkindjaaGreatDoor.Dk
open Go.RowKit Go.Mir Go.Mir.Parts
theorem LeftD.same {w w' : World} {base db : Nat} {vs : List FV} {d : DD} (h : DAt w base db vs d) (hb : Below w.heap.size w w') : LeftD base db vs d w w' := ⟨vs, h.below hb, Turns.of_below hb, fun _ hk => .inl hk⟩
end Go.Proofs.YtnejjfglkindjaaGreatDoor.Dk
namespace Go.Proofs.YtnejjfglkindjaaGreatDoor.Dk
open Go.RowKit Go.Mir Go.Mir.Parts
structure DOp where
 kind : Int
 file : Int
 n : Int
 b : List UInt8
 us : List Int
def dopA (o : DOp) (pb : Option Addr) (cb : Nat) (pu : Option Addr) (cu : Nat) : Array Value := #[.int .i64 o.kind, .int .i64 o.file, .int .i64 o.n, .slice pb o.b.length cb, .slice pu o.us.length cu]
structure DOpAt (w : World) (cs : List Value) (o : DOp) : Prop where
 form : ∃ pb cb pu cu, cs = (dopA o pb cb pu cu).toList ∧ Bs w pb o.b.length cb o.b ∧ Ns w pu o.us.length cu o.us
 kindB : -9223372036854775808 ≤ o.kind ∧ o.kind ≤ 9223372036854775807
 fileB : -9223372036854775808 ≤ o.file ∧ o.file ≤ 9223372036854775807
 nB : -9223372036854775808 ≤ o.n ∧ o.n ≤ 9223372036854775807
theorem Ns.below {w w' : World} {p : Option Addr} {n c : Nat} {us : List Int} (h : Ns w p n c us) (hb : Below w.heap.size w w') : Ns w' p n c us := ⟨h.sl.below hb, h.count, h.bd⟩
theorem DOpAt.below {w w' : World} {cs : List Value} {o : DOp} (h : DOpAt w cs o) (hb : Below w.heap.size w w') : DOpAt w' cs o := by
 obtain ⟨pb, cb, pu, cu, h1, h2, h3⟩ := h.form
 exact ⟨⟨pb, cb, pu, cu, h1, h2.below hb, h3.below hb⟩, h.kindB, h.fileB, h.nB⟩
structure DOps (w : World) (p : Option Addr) (n c : Nat) (os : List DOp) (rows : List (List Value)) : Prop where
 rs : Rs w p n c 5 rows
 count : os.length = n
 each : ∀ (i : Nat) r o, rows[i]? = some r → os[i]? = some o → DOpAt w r o
theorem DOps.below {w w' : World} {p : Option Addr} {n c : Nat} {os : List DOp} {rows : List (List Value)} (h : DOps w p n c os rows) (hb : Below w.heap.size w w') : DOps w' p n c os rows :=
 ⟨h.rs.below hb, h.count, fun i r o h1 h2 => (h.each i r o h1 h2).below hb⟩
theorem DOps.at {w : World} {b o n c : Nat} {os : List DOp} {rows : List (List Value)} (h : DOps w (some ⟨b, o, none⟩) n c os rows) (k : Nat) (hk : k < os.length) : ∃ pb cb pu cu, Bs w pb os[k].b.length cb os[k].b ∧ Ns w pu os[k].us.length cu os[k].us ∧ w.rangeAt b (o + k * 5) (dopA os[k] pb cb pu cu).toList := by
 have hkr : k < rows.length := by rw [h.rs.count, ← h.count]; exact hk
 obtain ⟨pb, cb, pu, cu, e, h1, h2⟩ := (h.each k _ os[k] (List.getElem?_eq_getElem hkr) (List.getElem?_eq_getElem hk)).form
 refine ⟨pb, cb, pu, cu, h1, h2, ?_⟩
 rw [← e]
 exact h.rs.row k hkr
end Go.Proofs.YtnejjfglkindjaaGreatDoor.Dk
namespace Go.Proofs.YtnejjfglkindjaaGreatDoor.Dk
open Go.RowKit Go.Mir Go.Mir.Parts
def FewD (d : DD) (N : Nat) : Prop := ∀ f ∈ d.fs, f.steps.length ≤ N
theorem FewD.mono {d : DD} {N M : Nat} (h : FewD d N) (hm : N ≤ M) : FewD d M := fun f hf => Nat.le_trans (h f hf) hm
theorem FewD.set {d : DD} {N i : Nat} {f : FD} (h : FewD d N) (hf : f.steps.length ≤ N) : FewD (setF d i f) N := fun g hg => by
 rcases List.mem_or_eq_of_mem_set hg with hg | hg
 ·exact h g hg
 ·rw [hg]; exact hf
theorem FewD.burn {d : DD} {N : Nat} (h : FewD d N) : FewD d.burn N := fun g hg => h g (by rw [burn_fs] at hg; exact hg)
theorem FewD.doD {d : DD} {N i : Nat} {f : FD} {s : St} (h : FewD d N) (hf : f.steps.length ≤ N) : FewD (doD d i f s) (N + 1) := by
 unfold Dk.doD
 split
 ·exact h.mono (by omega)
 ·split
  ·exact h.mono (by omega)
  ·refine FewD.burn (FewD.set (h.mono (by omega)) ?_)
   show (f.steps ++ [s]).length ≤ _
   rw [List.length_append]
   simp; omega
theorem FewD.syncD {d : DD} {N i : Nat} {f : FD} (h : FewD d N) : FewD (syncD d i f) N := by
 unfold Dk.syncD
 split
 ·exact h
 ·split
  ·exact h.burn
  ·exact FewD.set h.burn (Nat.zero_le _)
theorem crF_few (us : List Int) : ∀ (l : List FD) (k : Nat), ∀ f ∈ crF us k l, f.steps.length = 0
 | [], k, f, hf => by simp [crF] at hf
 | g :: r, k, f, hf => by
  rw [crF, List.mem_cons] at hf
  rcases hf with rfl | hf
  ·rfl
  ·exact crF_few us r (k + 1) f hf
theorem Ns.lt {w : World} {p : Option Addr} {n c : Nat} {us : List Int} (h : Ns w p n c us) : ∀ a, p = some a → 0 < us.length → a.block < w.heap.size := fun a ha h0 => by
 subst ha
 have := h.sl.cell a rfl 0 (.int .i64 us[0]) (by simp [h0])
 exact block_lt_of_cell this
end Go.Proofs.YtnejjfglkindjaaGreatDoor.Dk
namespace Go.Proofs.YtnejjfglkindjaaGreatDoor.Dk
open Go.RowKit Go.Mir
theorem ns_lit (w : World) (t : TypeId) (us : List Int) (hl : us.length ≤ 65536) (hb : ∀ x ∈ us, -9223372036854775808 ≤ x ∧ x ≤ 9223372036854775807) : Ns (w.alloc (.cells (us.map (Value.int .i64)).toArray t)) (some ⟨w.heap.size, 0, none⟩) us.length us.length us :=
 ⟨⟨by rw [List.length_map, Nat.mul_one], Nat.le_refl _, by omega, fun h => (by cases h), fun a ha j u hu => by
  obtain rfl := Option.some.inj ha
  rw [add_none, Nat.zero_add, cell_of_row _ _ _ _ _ _ (heap_alloc_last _ _), ← Array.getElem?_toList]
  exact hu⟩, rfl, hb⟩
theorem Bs.upto {w : World} {p : Option Addr} {n c : Nat} {l : List UInt8} (h : Bs w p n c l) (k : Nat) (hk : k ≤ n) : Bs w p k c (l.take k) := by
 have hn := h.length
 refine ⟨by rw [bytesV_length, List.length_take, Nat.mul_one]; omega, Nat.le_trans hk h.le, h.max, fun hp => ?_, fun a ha j u hu => ?_⟩
 ·exact h.nil0 hp
 ·have h1 : (bytesV l)[j]? = some u := by
   simp only [bytesV, List.getElem?_map, List.getElem?_take] at hu ⊢
   split at hu
   ·exact hu
   ·simp at hu
  exact h.cell a ha j u h1
end Go.Proofs.YtnejjfglkindjaaGreatDoor.Dk
namespace Go.Proofs.YtnejjfglkindjaaGreatDoor.Wr
open Go.RowKit Go.Mir Go.Mir.Parts
theorem infoB : (Tryz.prog.info? 5).map (fun i => (i.zero, i.size, i.bytes)) = some (some (.int .u8 0), 1, 1) := by kernel_rfl
structure WAt (w : World) (wb : Nat) (v : Value) (room : Nat) (l : List UInt8) (bad : Int) : Prop where
 blk : w.heap[wb]? = some (.cells #[.bool true, .int .i64 (room : Int), v, .int .i64 bad] 205 (0, 0))
 own : w.ownsRow 0 5 1 v l.length (bytesV l)
 sep : v.ownBlock ≠ some wb
 fits : l.length ≤ room
 roomy : room ≤ 9223372036854775807
def foot (wb : Nat) (v : Value) (k : Nat) : Prop := k = wb ∨ v.ownBlock = some k
theorem WAt.touch {S : Nat → Prop} {w w' : World} {wb : Nat} {v : Value} {room : Nat} {l : List UInt8} {bad : Int} (h : WAt w wb v room l bad) (ht : Turns S w w') (hS : ∀ k, foot wb v k → ¬ S k) : WAt w' wb v room l bad :=
 ⟨ht.keep h.blk (hS _ (.inl rfl)), own_touch h.own ht (fun k hk => hS k (.inr hk)), h.sep, h.fits, h.roomy⟩
theorem WAt.drew {w : World} {wb : Nat} {v : Value} {room : Nat} {l : List UInt8} {bad : Int} (h : WAt w wb v room l bad) : WAt w.drew wb v room l bad := ⟨h.blk, h.own, h.sep, h.fits, h.roomy⟩
theorem WAt.lt {w : World} {wb : Nat} {v : Value} {room : Nat} {l : List UInt8} {bad : Int} (h : WAt w wb v room l bad) : ∀ k, foot wb v k → k < w.heap.size := by
 intro k hk
 rcases hk with rfl | hk
 ·exact (Array.getElem?_eq_some_iff.1 h.blk).1
 ·exact (h.own.lt k hk).2
theorem WAt.cells {w : World} {wb : Nat} {v : Value} {room : Nat} {l : List UInt8} {bad : Int} (h : WAt w wb v room l bad) :
  w.cell? ⟨wb, 0, none⟩ = some (.bool true) ∧ w.cell? ⟨wb, 1, none⟩ = some (.int .i64 (room : Int)) ∧ w.cell? ⟨wb, 2, none⟩ = some v ∧ w.cell? ⟨wb, 3, none⟩ = some (.int .i64 bad) ∧ w.frozen? ⟨wb, 2, none⟩ = false ∧ w.frozen? ⟨wb, 3, none⟩ = false := by
 refine ⟨?_, ?_, ?_, ?_, frozen_of_row _ _ _ _ _ h.blk, frozen_of_row _ _ _ _ _ h.blk⟩ <;> (rw [cell_of_row _ _ _ _ _ _ h.blk]; rfl)
theorem none_made (wb : Nat) (w : World) (hc : w.cell? ⟨wb, 0, none⟩ = some (.bool true)) :
  Calls Tryz.prog 128 #[.pointer (some ⟨wb, 0, none⟩)] w fun e w' => e = .returned (.bool false) ∧ w = w' := by
 go_enter Tryz.func128, Tryz.ntmps128
 go_wp2
 go_ret
 exact ⟨rfl, rfl⟩
theorem fail_any (wb : Nat) (v : Value) (room : Nat) (l : List UInt8) (bad e0 : Int) (w : World) (h : WAt w wb v room l bad) :
  Calls Tryz.prog 129 #[.pointer (some ⟨wb, 0, none⟩), .int .i64 e0] w fun e w' => e = .returned (.tuple #[]) ∧ WAt w' wb v room l (if bad = 0 then e0 else bad) ∧ Turns (foot wb v) w w' := by
 obtain ⟨c0, c1, c2, c3, f2, f3⟩ := h.cells
 have HW := Lib.hid h
 by_cases hb : bad = 0
 ·subst hb
  go_enter Tryz.func129, Tryz.ntmps129
  go_wp2_with (go_at_call 128; refine (none_made _ _ c0).mono ?_; rintro e w' ⟨rfl, rfl⟩)
  go_end0
  refine ⟨rfl, ?_, (Turns.refl _ _).setCell (fun _ => .inl rfl) _⟩
  try rw [if_pos rfl]
  exact ⟨by rw [heap_setCell_same _ _ _ _ _ _ HW.out.blk]; rfl, own_touch HW.out.own ((Turns.refl (fun k => k = wb) _).setCell (fun _ => rfl) _) (fun k hk e => HW.out.sep (by rw [hk, e])), HW.out.sep, HW.out.fits, HW.out.roomy⟩
 ·have hb' : (bad == 0) = false := by simp [hb]
  go_enter Tryz.func129, Tryz.ntmps129
  go_wp2_with (go_at_call 128; refine (none_made _ _ c0).mono ?_; rintro e w' ⟨rfl, rfl⟩)
  go_end0
  try rw [if_neg hb]
  exact ⟨rfl, HW.out, Turns.refl _ _⟩
def putS (room : Nat) (l : List UInt8) (bad : Int) (fits : Bool) (ps : List (List UInt8)) : List UInt8 × Int :=
 if bad = 0 then (if fits then (if total ps ≤ room - l.length then (l ++ ps.flatten, 0) else (l, 3)) else (l, 1)) else (l, bad)
def Left (wb : Nat) (v : Value) (room : Nat) (r : List UInt8 × Int) (w w' : World) : Prop :=
 ∃ v', WAt w' wb v' room r.1 r.2 ∧ Turns (foot wb v) w w' ∧ NextV w v v'
set_option maxRecDepth 100000 in
set_option maxHeartbeats 400000 in
theorem put_sum (p : Option Addr) (n c : Nat) (ls : List (List UInt8)) (wb : Nat) (v : Value) (room : Nat) (l : List UInt8) (fits : Bool) (w : World) (h : WAt w wb v room l 0)
  (hP : ∀ w', Turns (foot wb v) w w' → Pts w' p n c ls) (hs : total ls ≤ 70368744177664) (hl : l.length ≤ 70368744177664) :
  Calls Tryz.prog 118 #[.pointer (some ⟨wb, 0, none⟩), .bool fits, .slice p n c] w fun e w' => e = .returned (.tuple #[]) ∧ Left wb v room (putS room l 0 fits ls) w w' := by
 obtain ⟨pv, cv, hv, hsv⟩ := own_sl h.own
 subst hv
 have hvle := hsv.le
 have hvmax := hsv.max
 clear hsv
 obtain ⟨c0, c1, c2, c3, f2, f3⟩ := h.cells
 have hroom := h.roomy
 have hfit := h.fits
 have HW := Lib.hid h
 have hp := hP w (Turns.refl _ _)
 have hle := hp.le
 have hmax := hp.max
 have hn := hp.len
 have HP := Lib.hid hp
 have HPP := Lib.hid hP
 clear h hp hP
 go_enter Tryz.func118, Tryz.ntmps118
 go_wp2_with (go_at_call 128; refine (none_made _ _ c0).mono ?_; rintro e w' ⟨rfl, rfl⟩)
 go_loop [6, 23] (fun x j => ∃ k : Nat, k ≤ n ∧ j = .int .i64 k ∧ x = .int .i64 ((total (ls.take k) : Nat) : Int)) (fun _ j => n - (intOf j).toNat)
 case atStart => exact ⟨0, by omega, rfl, rfl⟩
 case round =>
  obtain ⟨k, hk, rfl, rfl⟩ := hrel
  have htl := total_le ls k
  by_cases hlt : k < n
  ·obtain ⟨b, o, rfl⟩ := HP.out.addr (by omega)
   obtain ⟨q, m, d, hc, hB⟩ := HP.out.cell _ rfl k (by omega)
   rw [add_none] at hc
   have htk := total_take ls k (by omega)
   have htl' := total_le ls (k + 1)
   rw [hB.length] at htk
   have HTK := Lib.hid htk
   have hsum : total (ls.take k) + m ≤ 4611686018427387904 := by omega
   clear htk htl' hB
   generalize hT : total (ls.take k) = T at *
   have HT := Lib.hid hT
   clear hT
   go_wp2
   go_round
   case rel => exact ⟨k + 1, by omega, by go_num, by rw [HTK.out]; go_num⟩
   case measure => simp [intOf]; omega
  ·have hk' : k = ls.length := by omega
   rw [hk', List.take_length]
   generalize hT : total ls = T at *
   have HT := Lib.hid hT
   clear hT htl
   cases fits with
   | false =>
    go_wp2_with fail
    refine (fail_any wb _ room l 0 1 _ HW.out).mono ?_
    rintro e w1 ⟨rfl, hw1, ht1⟩
    have HW1 := Lib.hid hw1
    have HT1 := Lib.hid ht1
    clear hw1 ht1
    go_wp2_with fail
    refine bodyPost_ret (results_none rfl _ _ _) rfl ?_
    exact ⟨rfl, _, HW1.out, HT1.out, fun _ hk _ => hk⟩
   | true =>
    by_cases hT2 : T ≤ room - l.length
    ·have hcmp : decide ((room : Int) - (l.length : Int) < (T : Int)) = false := by simp; omega
     have hput : Hid (putS room l 0 true ls = (l ++ ls.flatten, 0)) := by show _ = _; simp [putS, HT.out, hT2]
     have htot : l.length + T ≤ 140737488355328 ∧ l.length + T ≤ room := by omega
     go_wp2_with fail
     go_quiet (fail)
     go_wp2_with fail
     have HW2 : Hid (WAt (w.drewN nq) wb (.slice pv l.length cv) room l 0) := ⟨HW.out.blk, HW.out.own, HW.out.sep, HW.out.fits, HW.out.roomy⟩
     have HT2 : Hid (Turns (foot wb (.slice pv l.length cv)) w (w.drewN nq)) := ⟨rfl, rfl, rfl, Nat.le_refl _, fun _ _ _ => rfl⟩
     clear c0 c1 c2 c3 f2 f3
     generalize w.drewN nq = w2 at *
     go_loopw [53] (fun j wr => ∃ (k : Nat) (p1 : Option Addr) (n1 c1 : Nat), k ≤ n ∧ j = .int .i64 k ∧ WAt wr wb (.slice p1 n1 c1) room (l ++ (ls.take k).flatten) 0 ∧ Turns (foot wb (.slice pv l.length cv)) w wr ∧ NextV w (.slice pv l.length cv) (.slice p1 n1 c1)) (fun j _ => n - (intOf j).toNat)
     case atStart => exact ⟨0, pv, l.length, cv, by omega, rfl, by simpa using HW2.out, HT2.out, fun _ hk _ => hk⟩
     case round =>
      obtain ⟨k, p1, n1, c1, hk, rfl, hw1, ht1, hnx1⟩ := hrel
      by_cases hlt : k < n
      ·obtain ⟨e0, e1, e2, e3, g2, g3⟩ := hw1.cells
       obtain ⟨b, o, rfl⟩ := HP.out.addr (by omega)
       obtain ⟨q, m, d, hc, hB⟩ := (HPP.out wr ht1).cell _ rfl k (by omega)
       rw [add_none] at hc
       have hlen : (l ++ (ls.take k).flatten).length = l.length + total (ls.take k) := by rw [List.length_append, total_flatten]
       have htk := total_take ls k (by omega)
       have htl' := total_le ls (k + 1)
       rw [hB.length] at htk
       rw [HT.out] at htl'
       have hfl : Hid (l ++ (ls.take (k+1)).flatten = (l ++ (ls.take k).flatten) ++ ls[k]) := by
        show _ = _
        rw [take_snoc ls k (by omega), List.flatten_append]; simp
       have hbd : Hid ((l ++ (ls.take k).flatten).length + m ≤ 9223372036854775807 ∧ ((l ++ (ls.take k).flatten).length + m) * 1 ≤ 140737488355328) := by
        show _ ∧ _
        rw [hlen]; omega
       have hfit' : Hid ((l ++ (ls.take (k+1)).flatten).length ≤ room) := by
        show _ ≤ _
        rw [List.length_append, total_flatten]; omega
       have HBm := Lib.hid hB.length
       have HS := Lib.hid hB
       have hleq : (l ++ (ls.take k).flatten).length + m = (l ++ (ls.take (k+1)).flatten).length := by rw [hfl.out, ← hB.length]; exact List.length_append.symm
       clear hlen htk htl' hB
       generalize l ++ (ls.take k).flatten = L at *
       generalize hL' : l ++ (ls.take (k+1)).flatten = L' at *
       have HL' := Lib.hid hL'
       have HLQ := Lib.hid hleq
       have HW1 := Lib.hid hw1
       have HT1 := Lib.hid ht1
       have HN1 := Lib.hid hnx1
       clear hw1 ht1 hnx1 hL' hleq
       go_wp2_with (at_builtin; refine wpList_append_nx rfl _ _ 22 rfl (base := 0) Tryz.underlying22 infoB rfl (by omega) rfl HW1.out.own rfl HS.out (bytesV_one _) hbd.out (Nat.zero_le _) ?_)
       intro p' c' w3 hown hg hnx hne
       have e2' : w3.cell? ⟨wb, 2, none⟩ = some (.slice p1 n1 c1) := hg.cell e2 (fun e => HW1.out.sep e.symm)
       have g2' : w3.frozen? ⟨wb, 2, none⟩ = false := by
        rw [World.frozen?_of_block (hg.block wb (Array.getElem?_eq_some_iff.1 HW1.out.blk).1 (fun e => HW1.out.sep e.symm))]; exact g2
       have HO := Lib.hid hown
       have HG := Lib.hid hg
       have HNX := Lib.hid hnx
       clear hown hg hnx hne
       go_wp2_with fail
       go_roundw
       case rel =>
        have hlt1 : wb < wr.heap.size := (Array.getElem?_eq_some_iff.1 HW1.out.blk).1
        have hb3 : w3.heap[wb]? = some (.cells #[.bool true, .int .i64 (room : Int), .slice p1 n1 c1, .int .i64 0] 205 (0, 0)) := by
         rw [HG.out.block wb hlt1 (fun e => HW1.out.sep e.symm)]; exact HW1.out.blk
        have hsep : ¬ (Value.slice p' (L.length + m) c').ownBlock = some wb := by
         intro e
         rcases HNX.out wb e with h | h
         ·exact HW1.out.sep h
         ·omega
        refine ⟨k + 1, p', L.length + m, c', by omega, by go_num, ?_, ?_, ?_⟩
        rw [HL'.out]
        refine ⟨?_, ?_, hsep, hfit'.out, hroom⟩
        ·rw [heap_setCell_same _ _ _ _ _ _ hb3]; rfl
        ·have := own_touch HO.out ((Turns.refl (fun k => k = wb) _).setCell (p := ⟨wb, 2, none⟩) (fun _ => rfl) (.slice p' (L.length + m) c')) (fun k hk e => hsep (by rw [hk, e]))
         rw [hfl.out, bytesV_append, ← hfl.out, ← HLQ.out]
         exact this
        ·refine HT1.out.trans ((Turns.grown (S := foot wb (.slice p1 n1 c1)) HG.out (fun k hk => .inr hk)).setCell (fun _ => .inl rfl) _) ?_
         intro i hi hfi
         rcases hfi with rfl | hfi
         ·exact .inl rfl
         ·exact .inr (HN1.out i hfi hi)
        ·intro j hj hjl
         rcases HNX.out j hj with h | h
         ·exact HN1.out j h hjl
         ·have := HT1.out.size; omega
       case measure => simp [intOf]; omega
      ·have hk' : k = ls.length := by omega
       rw [hk', List.take_length] at hw1
       have HW1 := Lib.hid hw1
       have HT1 := Lib.hid ht1
       have HN1 := Lib.hid hnx1
       clear hw1 ht1 hnx1
       go_wp2_with fail
       go_end0
       exact ⟨rfl, _, by rw [hput.out]; exact HW1.out, HT1.out, HN1.out⟩
    ·have hcmp : decide ((room : Int) - (l.length : Int) < (T : Int)) = true := by simp; omega
     have hput : Hid (putS room l 0 true ls = (l, 3)) := by show _ = _; simp [putS, HT.out, hT2]
     go_wp2_with fail
     go_quiet (fail)
     go_wp2_with fail
     have HW2 : Hid (WAt (w.drewN nq) wb (.slice pv l.length cv) room l 0) := ⟨HW.out.blk, HW.out.own, HW.out.sep, HW.out.fits, HW.out.roomy⟩
     have HT2 : Hid (Turns (foot wb (.slice pv l.length cv)) w (w.drewN nq)) := ⟨rfl, rfl, rfl, Nat.le_refl _, fun _ _ _ => rfl⟩
     refine (fail_any wb _ room l 0 3 _ HW2.out).mono ?_
     rintro e w1 ⟨rfl, hw1, ht1⟩
     have HW1 := Lib.hid hw1
     have HT1 : Hid (Turns (foot wb (.slice pv l.length cv)) w w1) := HT2.out.trans ht1 (fun _ _ h => h)
     clear hw1 ht1
     go_wp2_with fail
     refine bodyPost_ret (results_none rfl _ _ _) rfl ?_
     exact ⟨rfl, _, by rw [hput.out]; exact HW1.out, HT1.out, fun _ hk _ => hk⟩
end Go.Proofs.YtnejjfglkindjaaGreatDoor.Wr
namespace Go.Proofs.YtnejjfglkindjaaGreatDoor.Wr
open Go.RowKit Go.Mir Go.Mir.Parts
theorem Left.refl {w : World} {wb : Nat} {v : Value} {room : Nat} {l : List UInt8} {bad : Int} (h : WAt w wb v room l bad) : Left wb v room (l, bad) w w := ⟨v, h, Turns.refl _ _, fun _ hk _ => hk⟩
theorem put_any (p : Option Addr) (n c : Nat) (ls : List (List UInt8)) (wb : Nat) (v : Value) (room : Nat) (l : List UInt8) (bad : Int) (fits : Bool) (w : World) (h : WAt w wb v room l bad)
  (hP : ∀ w', Turns (foot wb v) w w' → Pts w' p n c ls) (hs : total ls ≤ 70368744177664) (hl : l.length ≤ 70368744177664) :
  Calls Tryz.prog 118 #[.pointer (some ⟨wb, 0, none⟩), .bool fits, .slice p n c] w fun e w' => e = .returned (.tuple #[]) ∧ Left wb v room (putS room l bad fits ls) w w' := by
 by_cases hb : bad = 0
 ·subst hb
  exact put_sum p n c ls wb v room l fits w h hP hs hl
 ·obtain ⟨c0, c1, c2, c3, f2, f3⟩ := h.cells
  have hb' : (bad != 0) = true := by simp [hb]
  have HL : Hid (Left wb v room (putS room l bad fits ls) w w) := by
   show Left _ _ _ _ _ _
   rw [putS, if_neg hb]; exact Left.refl h
  clear h hP
  go_enter Tryz.func118, Tryz.ntmps118
  go_wp2_with (go_at_call 128; refine (none_made _ _ c0).mono ?_; rintro e w' ⟨rfl, rfl⟩)
  refine bodyPost_ret (results_none rfl _ _ _) rfl ?_
  exact ⟨rfl, HL.out⟩
theorem stable1 {w : World} {S : Nat → Prop} {p : Option Addr} {n c b : Nat} {l : List UInt8} (hB : ∀ w', Turns S w w' → Bs w' p n c l) (hS : ∀ k, S k → k < w.heap.size) (t : TypeId) (hb : b = w.heap.size) :
  ∀ w', Turns S (w.alloc (.cells #[.slice p n c] t)) w' → Pts w' (some ⟨b, 0, none⟩) 1 1 [l] := by
 intro w' ht
 subst hb
 have hT : Turns S w w' := ((Turns.refl S w).alloc _).trans ht (fun _ _ h => h)
 have hrow : w'.heap[w.heap.size]? = some (.cells #[.slice p n c] t) := ht.keep (heap_alloc_last _ _) (fun h => by have := hS _ h; omega)
 refine ⟨rfl, Nat.le_refl _, by omega, fun h => (by cases h), fun a ha j hj => ?_⟩
 obtain rfl := Option.some.inj ha
 obtain rfl : j = 0 := by simp at hj; omega
 exact ⟨p, n, c, by rw [add_none, cell_of_row _ _ _ _ _ _ hrow]; rfl, hB w' hT⟩
theorem Left.alloc {w : World} {wb : Nat} {v : Value} {room : Nat} {r : List UInt8 × Int} {o : Obj} {w' : World} (h : Left wb v room r (w.alloc o) w') : Left wb v room r w w' := by
 obtain ⟨v', h1, h2, h3⟩ := h
 exact ⟨v', h1, ((Turns.refl _ w).alloc o).trans h2 (fun _ _ h => h), fun k hk hlt => h3 k hk (by simp; omega)⟩
theorem WAt.alloc {w : World} {wb : Nat} {v : Value} {room : Nat} {l : List UInt8} {bad : Int} (h : WAt w wb v room l bad) (o : Obj) : WAt (w.alloc o) wb v room l bad :=
 h.touch (S := fun _ => False) ((Turns.refl _ w).alloc o) (fun _ _ h => h)
theorem bytes_any (p : Option Addr) (n c : Nat) (b : List UInt8) (wb : Nat) (v : Value) (room : Nat) (l : List UInt8) (bad : Int) (w : World) (h : WAt w wb v room l bad)
  (hB : ∀ w', Turns (foot wb v) w w' → Bs w' p n c b) (hs : b.length ≤ 70368744177664) (hl : l.length ≤ 70368744177664) :
  Calls Tryz.prog 82 #[.pointer (some ⟨wb, 0, none⟩), .slice p n c] w fun e w' => e = .returned (.tuple #[]) ∧ Left wb v room (putS room l bad true [b]) w w' := by
 have hle := (hB w (Turns.refl _ _)).le
 have hmax := (hB w (Turns.refl _ _)).max
 have HS := Lib.hid (fun t b hb => stable1 hB h.lt t hb (b := b))
 have HW := Lib.hid h
 clear hB h
 go_enter Tryz.func82, Tryz.ntmps82
 go_wp2_with (go_at_call 118; refine (put_any _ _ _ [b] wb v room l bad true _ (HW.out.alloc _) (HS.out _ _ rfl) (by simpa [total] using hs) hl).mono ?_; rintro e w1 ⟨rfl, hl1⟩)
 go_end0
 exact ⟨rfl, hl1.alloc⟩
theorem err_any (wb : Nat) (v : Value) (room : Nat) (l : List UInt8) (bad : Int) (w : World) (h : WAt w wb v room l bad) :
  Calls Tryz.prog 119 #[.pointer (some ⟨wb, 0, none⟩)] w fun e w' => e = .returned (.int .i64 bad) ∧ w = w' := by
 obtain ⟨c0, c1, c2, c3, f2, f3⟩ := h.cells
 clear h
 go_enter Tryz.func119, Tryz.ntmps119
 go_wp2_with (go_at_call 128; refine (none_made _ _ c0).mono ?_; rintro e w' ⟨rfl, rfl⟩)
 go_ret
 exact ⟨rfl, rfl⟩
theorem done_any (wb : Nat) (v : Value) (room : Nat) (l : List UInt8) (bad : Int) (w : World) (h : WAt w wb v room l bad) (hl : l.length ≤ 140737488355328) :
  Calls Tryz.prog 83 #[.pointer (some ⟨wb, 0, none⟩)] w fun e w' =>
   (∃ p n c, e = .returned (.tuple #[.slice p n c, .int .i64 bad]) ∧ w'.ownsRow w.heap.size 5 1 (.slice p n c) n (bytesV (if bad = 0 then l else []))) ∧ Below w.heap.size w w' := by
 obtain ⟨pv, cv, hv, hsv⟩ := own_sl h.own
 subst hv
 obtain ⟨c0, c1, c2, c3, f2, f3⟩ := h.cells
 have HW := Lib.hid h
 have HV := Lib.hid hsv
 clear h hsv
 by_cases hb : bad = 0
 ·subst hb
  have hbd : Hid (0 + l.length ≤ 9223372036854775807 ∧ (0 + l.length) * 1 ≤ 140737488355328) := by
   show _ ∧ _; omega
  go_enter Tryz.func83, Tryz.ntmps83
  go_wp2_with (first | (go_at_call 119; refine (err_any _ _ _ _ _ _ HW.out).mono ?_; rintro e w' ⟨rfl, rfl⟩) | (at_builtin; refine wpList_append_nx rfl _ _ 22 rfl (base := w.heap.size) Tryz.underlying22 infoB rfl (by omega) rfl (World.ownsRow_nil _ _ _ _) rfl HV.out (bytesV_one _) hbd.out (Nat.le_refl _) ?_))
  intro p' c' w1 hown hg hnx hne
  have HO : Hid (w1.ownsRow w.heap.size 5 1 (.slice p' (0 + l.length) c') (0 + l.length) (bytesV (if (0 : Int) = 0 then l else []))) := by
   show World.ownsRow _ _ _ _ _ _ _
   simpa using hown
  have HG : Hid (Below w.heap.size w w1) := (Below.refl _ _).grown hg (Nat.le_refl _) (fun k hk => by simp [Value.ownBlock] at hk)
  clear hown hg hnx hne
  go_wp2
  go_ret2
  refine ⟨⟨p', _, c', rfl, ?_⟩, HG.out⟩
  have := HO.out
  rw [Nat.zero_add] at this
  exact this
 ·have hb' : (bad != 0) = true := by simp [hb]
  go_enter Tryz.func83, Tryz.ntmps83
  go_wp2_with (go_at_call 119; refine (err_any _ _ _ _ _ _ HW.out).mono ?_; rintro e w' ⟨rfl, rfl⟩)
  go_ret2
  have ho : w.ownsRow w.heap.size 5 1 (.slice none 0 0) 0 (bytesV (if bad = 0 then l else [])) := by rw [if_neg hb]; exact World.ownsRow_nil _ _ _ _
  exact ⟨⟨none, 0, 0, rfl, by simpa [hb] using ho⟩, Below.refl _ _⟩
theorem new_any (room : Int) (w : World) (hr : room ≤ 9223372036854775807) :
  Calls Tryz.prog 80 #[.int .i64 room] w fun e w' => e = .returned (.pointer (some ⟨w.heap.size, 0, none⟩)) ∧ WAt w' w.heap.size (.slice none 0 0) room.toNat [] 0 ∧ Below w.heap.size w w' := by
 have key : Hid (∀ x : Int, x = (room.toNat : Int) → WAt (w.alloc (.cells #[.bool true, .int .i64 x, .slice none 0 0, .int .i64 0] 205)) w.heap.size (.slice none 0 0) room.toNat [] 0) := by
  intro x hx
  subst hx
  exact ⟨heap_alloc_last _ _, World.ownsRow_nil _ _ _ _, by simp [Value.ownBlock], by simp, by omega⟩
 go_enter Tryz.func80, Tryz.ntmps80
 go_wp2
 all_goals
  go_ret
  exact ⟨rfl, key.out _ (by omega), Below.allocs _ _⟩
end Go.Proofs.YtnejjfglkindjaaGreatDoor.Wr
