/- PARTS, JOINED: THE WALKS OF A DISK: a file settled. Conditions: none. THE WALKS OF A DISK: a step taken. Conditions: none. THE WALKS OF A DISK: a step to a file; bytes put, a cut, a sync. Conditions: none. THE WALKS OF A DISK: bytes put, a cut, a sync. Conditions: none. THE WALKS OF A DISK: what is asked wrongly; what a file keeps; sizes and units. Conditions: none. A DISK CLONED. Conditions: none. WHAT A CALL LEAVES OF A DISK, whatever is asked; what calls do, one behind the other. Conditions: none. THE WALKS OF A DISK: a crash that keeps some units. Conditions: none. -/
import Derived.Test.YtgmahahhkaofbaaGreatDoorSd1
import Derived.Test.YtgmahahhkaofbaaGreatDoorSd2
import Derived.BigRegion
import Derived.Laws.Tables
import Derived.Laws.CopyOwn
namespace Go.Proofs.YtgmahahhkaofbaaGreatDoor.Dk
open Go.RowKit Go.Mir

theorem someU_take : ∀ (l : List St) (b : List UInt8) (u k : Nat), someU b (l.take k) u = someU b l (min u (unitsAll (l.take k)))
  | l, b, u, 0 => by rw [List.take_zero, unitsAll, Nat.min_zero, someU_zero, someU]
  | [], b, u, k + 1 => by simp [someU]
  | s :: r, b, u, k + 1 => by
    rw [List.take_succ_cons, someU, someU, unitsAll, someU_take r _ _ k]
    have h1 : min (min u (s.units + unitsAll (r.take k))) s.units = min u s.units := by omega
    have h2 : min u (s.units + unitsAll (r.take k)) - min u s.units = min (u - min u s.units) (unitsAll (r.take k)) := by omega
    rw [h1, h2]
theorem okAll_at : ∀ (l : List St) (b : List UInt8) (k : Nat) (hk : k < l.length), okAll b l → (l[k]).ok (runAll b (l.take k)).length
  | s :: r, b, 0, _, h => h.1
  | s :: r, b, k + 1, hk, h => by
    have := okAll_at r (s.act b s.units) k (by simpa using hk) h.2
    simpa [runAll] using this
/-- what a step's act wants of the bytes -/
theorem some_ok {l : List St} {b : List UInt8} {k u : Nat} (hk : k < l.length) (h : okAll b l) (hu : ¬ min (u - unitsAll (l.take k)) l[k].units = 0) : (l[k]).ok (someU b (l.take k) u).length := by
  rw [someU_all _ _ _ (by omega)]
  exact okAll_at l b k hk h
/-- a step done, by its interface -/
theorem mPutDo (x : Value) (w0 : World) : (method 313 67 x "mirador/disk.do").run Tryz.prog w0 = .ok (119, x) w0 := by kernel_rfl
theorem mCutDo (x : Value) (w0 : World) : (method 313 101 x "mirador/disk.do").run Tryz.prog w0 = .ok (121, x) w0 := by kernel_rfl
theorem nPutDo (x : Value) (w0 : World) : (nilAhead 313 67 x "mirador/disk.do").run Tryz.prog w0 = .ok (some false) w0 := by kernel_rfl
theorem nCutDo (x : Value) (w0 : World) : (nilAhead 313 101 x "mirador/disk.do").run Tryz.prog w0 = .ok (some false) w0 := by kernel_rfl
theorem inv_any {base : Nat} {w : World} {sv : Value} {s : St} (hs : StAt w base sv s) : ∃ x,
    (sv = .iface 67 x ∧ (∀ w0 : World, Calls Tryz.prog 120 #[x] w0 fun e w' => e = .returned (.int .i64 (s.units : Int)) ∧ Below w0.heap.size w0 w') ∧
      ∀ (p2 : Option Addr) (n2 c2 : Nat) (l : List UInt8) (u : Nat), u ≤ s.units → (¬ u = 0 → s.ok l.length) → n2 + u ≤ 140737488355328 → ∀ w0 : World, Below w.heap.size w w0 → base ≤ w0.heap.size → Rd w0 base (.slice p2 n2 c2) l → Calls Tryz.prog 119 #[x, .slice p2 n2 c2, .int .i64 (u : Int)] w0 (RdP base (s.act l u) w0)) ∨
    (sv = .iface 101 x ∧ (∀ w0 : World, Calls Tryz.prog 122 #[x] w0 fun e w' => e = .returned (.int .i64 (s.units : Int)) ∧ Below w0.heap.size w0 w') ∧
      ∀ (p2 : Option Addr) (n2 c2 : Nat) (l : List UInt8) (u : Nat), u ≤ s.units → (¬ u = 0 → s.ok l.length) → n2 + u ≤ 140737488355328 → ∀ w0 : World, Below w.heap.size w w0 → base ≤ w0.heap.size → Rd w0 base (.slice p2 n2 c2) l → Calls Tryz.prog 121 #[x, .slice p2 n2 c2, .int .i64 (u : Int)] w0 (RdP base (s.act l u) w0)) := by
  cases s with
  | put b =>
    obtain ⟨bv, rfl, hrd⟩ := hs
    obtain ⟨p, c, rfl, hbs⟩ := hrd.bs
    exact ⟨_, .inl ⟨rfl, fun w0 => putUnits_any _ _ _ _, fun p2 n2 c2 l u hu hok hsz w0 hb hbase hl => putDo_any p _ c b p2 n2 c2 l u w0 (hrd.below hb) hl hu hbase hsz⟩⟩
  | cut n =>
    cases hs
    refine ⟨_, .inr ⟨rfl, fun w0 => cutUnits_any _ _, fun p2 n2 c2 l u hu hok hsz w0 hb hbase hl => cutDo_any n p2 n2 c2 l u w0 hl ?_ hu⟩⟩
    by_cases h0 : u = 0
    · exact .inl h0
    · exact .inr (hok h0)
/-- a file's row while it is settled -/
structure Mid (w wr : World) (base db : Nat) (vs : List FV) (d : DD) (i : Nat) (v : FV) : Prop where
  row : wr.heap[db]? = some (.cells (dA (vs.set i v) d.room d.fuse d.down) 59 (0, 0))
  turn : Turns (fun k => k = db) w wr
theorem Mid.cells {w wr : World} {base db : Nat} {vs : List FV} {d : DD} {i : Nat} {v : FV} (h : Mid w wr base db vs d i v) (h3 : vs.length = 3) (hi : i < vs.length) : wr.cell? ⟨db, i * 4, none⟩ = some v.kv ∧ wr.cell? ⟨db, i * 4 + 1, none⟩ = some v.nv ∧ wr.cell? ⟨db, i * 4 + 2, none⟩ = some v.sv ∧ wr.cell? ⟨db, i * 4 + 3, none⟩ = some (.int .i64 (v.nd : Int)) ∧ ∀ j, wr.frozen? ⟨db, j, none⟩ = false := by
  have hl : (vs.set i v).length = 3 := by rw [List.length_set]; exact h3
  obtain ⟨h1, h2, h3', h4⟩ := dA_cells hl d.room d.fuse d.down
  obtain ⟨g1, g2, g3, g4⟩ := h4 i (by rw [List.length_set]; exact hi)
  rw [List.getElem_set_self] at g1 g2 g3 g4
  exact ⟨by rw [cell_of_row _ _ _ _ _ _ h.row]; exact g1, by rw [cell_of_row _ _ _ _ _ _ h.row]; exact g2, by rw [cell_of_row _ _ _ _ _ _ h.row]; exact g3, by rw [cell_of_row _ _ _ _ _ _ h.row]; exact g4, fun j => frozen_of_row _ _ _ _ _ h.row⟩
theorem Mid.below {w wr w' : World} {base db : Nat} {vs : List FV} {d : DD} {i : Nat} {v : FV} (h : Mid w wr base db vs d i v) (hb : Below wr.heap.size wr w') : Mid w w' base db vs d i v :=
  ⟨Below.keepOld hb h.row, h.turn.trans (Turns.of_below hb) (fun _ _ h => h)⟩
theorem Mid.put {w wr : World} {base db : Nat} {vs : List FV} {d : DD} {i : Nat} {v : FV} (h : Mid w wr base db vs d i v) (h3 : vs.length = 3) (hi : i < vs.length) :
    (∀ x, Mid w (wr.setCell ⟨db, i * 4, none⟩ x) base db vs d i ⟨x, v.nv, v.sv, v.nd⟩) ∧ (∀ x, Mid w (wr.setCell ⟨db, i * 4 + 1, none⟩ x) base db vs d i ⟨v.kv, x, v.sv, v.nd⟩) ∧ (∀ x, Mid w (wr.setCell ⟨db, i * 4 + 2, none⟩ x) base db vs d i ⟨v.kv, v.nv, x, v.nd⟩) ∧ (∀ n : Nat, Mid w (wr.setCell ⟨db, i * 4 + 3, none⟩ (.int .i64 (n : Int))) base db vs d i ⟨v.kv, v.nv, v.sv, n⟩) := by
  have hl : (vs.set i v).length = 3 := by rw [List.length_set]; exact h3
  obtain ⟨_, _, h4⟩ := dA_set hl d.room d.fuse d.down
  obtain ⟨g1, g2, g3, g4⟩ := h4 i (by rw [List.length_set]; exact hi)
  rw [List.getElem_set_self, ] at g1 g2 g3 g4
  simp only [List.set_set] at g1 g2 g3 g4
  refine ⟨fun x => ⟨?_, h.turn.setCell (p := ⟨db, i * 4, none⟩) (fun _ => rfl) _⟩, fun x => ⟨?_, h.turn.setCell (p := ⟨db, i * 4 + 1, none⟩) (fun _ => rfl) _⟩, fun x => ⟨?_, h.turn.setCell (p := ⟨db, i * 4 + 2, none⟩) (fun _ => rfl) _⟩, fun n => ⟨?_, h.turn.setCell (p := ⟨db, i * 4 + 3, none⟩) (fun _ => rfl) _⟩⟩
  · rw [← g1 x]; exact cell_put x h.row
  · rw [← g2 x]; exact cell_put x h.row
  · rw [← g3 x]; exact cell_put x h.row
  · rw [← g4 n]; exact cell_put _ h.row
/-- bytes of a disk's, though its own row has turned -/
theorem Rd.turn {w w' : World} {base db : Nat} {vs : List FV} {d : DD} {v : Value} {l : List UInt8} (h : DAt w base db vs d) (hr : Rd w base v l) (ht : Turns (fun k => k = db) w w') : Rd w' base v l :=
  hr.touch ht (fun k M fr hk e => by
    subst e
    rw [h.row] at hk
    injection hk with e1
    injection e1 with _ e2
    exact absurd e2 (by decide))
def setF (d : DD) (i : Nat) (f : FD) : DD := ⟨d.fs.set i f, d.room, d.fuse, d.down⟩
def SettleP (base db : Nat) (vs : List FV) (d : DD) (i : Nat) (f : FD) (w : World) (e : Ending) (w' : World) : Prop := e = .returned (.tuple #[]) ∧ (∃ vs', DAt w' base db vs' (setF d i f) ∧ ∀ v ∈ vs', ∀ k, v.sv.ownBlock = some k → ∃ v0 ∈ vs, v0.sv.ownBlock = some k) ∧ Turns (fun k => k = db) w w'
/-- a file settled, put together -/
theorem settle_end {w w' : World} {base db : Nat} {vs : List FV} {d : DD} {i u : Nat} {f : FD} {kv : Value} (h : DAt w base db vs d) (hi : i < d.fs.length) (hv : i < vs.length) (hf : d.fs[i] = f) (hm : Mid w w' base db vs d i ⟨kv, kv, .slice none 0 0, (someU f.kept f.steps u).length⟩) (hr : Rd w' base kv (someU f.kept f.steps u)) :
    DAt w' base db (vs.set i ⟨kv, kv, .slice none 0 0, (someU f.kept f.steps u).length⟩) (setF d i (f.settle u)) := by
  have hid : ∀ k M fr, w.heap[k]? = some (.cells M 5 fr) → ¬ k = db := fun k M fr hk e => by
    subst e
    rw [h.row] at hk
    injection hk with e1
    injection e1 with _ e2
    exact absurd e2 (by decide)
  have hle : (someU f.kept f.steps u).length ≤ f.need := by
    have := (h.each i _ _ (List.getElem?_eq_getElem hv) (List.getElem?_eq_getElem hi)).ok.all u
    rwa [hf] at this
  refine ⟨hm.row, h.low, by rw [List.length_set]; exact h.n3, by show (d.fs.set i _).length = 3; rw [List.length_set]; exact h.m3, ?_, ?_, h.room1, h.fuse1, ?_, ?_⟩
  · intro j v g h1 h2
    replace h2 : (d.fs.set i (f.settle u))[j]? = some g := h2
    rw [List.getElem?_set] at h1 h2
    by_cases hij : i = j
    · subst hij
      rw [if_pos rfl, if_pos hv] at h1
      rw [if_pos rfl, if_pos hi] at h2
      cases h1; cases h2
      exact ⟨hr, hr, ⟨[], World.ownsRow_nil _ _ _ _, fun i x s h => by simp at h⟩, rfl, FD.settle_ok f u⟩
    · rw [if_neg hij] at h1 h2
      obtain ⟨vals, ho, _⟩ := (h.each j v g h1 h2).steps
      exact (h.each j v g h1 h2).touch hm.turn hid (fun k hk => own_ne_cells' ho h.row (by decide) k hk)
  · intro j j' v v' k h1 h2 h3 h4
    rw [List.getElem?_set] at h1 h2
    by_cases hij : i = j
    · subst hij
      rw [if_pos rfl, if_pos hv] at h1
      cases h1
      simp [Value.ownBlock] at h3
    · by_cases hij' : i = j'
      · subst hij'
        rw [if_pos rfl, if_pos hv] at h2
        cases h2
        simp [Value.ownBlock] at h4
      · rw [if_neg hij] at h1
        rw [if_neg hij'] at h2
        exact h.apart j j' v v' k h1 h2 h3 h4
  · show usedL (d.fs.set i _) ≤ d.room
    have h1 := usedL_set hi (f.settle u)
    rw [hf] at h1
    have h2 : (f.settle u).need = (someU f.kept f.steps u).length := rfl
    have h3 := h.used
    omega
  · intro g hg
    rcases List.mem_or_eq_of_mem_set hg with hg | hg
    · exact h.few g hg
    · rw [hg]; exact Nat.zero_le _

set_option maxRecDepth 100000 in
set_option maxHeartbeats 1600000 in
theorem settle_any {base db : Nat} {vs : List FV} {d : DD} (w : World) (h : DAt w base db vs d) (hbase : base ≤ w.heap.size) (i : Nat) (hi : i < d.fs.length) (f : FD) (hf : d.fs[i] = f) (u : Nat) (hu : u ≤ 4611686018427387904) :
    Calls Tryz.prog 67 #[.pointer (some ⟨db, i * 4, none⟩), .int .i64 (u : Int)] w (SettleP base db vs d i (f.settle u) w) := by
  have hv : i < vs.length := by have := h.n3; have := h.m3; omega
  have HM0 : Hid (Mid w w base db vs d i (vs[i]'hv)) := ⟨by rw [List.set_getElem_self]; exact h.row, Turns.refl _ _⟩
  have H := Lib.hid h
  have HFE := Lib.hid hf
  have hc := (h.file i hv).2.2.1
  have hF := h.each i _ _ (List.getElem?_eq_getElem hv) (List.getElem?_eq_getElem hi)
  rw [hf] at hF
  have hfew := h.few _ (List.getElem_mem hi)
  rw [hf] at hfew
  obtain ⟨vals, ho, hst⟩ := hF.steps
  obtain ⟨p, c, e, hs⟩ := own_sl ho
  have HNE : Hid (f.need ≤ 65536) := by
    show _ ≤ _
    have h1 := usedL_mem hi
    rw [hf] at h1
    have := h.used
    have := h.room1
    omega
  have HOK := Lib.hid hF.ok
  have HKP := Lib.hid hF.kept
  have hun := hF.ok.un
  rw [e] at hc
  have HSV := Lib.hid e
  have HGN : Hid (∀ a, p = some a → ¬ a.block = db) := fun a ha => by
    have := own_ne_cells' ho H.out.row (by decide) a.block (by rw [e, ha]; rfl)
    exact this
  have HS := Lib.hid hs
  have HST := Lib.hid hst
  have hle := hs.le
  have hmax := hs.max
  have HVL : Hid (vals.length = f.steps.length) := by show _ = _; have := hs.len; omega
  have HBASE := Lib.hid hbase
  have HI := Lib.hid hi
  have HV := Lib.hid hv
  generalize hvv : vs[i] = v0 at *
  clear ho hst hs e hF h hf hvv
  go_enter Tryz.func67, Tryz.ntmps67
  go_wp2_with fail
  clear hc
  go_loopw [1, 12] (fun a j wr => ∃ (k : Nat) (kv : Value), k ≤ f.steps.length ∧ j = .int .i64 k ∧ a = .int .i64 ((u - unitsAll (f.steps.take k) : Nat) : Int) ∧ Mid w wr base db vs d i ⟨kv, v0.nv, v0.sv, v0.nd⟩ ∧ Rd wr base kv (someU f.kept (f.steps.take k) u)) (fun _ j _ => f.steps.length - (intOf j).toNat)
  case atStart => exact ⟨0, v0.kv, by omega, rfl, rfl, HM0.out, HKP.out⟩
  case round =>
    obtain ⟨k, kv, hk, rfl, rfl, hmid, hrd⟩ := hrel
    have HMID := Lib.hid hmid
    have HRD := Lib.hid hrd
    clear hmid hrd
    by_cases hlt : k < f.steps.length
    · have hd : decide ((k : Int) < (f.steps.length : Int)) = true := decide_eq_true (by omega)
      have hd2 : decide (k < f.steps.length) = true := decide_eq_true hlt
      obtain ⟨g, o, rfl⟩ := HS.out.addr (by omega) (by omega)
      have hkv : k < vals.length := by rw [HVL.out]; exact hlt
      have hsat := HST.out k _ _ (List.getElem?_eq_getElem hkv) (List.getElem?_eq_getElem hlt)
      have HSTP := Lib.hid (someU_snoc (f.steps[k]) (f.steps.take k) f.kept u)
      rw [← List.take_succ_eq_append_getElem hlt] at HSTP
      have HUN := Lib.hid (unitsAll_take_succ (l := f.steps) hlt)
      have HSO := Lib.hid (fun h0 => some_ok (u := u) hlt HOK.out.ok h0)
      have HKB : Hid ((someU f.kept (f.steps.take k) u).length ≤ 65536) := by
        show _ ≤ _
        rw [someU_take]
        exact Nat.le_trans (HOK.out.all _) HNE.out
      have hcw : wr.cell? ⟨g, o + k, none⟩ = some (vals[k]'hkv) := HMID.out.turn.cell (HS.out.at (List.getElem?_eq_getElem hkv)) (fun e => HGN.out ⟨g, o, none⟩ rfl e)
      have hid8 : ∀ k M fr, w.heap[k]? = some (.cells M 5 fr) → ¬ k = db := fun k M fr hk e => by
        subst e
        have hr := H.out.row
        rw [hr] at hk
        injection hk with e1
        injection e1 with _ e2
        exact absurd e2 (by decide)
      have HEU := Lib.hid (HOK.out.eu _ (List.getElem_mem hlt))
      obtain ⟨x, hinv⟩ := inv_any (hsat.touch HMID.out.turn hid8)
      obtain ⟨pk, ck, hkv2, hbs⟩ := HRD.out.bs
      subst hkv2
      generalize f.steps[k] = s at *
      generalize hkb : someU f.kept (f.steps.take k) u = kb at *
      generalize hua : unitsAll (f.steps.take k) = ua at *
      obtain ⟨hc0, hc1, hc2, hc3, hfz⟩ := HMID.out.cells H.out.n3 HV.out
      obtain ⟨m, hm⟩ : ∃ m, m = min (u - ua) s.units := ⟨_, rfl⟩
      have hmi : (if ((s.units : Nat) : Int) < ((u - ua : Nat) : Int) then ((s.units : Nat) : Int) else ((u - ua : Nat) : Int)) = (m : Int) := by
        split <;> omega
      have hmi2 : (if s.units < u - ua then ((s.units : Nat) : Int) else ((u - ua : Nat) : Int)) = (m : Int) := by
        split <;> omega
      rcases hinv with ⟨hx, hcu, hcd⟩ | ⟨hx, hcu, hcd⟩
      · rw [hx] at hcw
        have HCU := Lib.hid hcu
        have HCD := Lib.hid hcd
        have hm1 := mPutUnits
        have hm2 := mPutDo
        have hm3 := nPutDo
        clear hcu hcd hx hbs hsat hid8
        go_wp2_with fail
        refine (HCU.out _).mono ?_
        rintro e w2 ⟨rfl, hb2⟩
        go_upto_region 4 with fail
        rw [← hm]
        have HM2 := Lib.hid (HMID.out.below hb2)
        have HR2 := Lib.hid (HRD.out.below hb2)
        have HB2 := Lib.hid hb2
        have HMS : Hid (m ≤ s.units ∧ m ≤ u - ua ∧ m ≤ 65536 * 4398046511104 + 65536) := by
          show _ ∧ _ ∧ _
          have h1 := unitsAll_take_le (l := f.steps) (k + 1)
          rw [HUN.out] at h1
          omega
        have HOKM : Hid (¬ m = 0 → s.ok kb.length) := fun h0 => HSO.out (by rw [← hm]; exact h0)
        have HSTM : Hid (someU f.kept (f.steps.take (k + 1)) u = s.act kb m) := by show _ = _; rw [HSTP.out, hm]
        have HUM : Hid (u - unitsAll (f.steps.take (k + 1)) = u - ua - m) := by show _ = _; rw [HUN.out]; omega
        clear hm hmi hmi2 hb2 hc0 hc1 hc2 hc3 hfz hcw
        have hkc : Hid (∀ w', Below w2.heap.size w2 w' → w'.cell? ⟨db, i * 4, none⟩ = some (.slice pk kb.length ck)) := fun w' hb => (HM2.out.below hb).cells H.out.n3 HV.out |>.1
        have HBW : Hid (base ≤ w2.heap.size) := Nat.le_trans HBASE.out HM2.out.turn.size
        try simp only [Act.put, List.setIfInBounds_toArray, List.set_cons_zero, List.set_cons_succ]
        refine wp_region_eager_t (Below w2.heap.size w2) [0, 1, 2, 3, 4, 5, 6, 7, 8, 9, 11, 12] [(0, true), (1, true), (2, true), (3, true), (4, true), (5, true), (6, true), (7, true), (8, true), (9, true), (10, false), (11, true), (12, true)] [13] (by kernel_rfl) (by kernel_rfl) ?_ (eagerTOpen rfl ?_)
        · exact below_drew1 _ _
        have hy0 : Below w2.heap.size w2 w2.drew := below_drew1 _ _
        repeat (first
          | (first | (apply wpEagerT_take; (· rfl); (· (intro w' hb'; go_simp; try with_reducible rfl)); (try simp only [Act.put, List.setIfInBounds_toArray, List.set_cons_zero, List.set_cons_succ]); (try refine eagerTOpen rfl ?_)) | (refine wpEagerT_skip (by rfl) ?_; (try simp only [Act.put, List.setIfInBounds_toArray, List.set_cons_zero, List.set_cons_succ]); (try refine eagerTOpen rfl ?_)))
          | (apply wpEagerT_take; (· rfl); (· (intro w' hb'; have hk' := (hkc.out) w' hb'; go_split_ands; go_simp; try with_reducible rfl)); (try simp only [Act.put, List.setIfInBounds_toArray, List.set_cons_zero, List.set_cons_succ]); (try refine eagerTOpen rfl ?_)))
        (refine wpEagerT_op (by rfl) (fun K hK => ?_); go_simp; (refine (HCD.out pk kb.length ck kb m HMS.out.1 HOKM.out (by have := HKB.out; have := HMS.out; have := HEU.out; omega) _ (HB2.out.trans (hy0.mono HB2.out.size)) HBW.out (HR2.out.below hy0)).mono ?_; rintro e y ⟨p9, c9, rfl, hr9, hb9⟩; have HR9 := Lib.hid hr9; have hy1 : Below w2.heap.size w2 y := hy0.trans hb9; clear hr9 hb9); refine Shut.out hK _ _ (by assumption) ?_; clear hK K; (try simp only [Act.put, List.setIfInBounds_toArray, List.set_cons_zero, List.set_cons_succ]); (try refine eagerTOpen rfl ?_))
        repeat (first | (apply wpEagerT_take; (· rfl); (· (intro w' hb'; go_simp; try with_reducible rfl)); (try simp only [Act.put, List.setIfInBounds_toArray, List.set_cons_zero, List.set_cons_succ]); (try refine eagerTOpen rfl ?_)) | (refine wpEagerT_skip (by rfl) ?_; (try simp only [Act.put, List.setIfInBounds_toArray, List.set_cons_zero, List.set_cons_succ]); (try refine eagerTOpen rfl ?_)))
        refine eagerTEnd (tail1 rfl ?_)
        have HMY := Lib.hid (HM2.out.below hy1)
        obtain ⟨hc0, hc1, hc2, hc3, hfz⟩ := HMY.out.cells H.out.n3 HV.out
        have HMZ := Lib.hid ((HMY.out.put H.out.n3 HV.out).1 (.slice p9 (s.act kb m).length c9))
        have HRZ : Hid (Rd (y.setCell ⟨db, i * 4, none⟩ (.slice p9 (s.act kb m).length c9)) base (.slice p9 (s.act kb m).length c9) (s.act kb m)) := by
          have ht : Turns (fun k => k = db) y (y.setCell ⟨db, i * 4, none⟩ (.slice p9 (s.act kb m).length c9)) := (Turns.refl (fun k => k = db) y).setCell (p := ⟨db, i * 4, none⟩) (fun _ => rfl) _
          refine HR9.out.touch ht (fun k M fr hk e => ?_)
          subst e
          rw [HMY.out.row] at hk
          injection hk with e1
          injection e1 with _ e2
          exact absurd e2 (by decide)
        clear hy0 hy1
        go_wp2_with fail
        refine noPanic_end ?_
        generalize y.setCell ⟨db, i * 4, none⟩ (.slice p9 (s.act kb m).length c9) = wz at *
        have hsub : ((u - ua : Nat) : Int) - (m : Int) = ((u - ua - m : Nat) : Int) := by have := HMS.out; omega
        have hws : IntKind.i64.wrap (((u - ua : Nat) : Int) - (m : Int)) = ((u - ua - m : Nat) : Int) := by rw [hsub]; exact IntWalk.i64_in _ (by omega)
        clear hc0 hc1 hc2 hc3 hfz hkc hsub
        go_wp2_with fail
        go_roundw
        case rel => exact ⟨k + 1, _, by omega, by go_num, by rw [HUM.out], HMZ.out, by rw [HSTM.out]; exact HRZ.out⟩
        case measure => simp [intOf]; omega
      · rw [hx] at hcw
        have HCU := Lib.hid hcu
        have HCD := Lib.hid hcd
        have hm1 := mCutUnits
        have hm2 := mCutDo
        have hm3 := nCutDo
        clear hcu hcd hx hbs hsat hid8
        go_wp2_with fail
        refine (HCU.out _).mono ?_
        rintro e w2 ⟨rfl, hb2⟩
        go_upto_region 4 with fail
        rw [← hm]
        have HM2 := Lib.hid (HMID.out.below hb2)
        have HR2 := Lib.hid (HRD.out.below hb2)
        have HB2 := Lib.hid hb2
        have HMS : Hid (m ≤ s.units ∧ m ≤ u - ua ∧ m ≤ 65536 * 4398046511104 + 65536) := by
          show _ ∧ _ ∧ _
          have h1 := unitsAll_take_le (l := f.steps) (k + 1)
          rw [HUN.out] at h1
          omega
        have HOKM : Hid (¬ m = 0 → s.ok kb.length) := fun h0 => HSO.out (by rw [← hm]; exact h0)
        have HSTM : Hid (someU f.kept (f.steps.take (k + 1)) u = s.act kb m) := by show _ = _; rw [HSTP.out, hm]
        have HUM : Hid (u - unitsAll (f.steps.take (k + 1)) = u - ua - m) := by show _ = _; rw [HUN.out]; omega
        clear hm hmi hmi2 hb2 hc0 hc1 hc2 hc3 hfz hcw
        have hkc : Hid (∀ w', Below w2.heap.size w2 w' → w'.cell? ⟨db, i * 4, none⟩ = some (.slice pk kb.length ck)) := fun w' hb => (HM2.out.below hb).cells H.out.n3 HV.out |>.1
        have HBW : Hid (base ≤ w2.heap.size) := Nat.le_trans HBASE.out HM2.out.turn.size
        try simp only [Act.put, List.setIfInBounds_toArray, List.set_cons_zero, List.set_cons_succ]
        refine wp_region_eager_t (Below w2.heap.size w2) [0, 1, 2, 3, 4, 5, 6, 7, 8, 9, 11, 12] [(0, true), (1, true), (2, true), (3, true), (4, true), (5, true), (6, true), (7, true), (8, true), (9, true), (10, false), (11, true), (12, true)] [13] (by kernel_rfl) (by kernel_rfl) ?_ (eagerTOpen rfl ?_)
        · exact below_drew1 _ _
        have hy0 : Below w2.heap.size w2 w2.drew := below_drew1 _ _
        repeat (first
          | (first | (apply wpEagerT_take; (· rfl); (· (intro w' hb'; go_simp; try with_reducible rfl)); (try simp only [Act.put, List.setIfInBounds_toArray, List.set_cons_zero, List.set_cons_succ]); (try refine eagerTOpen rfl ?_)) | (refine wpEagerT_skip (by rfl) ?_; (try simp only [Act.put, List.setIfInBounds_toArray, List.set_cons_zero, List.set_cons_succ]); (try refine eagerTOpen rfl ?_)))
          | (apply wpEagerT_take; (· rfl); (· (intro w' hb'; have hk' := (hkc.out) w' hb'; go_split_ands; go_simp; try with_reducible rfl)); (try simp only [Act.put, List.setIfInBounds_toArray, List.set_cons_zero, List.set_cons_succ]); (try refine eagerTOpen rfl ?_)))
        (refine wpEagerT_op (by rfl) (fun K hK => ?_); go_simp; (refine (HCD.out pk kb.length ck kb m HMS.out.1 HOKM.out (by have := HKB.out; have := HMS.out; have := HEU.out; omega) _ (HB2.out.trans (hy0.mono HB2.out.size)) HBW.out (HR2.out.below hy0)).mono ?_; rintro e y ⟨p9, c9, rfl, hr9, hb9⟩; have HR9 := Lib.hid hr9; have hy1 : Below w2.heap.size w2 y := hy0.trans hb9; clear hr9 hb9); refine Shut.out hK _ _ (by assumption) ?_; clear hK K; (try simp only [Act.put, List.setIfInBounds_toArray, List.set_cons_zero, List.set_cons_succ]); (try refine eagerTOpen rfl ?_))
        repeat (first | (apply wpEagerT_take; (· rfl); (· (intro w' hb'; go_simp; try with_reducible rfl)); (try simp only [Act.put, List.setIfInBounds_toArray, List.set_cons_zero, List.set_cons_succ]); (try refine eagerTOpen rfl ?_)) | (refine wpEagerT_skip (by rfl) ?_; (try simp only [Act.put, List.setIfInBounds_toArray, List.set_cons_zero, List.set_cons_succ]); (try refine eagerTOpen rfl ?_)))
        refine eagerTEnd (tail1 rfl ?_)
        have HMY := Lib.hid (HM2.out.below hy1)
        obtain ⟨hc0, hc1, hc2, hc3, hfz⟩ := HMY.out.cells H.out.n3 HV.out
        have HMZ := Lib.hid ((HMY.out.put H.out.n3 HV.out).1 (.slice p9 (s.act kb m).length c9))
        have HRZ : Hid (Rd (y.setCell ⟨db, i * 4, none⟩ (.slice p9 (s.act kb m).length c9)) base (.slice p9 (s.act kb m).length c9) (s.act kb m)) := by
          have ht : Turns (fun k => k = db) y (y.setCell ⟨db, i * 4, none⟩ (.slice p9 (s.act kb m).length c9)) := (Turns.refl (fun k => k = db) y).setCell (p := ⟨db, i * 4, none⟩) (fun _ => rfl) _
          refine HR9.out.touch ht (fun k M fr hk e => ?_)
          subst e
          rw [HMY.out.row] at hk
          injection hk with e1
          injection e1 with _ e2
          exact absurd e2 (by decide)
        clear hy0 hy1
        go_wp2_with fail
        refine noPanic_end ?_
        generalize y.setCell ⟨db, i * 4, none⟩ (.slice p9 (s.act kb m).length c9) = wz at *
        have hsub : ((u - ua : Nat) : Int) - (m : Int) = ((u - ua - m : Nat) : Int) := by have := HMS.out; omega
        have hws : IntKind.i64.wrap (((u - ua : Nat) : Int) - (m : Int)) = ((u - ua - m : Nat) : Int) := by rw [hsub]; exact IntWalk.i64_in _ (by omega)
        clear hc0 hc1 hc2 hc3 hfz hkc hsub
        go_wp2_with fail
        go_roundw
        case rel => exact ⟨k + 1, _, by omega, by go_num, by rw [HUM.out], HMZ.out, by rw [HSTM.out]; exact HRZ.out⟩
        case measure => simp [intOf]; omega
    · have hd : decide ((k : Int) < (f.steps.length : Int)) = false := decide_eq_false (by omega)
      have hd2 : decide (k < f.steps.length) = false := decide_eq_false hlt
      have HT : Hid (f.steps.take k = f.steps) := by show _ = _; rw [List.take_of_length_le (by omega)]
      rw [HT.out] at HRD
      obtain ⟨pk, ck, hkv, hbs⟩ := HRD.out.bs
      subst hkv
      obtain ⟨hc0, hc1, hc2, hc3, hfz⟩ := HMID.out.cells H.out.n3 HV.out
      have hle2 := HRD.out.lens
      have HBW : Hid (base ≤ wr.heap.size) := Nat.le_trans HBASE.out HMID.out.turn.size
      have HBS := Lib.hid hbs
      have HL : Hid ((someU f.kept f.steps u).length ≤ 65536) := Nat.le_trans (HOK.out.all u) HNE.out
      generalize hkk : someU f.kept f.steps u = kk at *
      clear hbs
      obtain ⟨_, hkc, hcm⟩ := hle2
      have hL : kk.length ≤ 65536 := HL.out
      go_upto_region 8 with (refine wpList_append_nx rfl _ _ 22 rfl (base := wr.heap.size) Tryz.underlying22 info8 rfl (by omega) rfl (World.ownsRow_nil _ _ _ _) rfl HBS.out (bytesV_one _) ⟨by omega, by omega⟩ (Nat.le_refl _) ?_)
      intro p9 c9 w9 ho9 hg9 _ _
      have hb9 : Below wr.heap.size wr w9 := (Below.refl _ _).grown hg9 (Nat.le_refl _) (fun k hk => by simp [Value.ownBlock] at hk)
      have HR9 : Hid (Rd w9 base (.slice p9 kk.length c9) kk) := (Rd.of_own ho9).base HBW.out
      have HM9 := Lib.hid (HMID.out.below hb9)
      have HMA := Lib.hid ((HM9.out.put H.out.n3 HV.out).1 (.slice p9 kk.length c9))
      have hfz9 := (HM9.out.cells H.out.n3 HV.out).2.2.2.2
      have hc90 := (HM9.out.cells H.out.n3 HV.out).1
      clear ho9 hg9 hb9 hc0 hc1 hc2 hc3 hfz
      go_upto_region 8 with fail
      have HRA : Hid (Rd (w9.setCell ⟨db, i * 4, none⟩ (.slice p9 kk.length c9)) base (.slice p9 kk.length c9) kk) := by
        have ht : Turns (fun k => k = db) w9 (w9.setCell ⟨db, i * 4, none⟩ (.slice p9 kk.length c9)) := (Turns.refl (fun k => k = db) w9).setCell (p := ⟨db, i * 4, none⟩) (fun _ => rfl) _
        refine HR9.out.touch ht (fun k M fr hk e => ?_)
        subst e
        rw [HM9.out.row] at hk
        injection hk with e1
        injection e1 with _ e2
        exact absurd e2 (by decide)
      generalize w9.setCell ⟨db, i * 4, none⟩ (.slice p9 kk.length c9) = wa at *
      obtain ⟨hc0, hc1, hc2, hc3, hfz⟩ := HMA.out.cells H.out.n3 HV.out
      clear hfz9 hc90
      try simp only [Act.put, List.setIfInBounds_toArray, List.set_cons_zero, List.set_cons_succ]
      go_region
      have HMB := Lib.hid ((HMA.out.put H.out.n3 HV.out).2.1 (.slice p9 kk.length c9))
      have HMC := Lib.hid ((HMB.out.put H.out.n3 HV.out).2.2.1 (.slice none 0 0))
      have HMD := Lib.hid ((HMC.out.put H.out.n3 HV.out).2.2.2 kk.length)
      have HT3 : Hid (Turns (fun k => k = db) wa (((wa.setCell ⟨db, i * 4 + 1, none⟩ (.slice p9 kk.length c9)).setCell ⟨db, i * 4 + 2, none⟩ (.slice none 0 0)).setCell ⟨db, i * 4 + 3, none⟩ (.int .i64 (kk.length : Int)))) :=
        (((Turns.refl (fun k => k = db) wa).setCell (p := ⟨db, i * 4 + 1, none⟩) (fun _ => rfl) _).setCell (p := ⟨db, i * 4 + 2, none⟩) (fun _ => rfl) _).setCell (p := ⟨db, i * 4 + 3, none⟩) (fun _ => rfl) _
      have HRB : Hid (Rd (((wa.setCell ⟨db, i * 4 + 1, none⟩ (.slice p9 kk.length c9)).setCell ⟨db, i * 4 + 2, none⟩ (.slice none 0 0)).setCell ⟨db, i * 4 + 3, none⟩ (.int .i64 (kk.length : Int))) base (.slice p9 kk.length c9) kk) := by
        refine HRA.out.touch HT3.out (fun k M fr hk e => ?_)
        subst e
        rw [HMA.out.row] at hk
        injection hk with e1
        injection e1 with _ e2
        exact absurd e2 (by decide)
      clear HMB HMC hc0 hc1 hc2 hc3 hfz HT3
      generalize ((wa.setCell ⟨db, i * 4 + 1, none⟩ (.slice p9 kk.length c9)).setCell ⟨db, i * 4 + 2, none⟩ (.slice none 0 0)).setCell ⟨db, i * 4 + 3, none⟩ (.int .i64 (kk.length : Int)) = wb at *
      have HME := Lib.hid (HMD.out.below (below_drew1 _ wb))
      have HRE := Lib.hid (HRB.out.below (below_drew1 _ wb))
      go_wp2_with fail
      go_end0
      refine ⟨rfl, ⟨_, settle_end H.out HI.out HV.out HFE.out (kv := .slice p9 kk.length c9) ?_ ?_, fun v hv k hk => ?_⟩, HME.out.turn⟩
      · rw [hkk]; exact HME.out
      · rw [hkk]; exact HRE.out
      · rcases List.mem_or_eq_of_mem_set hv with hv | rfl
        · exact ⟨v, hv, hk⟩
        · simp [Value.ownBlock] at hk
end Go.Proofs.YtgmahahhkaofbaaGreatDoor.Dk

namespace Go.Proofs.YtgmahahhkaofbaaGreatDoor.Dk
open Go.RowKit Go.Mir

/-- a disk's own blocks -/
def DOwn (db : Nat) (vs : List FV) (k : Nat) : Prop := k = db ∨ ∃ v ∈ vs, v.sv.ownBlock = some k
theorem DAt.no8 {w : World} {base db : Nat} {vs : List FV} {d : DD} (h : DAt w base db vs d) : ∀ k M fr, w.heap[k]? = some (.cells M 5 fr) → ¬ DOwn db vs k := by
  intro k M fr hk hs
  rcases hs with rfl | ⟨v, hv, hs⟩
  · rw [h.row] at hk
    injection hk with e1
    injection e1 with _ e2
    exact absurd e2 (by decide)
  · obtain ⟨i, hi⟩ := List.mem_iff_getElem?.1 hv
    have hlt : i < d.fs.length := by rw [h.m3, ← h.n3]; exact (List.getElem?_eq_some_iff.1 hi).1
    obtain ⟨vals, ho, _⟩ := (h.each i v _ hi (List.getElem?_eq_getElem hlt)).steps
    exact own_ne_cells' ho hk (by decide) k hs rfl
theorem DAt.ownLt {w : World} {base db : Nat} {vs : List FV} {d : DD} (h : DAt w base db vs d) : ∀ k, DOwn db vs k → base ≤ k ∧ k < w.heap.size := by
  intro k hs
  rcases hs with rfl | ⟨v, hv, hs⟩
  · exact ⟨h.low, (Array.getElem?_eq_some_iff.1 h.row).1⟩
  · obtain ⟨i, hi⟩ := List.mem_iff_getElem?.1 hv
    have hlt : i < d.fs.length := by rw [h.m3, ← h.n3]; exact (List.getElem?_eq_some_iff.1 hi).1
    obtain ⟨vals, ho, _⟩ := (h.each i v _ hi (List.getElem?_eq_getElem hlt)).steps
    exact ho.lt k hs
/-- what a call leaves of a disk -/
def LeftD (base db : Nat) (vs : List FV) (d' : DD) (w w' : World) : Prop := ∃ vs', DAt w' base db vs' d' ∧ Turns (DOwn db vs) w w' ∧ (∀ k, DOwn db vs' k → DOwn db vs k ∨ w.heap.size ≤ k)
theorem take_end {w w3 : World} {base db : Nat} {vs : List FV} {d : DD} {i nd : Nat} {f : FD} {s : St} {v0 : FV} {nv sv : Value} {vals : List Value} {p' : Option Addr} {c' : Nat} (h : DAt w base db vs d) (hi : i < d.fs.length) (hv : i < vs.length) (hf : d.fs[i] = f) (hv0 : vs[i] = v0)
    (hvals : ∀ (i : Nat) x s, vals[i]? = some x → f.steps[i]? = some s → StAt w base x s) (hvl : vals.length = f.steps.length)
    (hrow : w3.heap[db]? = some (.cells (dA (vs.set i ⟨v0.kv, nv, v0.sv, nd⟩) d.room d.fuse d.down) 59 (0, 0))) (ht : Turns (fun k => k = db ∨ v0.sv.ownBlock = some k) w w3)
    (hnow : Rd w3 base nv (f.take s).now) (hnd : nd = (f.take s).need) (hown : w3.ownsRow base 97 1 (.slice p' (f.steps.length + 1) c') (f.steps.length + 1) (vals ++ [sv])) (hsv : StAt w3 base sv s)
    (hnx : ∀ k, (Value.slice p' (f.steps.length + 1) c').ownBlock = some k → v0.sv.ownBlock = some k ∨ w.heap.size ≤ k)
    (hok : s.ok f.now.length) (hu : s.units ≤ 65536) (hfew : f.steps.length + 1 ≤ 4398046511104) (hroom : usedL d.fs - f.need + (f.take s).need ≤ d.room) :
    LeftD base db vs (setF d i (f.take s)) w (w3.setCell ⟨db, i * 4 + 2, none⟩ (.slice p' (f.steps.length + 1) c')) := by
  have hF := h.each i _ _ (List.getElem?_eq_getElem hv) (List.getElem?_eq_getElem hi)
  rw [hf, hv0] at hF
  have hn3 : (vs.set i ⟨v0.kv, nv, v0.sv, nd⟩).length = 3 := by rw [List.length_set]; exact h.n3
  obtain ⟨_, _, h4⟩ := dA_set hn3 d.room d.fuse d.down
  obtain ⟨_, _, g3, _⟩ := h4 i (by rw [List.length_set]; exact hv)
  rw [List.getElem_set_self] at g3
  simp only [List.set_set] at g3
  have hrow4 := cell_put (off := i * 4 + 2) (.slice p' (f.steps.length + 1) c') hrow
  rw [g3] at hrow4
  have ht3 : Turns (fun k => k = db) w3 (w3.setCell ⟨db, i * 4 + 2, none⟩ (.slice p' (f.steps.length + 1) c')) := (Turns.refl (fun k => k = db) w3).setCell (p := ⟨db, i * 4 + 2, none⟩) (fun _ => rfl) _
  have ht4 : Turns (fun k => k = db ∨ v0.sv.ownBlock = some k) w (w3.setCell ⟨db, i * 4 + 2, none⟩ (.slice p' (f.steps.length + 1) c')) := ht.trans ht3 (fun _ _ h => .inl h)
  have hsub : ∀ k, (k = db ∨ v0.sv.ownBlock = some k) → DOwn db vs k := fun k hk => hk.imp id (fun hk => ⟨v0, by rw [← hv0]; exact List.getElem_mem hv, hk⟩)
  have hno3 : ∀ k M fr, w3.heap[k]? = some (.cells M 5 fr) → ¬ k = db := fun k M fr hk e => by
    subst e
    rw [hrow] at hk
    injection hk with e1
    injection e1 with _ e2
    exact absurd e2 (by decide)
  have hmem : v0 ∈ vs := by rw [← hv0]; exact List.getElem_mem hv
  refine ⟨vs.set i ⟨v0.kv, nv, .slice p' (f.steps.length + 1) c', nd⟩, ⟨hrow4, h.low, by rw [List.length_set]; exact h.n3, by show (d.fs.set i _).length = 3; rw [List.length_set]; exact h.m3, ?_, ?_, h.room1, h.fuse1, ?_, ?_⟩, ht4.imp (fun k _ hk => hsub k hk), ?_⟩
  · intro j v g h1 h2
    replace h2 : (d.fs.set i (f.take s))[j]? = some g := h2
    rw [List.getElem?_set] at h1 h2
    by_cases hij : i = j
    · subst hij
      rw [if_pos rfl, if_pos hv] at h1
      rw [if_pos rfl, if_pos hi] at h2
      cases h1; cases h2
      refine ⟨hF.kept.touch ht4 (fun k M fr hk hs => h.no8 k M fr hk (hsub k hs)), hnow.touch ht3 hno3, ⟨vals ++ [sv], ?_, ?_⟩, hnd, FD.take_ok hF.ok hok hu⟩
      · have := own_touch hown ht3 (fun k hk => own_ne_cells' hown hrow (by decide) k hk)
        show World.ownsRow _ _ _ _ _ ((f.steps ++ [s]).length) _
        rw [List.length_append]
        exact this
      · intro j x t hx ht
        replace ht : (f.steps ++ [s])[j]? = some t := ht
        by_cases hj : j < f.steps.length
        · rw [List.getElem?_append_left (by omega)] at hx
          rw [List.getElem?_append_left hj] at ht
          exact (hvals j x t hx ht).touch ht4 (fun k M fr hk hs => h.no8 k M fr hk (hsub k hs))
        · rw [List.getElem?_append_right (by omega)] at hx ht
          have hz : j - f.steps.length = 0 := by
            have := (List.getElem?_eq_some_iff.1 ht).1
            simp at this; omega
          rw [hvl, hz] at hx
          rw [hz] at ht
          cases hx; cases ht
          exact hsv.touch ht3 hno3
    · rw [if_neg hij] at h1 h2
      obtain ⟨vals', ho, _⟩ := (h.each j v g h1 h2).steps
      refine (h.each j v g h1 h2).touch ht4 (fun k M fr hk hs => h.no8 k M fr hk (hsub k hs)) (fun k hk hs => ?_)
      rcases hs with hs | hs
      · exact own_ne_cells' ho h.row (by decide) k hk hs
      · exact hij (h.apart i j v0 v k (by rw [← hv0]; exact List.getElem?_eq_getElem hv) h1 hs hk)
  · intro j j' v v' k h1 h2 h3 h4
    have key : ∀ (a : Nat) (va : FV), ¬ i = a → vs[a]? = some va → va.sv.ownBlock = some k → ¬ (Value.slice p' (f.steps.length + 1) c').ownBlock = some k := fun a va hia hva hk hk2 => by
      rcases hnx k hk2 with hn | hn
      · exact hia (h.apart i a v0 va k (by rw [← hv0]; exact List.getElem?_eq_getElem hv) hva hn hk)
      · have := (h.ownLt k (.inr ⟨va, List.mem_of_getElem? hva, hk⟩)).2
        omega
    rw [List.getElem?_set] at h1 h2
    by_cases hij : i = j
    · subst hij
      rw [if_pos rfl, if_pos hv] at h1
      cases h1
      by_cases hij' : i = j'
      · exact hij'
      · rw [if_neg hij'] at h2
        exact absurd h3 (key j' v' hij' h2 h4)
    · rw [if_neg hij] at h1
      by_cases hij' : i = j'
      · subst hij'
        rw [if_pos rfl, if_pos hv] at h2
        cases h2
        exact absurd h4 (key j v hij h1 h3)
      · rw [if_neg hij'] at h2
        exact h.apart j j' v v' k h1 h2 h3 h4
  · show usedL (d.fs.set i _) ≤ d.room
    have h1 := usedL_set hi (f.take s)
    rw [hf] at h1
    have h2 := usedL_mem hi
    rw [hf] at h2
    omega
  · intro g hg
    rcases List.mem_or_eq_of_mem_set hg with hg | hg
    · exact h.few g hg
    · rw [hg]; show (f.steps ++ [s]).length ≤ _; rw [List.length_append]; exact hfew
  · intro k hk
    rcases hk with hk | ⟨v, hv', hk⟩
    · exact .inl (.inl hk)
    · rcases List.mem_or_eq_of_mem_set hv' with hv' | rfl
      · exact .inl (.inr ⟨v, hv', hk⟩)
      · rcases hnx k hk with hn | hn
        · exact .inl (.inr ⟨v0, hmem, hn⟩)
        · exact .inr hn

theorem infoStep : (Tryz.prog.info? 97).map (fun i => (i.zero, i.size, i.bytes)) = some (some .nilIface, 1, 16) := by kernel_rfl
theorem row_sl1 {w : World} {b : Nat} {v : Value} {t : TypeId} {fr : Nat × Nat} (h : w.heap[b]? = some (.cells #[v] t fr)) : Sl w (some ⟨b, 0, none⟩) 1 1 1 [v] :=
  ⟨rfl, by omega, by omega, fun h => (by cases h), fun a ha j u hu => by
    obtain rfl := Option.some.inj ha
    have hj : j = 0 := by have := (List.getElem?_eq_some_iff.1 hu).1; simp at this; exact this
    subst hj
    rw [add_none, cell_of_row _ _ _ _ _ _ h]
    simpa using hu⟩
set_option maxRecDepth 100000 in
set_option maxHeartbeats 1600000 in
theorem take_any {base db : Nat} {vs : List FV} {d : DD} (w : World) (h : DAt w base db vs d) (hbase : base ≤ w.heap.size) (i : Nat) (hi : i < d.fs.length) (f : FD) (hf : d.fs[i] = f) (sv : Value) (s : St) (hs : StAt w base sv s)
    (hok : s.ok f.now.length) (hu : s.units ≤ 65536) (hfew : f.steps.length + 1 ≤ 4398046511104) (hroom : usedL d.fs - f.need + (f.take s).need ≤ d.room) :
    Calls Tryz.prog 48 #[.pointer (some ⟨db, i * 4, none⟩), sv] w fun e w' => e = .returned (.tuple #[]) ∧ LeftD base db vs (setF d i (f.take s)) w w' := by
  have hv : i < vs.length := by have := h.n3; have := h.m3; omega
  have HM0 : Hid (Mid w w base db vs d i (vs[i]'hv)) := ⟨by rw [List.set_getElem_self]; exact h.row, Turns.refl _ _⟩
  have H := Lib.hid h
  have HFE := Lib.hid hf
  have hF := h.each i _ _ (List.getElem?_eq_getElem hv) (List.getElem?_eq_getElem hi)
  rw [hf] at hF
  have HF := Lib.hid hF
  have hle := usedL_mem hi
  rw [hf] at hle
  have hused := h.used
  have hroom1 := h.room1
  have HNE : Hid (f.need ≤ 65536) := by show _ ≤ _; omega
  have HNL : Hid (f.now.length ≤ 65536) := Nat.le_trans hF.ok.le HNE.out
  have HAFD := Lib.hid (after_any w.drew (h.below (below_drew1 _ _)) i hi sv s (hs.touch (Turns.of_below (S := fun _ => False) (below_drew1 _ _)) (fun _ _ _ _ h => h)) (by rw [hf]; have := HNL.out; cases s with | put b => simp only [St.size, St.units] at *; omega | cut n => simp only [St.size, St.ok] at *; omega))
  rw [hf] at HAFD
  have HS := Lib.hid hs
  have HOKS := Lib.hid hok
  have HUS := Lib.hid hu
  have HROOM := Lib.hid hroom
  have HBASE := Lib.hid hbase
  have HI := Lib.hid hi
  have HV0 : Hid (∃ v0, vs[i]'hv = v0 ∧ Mid w w base db vs d i v0 ∧ FAt w base v0 f) := ⟨_, rfl, HM0.out, hF⟩
  have HV := Lib.hid hv
  obtain ⟨v0, hv0, hm0, hf0⟩ := HV0.out
  have HVE : Hid (∀ hv : i < vs.length, vs[i]'hv = v0) := fun _ => hv0
  have HM := Lib.hid hm0
  have HFF := Lib.hid hf0
  have HND : Hid (v0.nd = f.need) := hf0.need
  obtain ⟨n1, hn1⟩ : ∃ n1, n1 = (f.take s).need := ⟨_, rfl⟩
  have HN1 := Lib.hid hn1
  have HMX1 : Hid ((if ((f.need : Nat) : Int) < ((s.size f.now.length : Nat) : Int) then ((s.size f.now.length : Nat) : Int) else ((f.need : Nat) : Int)) = (n1 : Int) ∧ (if f.need < s.size f.now.length then ((s.size f.now.length : Nat) : Int) else ((f.need : Nat) : Int)) = (n1 : Int)) := by
    have e : n1 = max f.need (s.size f.now.length) := hn1
    show _ ∧ _
    constructor <;> (split <;> omega)
  obtain ⟨z, hz⟩ : ∃ z, z = s.size f.now.length := ⟨_, rfl⟩
  rw [← hz] at HMX1 HAFD
  clear HM0 HV0 hF hm0 hf0 hle hused hroom hok hu hs h hf hv0 hn1 hz
  obtain ⟨hc0, hc1, hc2, hc3, hfz⟩ := HM.out.cells H.out.n3 HV.out
  rw [HND.out] at hc3
  have hkc : Hid (∀ w', Below w.heap.size w w' → w'.cell? ⟨db, i * 4 + 3, none⟩ = some (.int .i64 (f.need : Int))) := fun w' hb => cell_below hc3 hb
  clear hc0 hc1 hc2 hc3 hfz
  go_enter Tryz.func48, Tryz.ntmps48
  go_upto_region 0 with fail
  refine wp_region_eager_t (Below w.heap.size w) [0, 1, 2, 3, 4, 5, 6, 8, 9, 10] [(0, true), (1, true), (2, true), (3, true), (4, true), (5, true), (6, true), (7, false), (8, true), (9, true), (10, true)] [11] (by kernel_rfl) (by kernel_rfl) ?_ (eagerTOpen rfl ?_)
  · exact below_drew1 _ _
  have hy0 : Below w.heap.size w w.drew := below_drew1 _ _
  repeat (first
    | (first | (apply wpEagerT_take; (· rfl); (· (intro w' hb'; go_simp; try with_reducible rfl)); (try simp only [Act.put, List.setIfInBounds_toArray, List.set_cons_zero, List.set_cons_succ]); (try refine eagerTOpen rfl ?_)) | (refine wpEagerT_skip (by rfl) ?_; (try simp only [Act.put, List.setIfInBounds_toArray, List.set_cons_zero, List.set_cons_succ]); (try refine eagerTOpen rfl ?_)))
    | (apply wpEagerT_take; (· rfl); (· (intro w' hb'; have hk' := (hkc.out) w' hb'; go_split_ands; go_simp; try with_reducible rfl)); (try simp only [Act.put, List.setIfInBounds_toArray, List.set_cons_zero, List.set_cons_succ]); (try refine eagerTOpen rfl ?_)))
  (refine wpEagerT_op (by rfl) (fun K hK => ?_); go_simp; (refine (HAFD.out).mono ?_; rintro e y ⟨rfl, hb9⟩; have hy1 : Below w.heap.size w y := hy0.trans hb9; clear hb9); refine Shut.out hK _ _ (by assumption) ?_; clear hK K; (try simp only [Act.put, List.setIfInBounds_toArray, List.set_cons_zero, List.set_cons_succ]); (try refine eagerTOpen rfl ?_))
  obtain ⟨hmx1, hmx2⟩ := HMX1.out
  repeat (first | (apply wpEagerT_take; (· rfl); (· (intro w' hb'; go_simp; try with_reducible rfl)); (try simp only [Act.put, List.setIfInBounds_toArray, List.set_cons_zero, List.set_cons_succ]); (try refine eagerTOpen rfl ?_)) | (refine wpEagerT_skip (by rfl) ?_; (try simp only [Act.put, List.setIfInBounds_toArray, List.set_cons_zero, List.set_cons_succ]); (try refine eagerTOpen rfl ?_)))
  refine eagerTEnd (tail1 rfl ?_)
  have HMY := Lib.hid (HM.out.below hy1)
  have HSY := Lib.hid (HS.out.touch (Turns.of_below (S := fun _ => False) hy1) (fun _ _ _ _ h => h))
  obtain ⟨hc0, hc1, hc2, hc3, hfz⟩ := HMY.out.cells H.out.n3 HV.out
  have HMZ := Lib.hid ((HMY.out.put H.out.n3 HV.out).2.2.2 n1)
  clear hy0 hy1 hmx1 hmx2
  go_wp2_with fail
  refine noPanic_end ?_
  have HS1 : Hid (StAt (y.setCell ⟨db, i * 4 + 3, none⟩ (.int .i64 (n1 : Int))) base sv s) := by
    have ht : Turns (fun k => k = db) y (y.setCell ⟨db, i * 4 + 3, none⟩ (.int .i64 (n1 : Int))) := (Turns.refl (fun k => k = db) y).setCell (p := ⟨db, i * 4 + 3, none⟩) (fun _ => rfl) _
    refine HSY.out.touch ht (fun k M fr hk e => ?_)
    subst e
    rw [HMY.out.row] at hk
    injection hk with e1
    injection e1 with _ e2
    exact absurd e2 (by decide)
  generalize y.setCell ⟨db, i * 4 + 3, none⟩ (.int .i64 (n1 : Int)) = w1 at *
  clear hc0 hc1 hc2 hc3 hfz HMY HSY HAFD HM hkc
  clear y
  go_upto_region 1 with fail
  have HBW1 : Hid (base ≤ w1.heap.size) := Nat.le_trans HBASE.out HMZ.out.turn.size
  obtain ⟨pn, cn, hnv, hbsn⟩ := HFF.out.now.bs
  have HNOW1 : Hid (Rd w1 base (.slice pn f.now.length cn) f.now) := by
    have := HFF.out.now
    rw [hnv] at this
    exact this.turn H.out HMZ.out.turn
  have hkc : Hid (∀ w', Below w1.heap.size w1 w' → w'.cell? ⟨db, i * 4 + 1, none⟩ = some (.slice pn f.now.length cn)) := fun w' hb => by
    have := ((HMZ.out.below hb).cells H.out.n3 HV.out).2.1
    rw [hnv] at this
    exact this
  clear hbsn hnv
  obtain ⟨x, hinv⟩ := inv_any HS1.out
  try simp only [Act.put, List.setIfInBounds_toArray, List.set_cons_zero, List.set_cons_succ]
  rcases hinv with ⟨hx, hcu, hcd⟩ | ⟨hx, hcu, hcd⟩
  · subst hx
    have HCU := Lib.hid hcu
    have HCD := Lib.hid hcd
    have hm1 := mPutUnits
    have hm2 := mPutDo
    have hm3 := nPutDo
    clear hcu hcd
    refine wp_region_eager_t (Below w1.heap.size w1) [0, 1, 2, 3, 4, 5, 6, 8, 9, 10, 12, 13] [(0, true), (1, true), (2, true), (3, true), (4, true), (5, true), (6, true), (8, true), (9, true), (10, true), (7, false), (11, false), (12, true), (13, true)] [14] (by kernel_rfl) (by kernel_rfl) ?_ (eagerTOpen rfl ?_)
    · exact below_drew1 _ _
    have hy0 : Below w1.heap.size w1 w1.drew := below_drew1 _ _
    repeat (first
      | (first | (apply wpEagerT_take; (· rfl); (· (intro w' hb'; go_simp; try with_reducible rfl)); (try simp only [Act.put, List.setIfInBounds_toArray, List.set_cons_zero, List.set_cons_succ]); (try refine eagerTOpen rfl ?_)) | (refine wpEagerT_skip (by rfl) ?_; (try simp only [Act.put, List.setIfInBounds_toArray, List.set_cons_zero, List.set_cons_succ]); (try refine eagerTOpen rfl ?_)))
      | (apply wpEagerT_take; (· rfl); (· (intro w' hb'; have hk' := (hkc.out) w' hb'; go_split_ands; go_simp; try with_reducible rfl)); (try simp only [Act.put, List.setIfInBounds_toArray, List.set_cons_zero, List.set_cons_succ]); (try refine eagerTOpen rfl ?_)))
    (refine wpEagerT_op (by rfl) (fun K hK => ?_); go_simp; (refine (HCU.out _).mono ?_; rintro e y0 ⟨rfl, hb9⟩; have hy1 : Below w1.heap.size w1 y0 := hy0.trans hb9; clear hb9); refine Shut.out hK _ _ (by assumption) ?_; clear hK K; (try simp only [Act.put, List.setIfInBounds_toArray, List.set_cons_zero, List.set_cons_succ]); (try refine eagerTOpen rfl ?_))
    repeat (first
      | (first | (apply wpEagerT_take; (· rfl); (· (intro w' hb'; go_simp; try with_reducible rfl)); (try simp only [Act.put, List.setIfInBounds_toArray, List.set_cons_zero, List.set_cons_succ]); (try refine eagerTOpen rfl ?_)) | (refine wpEagerT_skip (by rfl) ?_; (try simp only [Act.put, List.setIfInBounds_toArray, List.set_cons_zero, List.set_cons_succ]); (try refine eagerTOpen rfl ?_)))
      | (apply wpEagerT_take; (· rfl); (· (intro w' hb'; have hk' := (hkc.out) w' hb'; go_split_ands; go_simp; try with_reducible rfl)); (try simp only [Act.put, List.setIfInBounds_toArray, List.set_cons_zero, List.set_cons_succ]); (try refine eagerTOpen rfl ?_)))
    (refine wpEagerT_op (by rfl) (fun K hK => ?_); go_simp; (refine (HCD.out pn f.now.length cn f.now s.units (Nat.le_refl _) (fun _ => HOKS.out) (by have := HNL.out; have := HUS.out; omega) _ hy1 (Nat.le_trans HBW1.out hy1.size) (HNOW1.out.below hy1)).mono ?_; rintro e y ⟨p9, c9, rfl, hr9, hb9⟩; have HR9 := Lib.hid hr9; have hy2 : Below w1.heap.size w1 y := hy1.trans (hb9.mono hy1.size); clear hr9 hb9); refine Shut.out hK _ _ (by assumption) ?_; clear hK K; (try simp only [Act.put, List.setIfInBounds_toArray, List.set_cons_zero, List.set_cons_succ]); (try refine eagerTOpen rfl ?_))
    repeat (first | (apply wpEagerT_take; (· rfl); (· (intro w' hb'; go_simp; try with_reducible rfl)); (try simp only [Act.put, List.setIfInBounds_toArray, List.set_cons_zero, List.set_cons_succ]); (try refine eagerTOpen rfl ?_)) | (refine wpEagerT_skip (by rfl) ?_; (try simp only [Act.put, List.setIfInBounds_toArray, List.set_cons_zero, List.set_cons_succ]); (try refine eagerTOpen rfl ?_)))
    refine eagerTEnd (tail1 rfl ?_)
    have HMY := Lib.hid (HMZ.out.below hy2)
    have HSY := Lib.hid (HS1.out.touch (Turns.of_below (S := fun _ => False) hy2) (fun _ _ _ _ h => h))
    obtain ⟨hc0, hc1, hc2, hc3, hfz⟩ := HMY.out.cells H.out.n3 HV.out
    have HMW := Lib.hid ((HMY.out.put H.out.n3 HV.out).2.1 (.slice p9 (s.act f.now s.units).length c9))
    clear hy0 hy1 hy2
    go_wp2_with fail
    refine noPanic_end ?_
    have ht9 : Turns (fun k => k = db) y (y.setCell ⟨db, i * 4 + 1, none⟩ (.slice p9 (s.act f.now s.units).length c9)) := (Turns.refl (fun k => k = db) y).setCell (p := ⟨db, i * 4 + 1, none⟩) (fun _ => rfl) _
    have hid9 : ∀ k M fr, y.heap[k]? = some (.cells M 5 fr) → ¬ k = db := fun k M fr hk e => by
      subst e
      rw [HMY.out.row] at hk
      injection hk with e1
      injection e1 with _ e2
      exact absurd e2 (by decide)
    have HS2 := Lib.hid (HSY.out.touch ht9 hid9)
    have HNOW2 := Lib.hid (HR9.out.touch ht9 hid9)
    generalize y.setCell ⟨db, i * 4 + 1, none⟩ (.slice p9 (s.act f.now s.units).length c9) = w2 at *
    clear hc0 hc1 hc2 hc3 hfz HMY HSY HR9 ht9 hid9
    clear y
    have HST := Lib.hid HFF.out.steps
    obtain ⟨vals, ho, hst⟩ := HST.out
    obtain ⟨ps, cs, hsv0, hsl⟩ := own_sl ho
    have HOV := Lib.hid ho
    have HSTV := Lib.hid hst
    have HVL : Hid (vals.length = f.steps.length) := by show _ = _; have := ho.1; omega
    have HOW2 : Hid (w2.ownsRow base 97 1 v0.sv f.steps.length vals) := own_touch ho HMW.out.turn (own_ne_cells' ho H.out.row (by decide))
    rw [hsv0] at HOW2
    have HSV0 := Lib.hid hsv0
    clear ho hst hsl hsv0
    have hb2 := Below.allocs w2 (.cells #[(Value.iface 67 x)] 97)
    have HMA := Lib.hid (HMW.out.below hb2)
    have HSA := Lib.hid (HS2.out.touch (Turns.of_below (S := fun _ => False) hb2) (fun _ _ _ _ h => h))
    have HNA := Lib.hid (HNOW2.out.below hb2)
    have HOA := Lib.hid (own_touch HOW2.out (Turns.of_below (S := fun _ => False) hb2) (fun _ _ h => h))
    have HSLA : Hid (Sl (w2.alloc (.cells #[(Value.iface 67 x)] 97)) (some ⟨w2.heap.size, 0, none⟩) 1 1 1 [(Value.iface 67 x)]) := row_sl1 (heap_alloc_last _ _)
    have HBA : Hid (base ≤ (w2.alloc (.cells #[(Value.iface 67 x)] 97)).heap.size) := Nat.le_trans HBASE.out (Nat.le_trans HMW.out.turn.size hb2.size)
    obtain ⟨hc0, hc1, hc2, hc3, hfz⟩ := HMW.out.cells H.out.n3 HV.out
    rw [HSV0.out] at hc2
    clear hb2
    go_wp2_with (first


      | (refine wpList_append_nx rfl _ _ 54 rfl (base := base) Tryz.underlying54 infoStep rfl (by omega) rfl HOA.out rfl HSLA.out (fun u hu => by rw [List.mem_singleton] at hu; rw [hu]; rfl) ⟨by omega, by omega⟩ HBA.out ?_))
    intro p' c' w3 ho3 hg3 hnx3 _
    have hTg : Turns (fun k => (Value.slice ps f.steps.length cs).ownBlock = some k) (w2.alloc (.cells #[(Value.iface 67 x)] 97)) w3 := Turns.grown hg3 (S := fun k => (Value.slice ps f.steps.length cs).ownBlock = some k) (fun k hk => hk)
    have hno8 : ∀ k M fr, (w2.alloc (.cells #[(Value.iface 67 x)] 97)).heap[k]? = some (.cells M 5 fr) → ¬ (Value.slice ps f.steps.length cs).ownBlock = some k := fun k M fr hk hs => own_ne_cells' HOA.out hk (by decide) k hs rfl
    have HS3 := Lib.hid (HSA.out.touch hTg hno8)
    have HN3 := Lib.hid (HNA.out.touch hTg hno8)
    have HR3 := Lib.hid (hTg.keep HMA.out.row (fun hs => own_ne_cells' HOA.out HMA.out.row (by decide) db hs rfl))
    have HT3 : Hid (Turns (fun k => k = db ∨ v0.sv.ownBlock = some k) w w3) := (HMA.out.turn.imp (S' := fun k => k = db ∨ v0.sv.ownBlock = some k) (fun _ _ h => .inl h)).trans hTg (fun k _ hk => .inr (by rw [HSV0.out]; exact hk))
    have HX3 : Hid (∀ k, (Value.slice p' (f.steps.length + 1) c').ownBlock = some k → v0.sv.ownBlock = some k ∨ w.heap.size ≤ k) := fun k hk => by
      rcases hnx3 k hk with hn | hn
      · exact .inl (by rw [HSV0.out]; exact hn)
      · right
        have := HMA.out.turn.size
        have h2 : (w2.alloc (.cells #[(Value.iface 67 x)] 97)).heap.size = w2.heap.size + 1 := by simp
        have := HMW.out.turn.size
        omega
    have hc32 : w3.cell? ⟨db, i * 4 + 2, none⟩ = some v0.sv := by
      have := (HMA.out.cells H.out.n3 HV.out).2.2.1
      exact hTg.cell this (fun hs => own_ne_cells' HOA.out HMA.out.row (by decide) db hs rfl)
    have hfz3 : w3.frozen? ⟨db, i * 4 + 2, none⟩ = false := frozen_of_row _ _ _ _ _ HR3.out
    have HO3 := Lib.hid ho3
    clear ho3 hg3 hnx3 hTg hno8 hc0 hc1 hc2 hc3 hfz
    go_wp2_with fail
    go_end0
    exact ⟨rfl, take_end H.out HI.out HV.out HFE.out (HVE.out HV.out) HSTV.out HVL.out HR3.out HT3.out HN3.out HN1.out HO3.out HS3.out HX3.out HOKS.out HUS.out hfew HROOM.out⟩
  · subst hx
    have HCU := Lib.hid hcu
    have HCD := Lib.hid hcd
    have hm1 := mCutUnits
    have hm2 := mCutDo
    have hm3 := nCutDo
    clear hcu hcd
    refine wp_region_eager_t (Below w1.heap.size w1) [0, 1, 2, 3, 4, 5, 6, 8, 9, 10, 12, 13] [(0, true), (1, true), (2, true), (3, true), (4, true), (5, true), (6, true), (8, true), (9, true), (10, true), (7, false), (11, false), (12, true), (13, true)] [14] (by kernel_rfl) (by kernel_rfl) ?_ (eagerTOpen rfl ?_)
    · exact below_drew1 _ _
    have hy0 : Below w1.heap.size w1 w1.drew := below_drew1 _ _
    repeat (first
      | (first | (apply wpEagerT_take; (· rfl); (· (intro w' hb'; go_simp; try with_reducible rfl)); (try simp only [Act.put, List.setIfInBounds_toArray, List.set_cons_zero, List.set_cons_succ]); (try refine eagerTOpen rfl ?_)) | (refine wpEagerT_skip (by rfl) ?_; (try simp only [Act.put, List.setIfInBounds_toArray, List.set_cons_zero, List.set_cons_succ]); (try refine eagerTOpen rfl ?_)))
      | (apply wpEagerT_take; (· rfl); (· (intro w' hb'; have hk' := (hkc.out) w' hb'; go_split_ands; go_simp; try with_reducible rfl)); (try simp only [Act.put, List.setIfInBounds_toArray, List.set_cons_zero, List.set_cons_succ]); (try refine eagerTOpen rfl ?_)))
    (refine wpEagerT_op (by rfl) (fun K hK => ?_); go_simp; (refine (HCU.out _).mono ?_; rintro e y0 ⟨rfl, hb9⟩; have hy1 : Below w1.heap.size w1 y0 := hy0.trans hb9; clear hb9); refine Shut.out hK _ _ (by assumption) ?_; clear hK K; (try simp only [Act.put, List.setIfInBounds_toArray, List.set_cons_zero, List.set_cons_succ]); (try refine eagerTOpen rfl ?_))
    repeat (first
      | (first | (apply wpEagerT_take; (· rfl); (· (intro w' hb'; go_simp; try with_reducible rfl)); (try simp only [Act.put, List.setIfInBounds_toArray, List.set_cons_zero, List.set_cons_succ]); (try refine eagerTOpen rfl ?_)) | (refine wpEagerT_skip (by rfl) ?_; (try simp only [Act.put, List.setIfInBounds_toArray, List.set_cons_zero, List.set_cons_succ]); (try refine eagerTOpen rfl ?_)))
      | (apply wpEagerT_take; (· rfl); (· (intro w' hb'; have hk' := (hkc.out) w' hb'; go_split_ands; go_simp; try with_reducible rfl)); (try simp only [Act.put, List.setIfInBounds_toArray, List.set_cons_zero, List.set_cons_succ]); (try refine eagerTOpen rfl ?_)))
    (refine wpEagerT_op (by rfl) (fun K hK => ?_); go_simp; (refine (HCD.out pn f.now.length cn f.now s.units (Nat.le_refl _) (fun _ => HOKS.out) (by have := HNL.out; have := HUS.out; omega) _ hy1 (Nat.le_trans HBW1.out hy1.size) (HNOW1.out.below hy1)).mono ?_; rintro e y ⟨p9, c9, rfl, hr9, hb9⟩; have HR9 := Lib.hid hr9; have hy2 : Below w1.heap.size w1 y := hy1.trans (hb9.mono hy1.size); clear hr9 hb9); refine Shut.out hK _ _ (by assumption) ?_; clear hK K; (try simp only [Act.put, List.setIfInBounds_toArray, List.set_cons_zero, List.set_cons_succ]); (try refine eagerTOpen rfl ?_))
    repeat (first | (apply wpEagerT_take; (· rfl); (· (intro w' hb'; go_simp; try with_reducible rfl)); (try simp only [Act.put, List.setIfInBounds_toArray, List.set_cons_zero, List.set_cons_succ]); (try refine eagerTOpen rfl ?_)) | (refine wpEagerT_skip (by rfl) ?_; (try simp only [Act.put, List.setIfInBounds_toArray, List.set_cons_zero, List.set_cons_succ]); (try refine eagerTOpen rfl ?_)))
    refine eagerTEnd (tail1 rfl ?_)
    have HMY := Lib.hid (HMZ.out.below hy2)
    have HSY := Lib.hid (HS1.out.touch (Turns.of_below (S := fun _ => False) hy2) (fun _ _ _ _ h => h))
    obtain ⟨hc0, hc1, hc2, hc3, hfz⟩ := HMY.out.cells H.out.n3 HV.out
    have HMW := Lib.hid ((HMY.out.put H.out.n3 HV.out).2.1 (.slice p9 (s.act f.now s.units).length c9))
    clear hy0 hy1 hy2
    go_wp2_with fail
    refine noPanic_end ?_
    have ht9 : Turns (fun k => k = db) y (y.setCell ⟨db, i * 4 + 1, none⟩ (.slice p9 (s.act f.now s.units).length c9)) := (Turns.refl (fun k => k = db) y).setCell (p := ⟨db, i * 4 + 1, none⟩) (fun _ => rfl) _
    have hid9 : ∀ k M fr, y.heap[k]? = some (.cells M 5 fr) → ¬ k = db := fun k M fr hk e => by
      subst e
      rw [HMY.out.row] at hk
      injection hk with e1
      injection e1 with _ e2
      exact absurd e2 (by decide)
    have HS2 := Lib.hid (HSY.out.touch ht9 hid9)
    have HNOW2 := Lib.hid (HR9.out.touch ht9 hid9)
    generalize y.setCell ⟨db, i * 4 + 1, none⟩ (.slice p9 (s.act f.now s.units).length c9) = w2 at *
    clear hc0 hc1 hc2 hc3 hfz HMY HSY HR9 ht9 hid9
    clear y
    have HST := Lib.hid HFF.out.steps
    obtain ⟨vals, ho, hst⟩ := HST.out
    obtain ⟨ps, cs, hsv0, hsl⟩ := own_sl ho
    have HOV := Lib.hid ho
    have HSTV := Lib.hid hst
    have HVL : Hid (vals.length = f.steps.length) := by show _ = _; have := ho.1; omega
    have HOW2 : Hid (w2.ownsRow base 97 1 v0.sv f.steps.length vals) := own_touch ho HMW.out.turn (own_ne_cells' ho H.out.row (by decide))
    rw [hsv0] at HOW2
    have HSV0 := Lib.hid hsv0
    clear ho hst hsl hsv0
    have hb2 := Below.allocs w2 (.cells #[(Value.iface 101 x)] 97)
    have HMA := Lib.hid (HMW.out.below hb2)
    have HSA := Lib.hid (HS2.out.touch (Turns.of_below (S := fun _ => False) hb2) (fun _ _ _ _ h => h))
    have HNA := Lib.hid (HNOW2.out.below hb2)
    have HOA := Lib.hid (own_touch HOW2.out (Turns.of_below (S := fun _ => False) hb2) (fun _ _ h => h))
    have HSLA : Hid (Sl (w2.alloc (.cells #[(Value.iface 101 x)] 97)) (some ⟨w2.heap.size, 0, none⟩) 1 1 1 [(Value.iface 101 x)]) := row_sl1 (heap_alloc_last _ _)
    have HBA : Hid (base ≤ (w2.alloc (.cells #[(Value.iface 101 x)] 97)).heap.size) := Nat.le_trans HBASE.out (Nat.le_trans HMW.out.turn.size hb2.size)
    obtain ⟨hc0, hc1, hc2, hc3, hfz⟩ := HMW.out.cells H.out.n3 HV.out
    rw [HSV0.out] at hc2
    clear hb2
    go_wp2_with (first


      | (refine wpList_append_nx rfl _ _ 54 rfl (base := base) Tryz.underlying54 infoStep rfl (by omega) rfl HOA.out rfl HSLA.out (fun u hu => by rw [List.mem_singleton] at hu; rw [hu]; rfl) ⟨by omega, by omega⟩ HBA.out ?_))
    intro p' c' w3 ho3 hg3 hnx3 _
    have hTg : Turns (fun k => (Value.slice ps f.steps.length cs).ownBlock = some k) (w2.alloc (.cells #[(Value.iface 101 x)] 97)) w3 := Turns.grown hg3 (S := fun k => (Value.slice ps f.steps.length cs).ownBlock = some k) (fun k hk => hk)
    have hno8 : ∀ k M fr, (w2.alloc (.cells #[(Value.iface 101 x)] 97)).heap[k]? = some (.cells M 5 fr) → ¬ (Value.slice ps f.steps.length cs).ownBlock = some k := fun k M fr hk hs => own_ne_cells' HOA.out hk (by decide) k hs rfl
    have HS3 := Lib.hid (HSA.out.touch hTg hno8)
    have HN3 := Lib.hid (HNA.out.touch hTg hno8)
    have HR3 := Lib.hid (hTg.keep HMA.out.row (fun hs => own_ne_cells' HOA.out HMA.out.row (by decide) db hs rfl))
    have HT3 : Hid (Turns (fun k => k = db ∨ v0.sv.ownBlock = some k) w w3) := (HMA.out.turn.imp (S' := fun k => k = db ∨ v0.sv.ownBlock = some k) (fun _ _ h => .inl h)).trans hTg (fun k _ hk => .inr (by rw [HSV0.out]; exact hk))
    have HX3 : Hid (∀ k, (Value.slice p' (f.steps.length + 1) c').ownBlock = some k → v0.sv.ownBlock = some k ∨ w.heap.size ≤ k) := fun k hk => by
      rcases hnx3 k hk with hn | hn
      · exact .inl (by rw [HSV0.out]; exact hn)
      · right
        have := HMA.out.turn.size
        have h2 : (w2.alloc (.cells #[(Value.iface 101 x)] 97)).heap.size = w2.heap.size + 1 := by simp
        have := HMW.out.turn.size
        omega
    have hc32 : w3.cell? ⟨db, i * 4 + 2, none⟩ = some v0.sv := by
      have := (HMA.out.cells H.out.n3 HV.out).2.2.1
      exact hTg.cell this (fun hs => own_ne_cells' HOA.out HMA.out.row (by decide) db hs rfl)
    have hfz3 : w3.frozen? ⟨db, i * 4 + 2, none⟩ = false := frozen_of_row _ _ _ _ _ HR3.out
    have HO3 := Lib.hid ho3
    clear ho3 hg3 hnx3 hTg hno8 hc0 hc1 hc2 hc3 hfz
    go_wp2_with fail
    go_end0
    exact ⟨rfl, take_end H.out HI.out HV.out HFE.out (HVE.out HV.out) HSTV.out HVL.out HR3.out HT3.out HN3.out HN1.out HO3.out HS3.out HX3.out HOKS.out HUS.out hfew HROOM.out⟩
end Go.Proofs.YtgmahahhkaofbaaGreatDoor.Dk

namespace Go.Proofs.YtgmahahhkaofbaaGreatDoor.Dk
open Go.RowKit Go.Mir

theorem LeftD.row {w w' : World} {base db : Nat} {vs : List FV} {d d' : DD} (_h : DAt w base db vs d) (hd : DAt w' base db vs d') (ht : Turns (fun k => k = db) w w') : LeftD base db vs d' w w' :=
  ⟨vs, hd, ht.imp (fun _k _ hk => .inl hk), fun _k hk => .inl hk⟩
theorem LeftD.trans {w w1 w2 : World} {base db : Nat} {vs vs1 : List FV} {d2 : DD} (h0 : ∀ k, DOwn db vs1 k → DOwn db vs k ∨ w.heap.size ≤ k) (ht : Turns (DOwn db vs) w w1) (h : LeftD base db vs1 d2 w1 w2) : LeftD base db vs d2 w w2 := by
  obtain ⟨vs2, hd, ht2, hn⟩ := h
  refine ⟨vs2, hd, ht.trans ht2 (fun k hk hs => ?_), fun k hk => ?_⟩
  · rcases h0 k hs with h | h
    · exact h
    · omega
  · rcases hn k hk with hn | hn
    · exact h0 k hn
    · exact .inr (Nat.le_trans ht.size hn)
/-- what a step answers -/
def doE (d : DD) (i : Nat) (f : FD) (s : St) : Int :=
  if d.down = true then 18 else if d.room < usedL d.fs - f.need + max f.need (s.size f.now.length) then 17 else if (setF d i (f.take s)).burn.down = true then 18 else 0
def doD (d : DD) (i : Nat) (f : FD) (s : St) : DD :=
  if d.down = true then d else if d.room < usedL d.fs - f.need + max f.need (s.size f.now.length) then d else (setF d i (f.take s)).burn

theorem used_grow {base db : Nat} {vs : List FV} {d : DD} (w : World) (h : DAt w base db vs d) : Calls Tryz.prog 46 #[.pointer (some ⟨db, 0, none⟩)] w fun e w' => e = .returned (.int .i64 (usedL d.fs : Int)) ∧ Below w.heap.size w w' :=
  (used_any w h).mono fun _e _w' ⟨h1, h2⟩ => ⟨h1, h2 ▸ Below.refl _ _⟩
theorem units_fit {s : St} {d : DD} {f : FD} {n1 : Nat} (_h : n1 = max f.need (s.size f.now.length)) (hle : ¬ d.room < usedL d.fs - f.need + max f.need (s.size f.now.length)) (hr : d.room ≤ 65536) (_hu : s.units ≤ 140737488355328) : s.units ≤ 65536 := by
  cases s with
  | put b => simp only [St.size, St.units] at *; omega
  | cut n => simp only [St.units]; omega
def DoP (base db : Nat) (vs : List FV) (d : DD) (i : Nat) (f : FD) (s : St) (w : World) (e : Ending) (w' : World) : Prop := e = .returned (.int .i64 (doE d i f s)) ∧ LeftD base db vs (doD d i f s) w w'
set_option maxRecDepth 100000 in
set_option maxHeartbeats 1600000 in
theorem do_in {base db : Nat} {vs : List FV} {d : DD} (w : World) (h : DAt w base db vs d) (hbase : base ≤ w.heap.size) (i : Nat) (hi : i < d.fs.length) (f : FD) (hf : d.fs[i] = f) (sv : Value) (s : St) (hs : StAt w base sv s)
    (hok : s.ok f.now.length) (hu : s.units ≤ 140737488355328) (hfew : f.steps.length + 1 ≤ 4398046511104) :
    Calls Tryz.prog 17 #[.pointer (some ⟨db, 0, none⟩), .int .i64 (i : Int), sv] w (DoP base db vs d i f s w) := by
  have hv : i < vs.length := by have := h.n3; have := h.m3; omega
  have hi3 : i < 3 := by have := h.m3; omega
  have hF := h.each i _ _ (List.getElem?_eq_getElem hv) (List.getElem?_eq_getElem hi)
  rw [hf] at hF
  have HND : Hid ((vs[i]'hv).nd = f.need) := hF.need
  have hle := usedL_mem hi
  rw [hf] at hle
  have hused := h.used
  have hroom1 := h.room1
  have HROOM := Lib.hid hroom1.2
  have HNL : Hid (f.now.length ≤ 65536) := by have := hF.ok.le; show _ ≤ _; omega
  obtain ⟨U, hU⟩ : ∃ U, U = usedL d.fs := ⟨_, rfl⟩
  have HUE := Lib.hid hU
  rw [← hU] at hle hused
  obtain ⟨z, hz⟩ : ∃ z, z = s.size f.now.length := ⟨_, rfl⟩
  have HZE := Lib.hid hz
  have HZL : Hid (z ≤ 281474976710656) := by
    show _ ≤ _
    rw [hz]
    have := HNL.out
    cases s with
    | put b => simp only [St.size, St.units] at *; omega
    | cut n => simp only [St.size, St.ok] at *; omega
  obtain ⟨n1, hn1⟩ : ∃ n1, n1 = max f.need z := ⟨_, rfl⟩
  have HN1 := Lib.hid hn1
  have HN1M : Hid (max f.need (s.size f.now.length) = n1) := by show _ = _; rw [← hz, hn1]
  have HN1L : Hid (n1 ≤ 281474976776192) := by have := HZL.out; show _ ≤ _; omega
  have HMX1 : Hid ((if ((f.need : Nat) : Int) < ((z : Nat) : Int) then ((z : Nat) : Int) else ((f.need : Nat) : Int)) = (n1 : Int) ∧ (if f.need < z then ((z : Nat) : Int) else ((f.need : Nat) : Int)) = (n1 : Int)) := by
    show _ ∧ _
    constructor <;> (split <;> omega)
  have H := Lib.hid h
  have HFE := Lib.hid hf
  have HS := Lib.hid hs
  have HOKS := Lib.hid hok
  have HUS := Lib.hid hu
  have HFEW := Lib.hid hfew
  have HBASE := Lib.hid hbase
  have HI := Lib.hid hi
  have HFF := Lib.hid hF
  have HV := Lib.hid hv
  clear hn1 hz hU hF hf h hu hfew
  cases s with
  | put b =>
    obtain ⟨bv, rfl, hrd⟩ := hs
    obtain ⟨p, c, rfl, hbs⟩ := hrd.bs
    clear hrd hbs hok
    obtain ⟨SV, hSV⟩ : ∃ SV, SV = Value.iface 67 (.agg #[.slice p b.length c]) := ⟨_, rfl⟩
    have hta : ∀ w, (Instr.typeAssert SV 97 101 true).run Tryz.prog w = .ok (.tuple #[.agg #[.int .i64 0], .bool false]) w := fun w => by rw [hSV]; exact ta_pc _ w
    rw [← hSV] at HS ⊢
    clear hSV
    go_enter Tryz.func17, Tryz.ntmps17
    go_wp2_with fail
    refine (at_in w H.out i hi3).mono ?_
    rintro e w' ⟨rfl, rfl⟩
    have hb := Below.allocs w (.cells #[.int .i64 0] 101)
    have HB := Lib.hid hb
    have HA := Lib.hid (H.out.below hb)
    clear hb
    go_upto_region 3 with fail
    generalize w.alloc (.cells #[.int .i64 0] 101) = w1 at *
    go_wp2_with fail
    refine (none_any _ HA.out).mono ?_
    rintro e w' ⟨rfl, rfl⟩
    clear hta
    go_wp2_with fail
    refine wp_region_grow (by kernel_rfl) (by kernel_rfl) ?_
    repeat (first
      | ((with_reducible refine wpQuietGd ?_); (with_reducible refine wpQuiet_skip ?_ ?_); (· rfl); simp only [Act.put, List.setIfInBounds_toArray, List.set_cons_zero, List.set_cons_succ])
      | quiet_step (fail))
    refine wpQuiet_nil ?_
    intro w2 hb2
    have HBx := Lib.hid (HB.out.trans (hb2.mono HB.out.size))
    have HAx := Lib.hid (HA.out.below hb2)
    clear hb2 HB HA w1
    have HB := HBx
    have HA := HAx
    clear HBx HAx
    generalize hst : St.put b = s at *
    clear hst
    generalize hw2 : w2 = w1 at *
    clear hw2 w2
    have HDN1 := Lib.hid (HA.out.cells.2.2.1)
    cases hdn : d.down with
    | true =>
      have hc := HDN1.out
      rw [hdn] at hc
      have HFIN : Hid (∀ w', Below w.heap.size w w' → DoP base db vs d i f s w (.returned (.int .i64 18)) w') := fun w' hb => by
        refine ⟨by unfold doE; rw [if_pos hdn], vs, ?_, Turns.of_below hb, fun k hk => .inl hk⟩
        unfold doD
        rw [if_pos hdn]
        exact H.out.below hb
      clear hdn
      go_wp2_with fail
      go_ret
      exact HFIN.out _ HB.out
    | false =>
      have HDN := Lib.hid hdn
      have hc := HDN1.out
      rw [hdn] at hc
      clear hdn
      go_upto_region 9 with fail
      have hcn := (HA.out.file i HV.out).2.2.2
      rw [HND.out] at hcn
      have hcr := HA.out.cells.1
      have hg1 := cell_grown hcn
      have hg2 := cell_grown hcr
      have HAFT : Hid (∀ y : Grown w1, Calls Tryz.prog 47 #[.pointer (some ⟨db, i * 4, none⟩), SV] y.v fun e w' => e = .returned (.int .i64 (z : Int)) ∧ Below y.v.heap.size y.v w') := fun y => by
        have := after_any y.v (HA.out.below y.b) i HI.out SV s (HS.out.touch (Turns.of_below (S := fun _ => False) (HB.out.trans (y.b.mono HB.out.size))) (fun _ _ _ _ h => h)) (by rw [HFE.out]; have := HZL.out; rw [HZE.out] at this; omega)
        rw [HFE.out, ← HZE.out] at this
        exact this
      have HUSE : Hid (∀ y : Grown w1, Calls Tryz.prog 46 #[.pointer (some ⟨db, 0, none⟩)] y.v fun e w' => e = .returned (.int .i64 (U : Int)) ∧ Below y.v.heap.size y.v w') := fun y => by
        have := used_grow y.v (HA.out.below y.b)
        rwa [← HUE.out] at this
      obtain ⟨hmx1, hmx2⟩ := HMX1.out
      have hsub : (U : Int) - (f.need : Int) = ((U - f.need : Nat) : Int) := by omega
      have hws : IntKind.i64.wrap ((U : Int) - (f.need : Int)) = ((U - f.need : Nat) : Int) := by rw [hsub]; exact IntWalk.i64_in _ (by omega)
      have hws2 : IntKind.i64.wrap ((U - f.need : Nat) : Int) = ((U - f.need : Nat) : Int) := IntWalk.i64_in _ (by omega)
      have hwa : IntKind.i64.wrap (((U - f.need : Nat) : Int) + (n1 : Int)) = ((U - f.need : Nat) : Int) + (n1 : Int) := IntWalk.i64_in _ (by have := HN1L.out; omega)
      refine wp_region_grow (by kernel_rfl) (by kernel_rfl) ?_
      repeat (first
        | ((with_reducible refine wpQuietGd ?_); (with_reducible refine wpQuiet_skip ?_ ?_); (· rfl); simp only [Act.put, List.setIfInBounds_toArray, List.set_cons_zero, List.set_cons_succ])
        | quiet_step ((first | (go_at_call 47; exact Calls.grow_of (HAFT.out _)) | (go_at_call 46; exact Calls.grow_of (HUSE.out _)))))
      refine wpQuiet_nil ?_
      intro w2 hb2
      have HA2 := Lib.hid (HA.out.below hb2)
      have HB2 := Lib.hid (HB.out.trans (hb2.mono HB.out.size))
      clear hb2 hg1 hg2 hcn hcr hc HAFT HUSE hws hws2 hwa hsub hmx1 hmx2
      by_cases hbig : (d.room : Int) < ((U - f.need : Nat) : Int) + (n1 : Int)
      · have e1 : decide ((d.room : Int) < ((U - f.need : Nat) : Int) + (n1 : Int)) = true := decide_eq_true hbig
        have e2 : decide (d.room < U - f.need + n1) = true := decide_eq_true (by omega)
        have HFIN : Hid (∀ w', Below w.heap.size w w' → DoP base db vs d i f s w (.returned (.int .i64 17)) w') := fun w' hb => by
          have hgt : d.room < usedL d.fs - f.need + max f.need (s.size f.now.length) := by
            have := HN1.out; have := HUE.out; have := HZE.out; have := HN1M.out; omega
          refine ⟨by unfold doE; rw [HDN.out, if_neg (by decide), if_pos hgt], vs, ?_, Turns.of_below hb, fun k hk => .inl hk⟩
          unfold doD
          rw [HDN.out, if_neg (by decide), if_pos hgt]
          exact H.out.below hb
        go_wp2_with fail
        go_ret
        exact HFIN.out _ HB2.out
      · have e1 : decide ((d.room : Int) < ((U - f.need : Nat) : Int) + (n1 : Int)) = false := decide_eq_false hbig
        have e2 : decide (d.room < U - f.need + n1) = false := decide_eq_false (by omega)
        have HLE : Hid (¬ d.room < usedL d.fs - f.need + max f.need (s.size f.now.length)) := by
          have := HN1.out; have := HUE.out; have := HZE.out; have := HN1M.out; show ¬ _; omega
        have HTK := Lib.hid (take_any w2 HA2.out (Nat.le_trans HBASE.out HB2.out.size) i HI.out f HFE.out SV s (HS.out.touch (Turns.of_below (S := fun _ => False) HB2.out) (fun _ _ _ _ h => h)) HOKS.out (units_fit HN1M.out.symm HLE.out HROOM.out HUS.out) HFEW.out (by have := HLE.out; show usedL d.fs - f.need + max f.need (s.size f.now.length) ≤ d.room; omega))
        have hbig2 : ((U - f.need : Nat) : Int) + (n1 : Int) ≤ (d.room : Int) := by omega
        go_wp2_with fail
        clear hbig hbig2
        refine (HTK.out).mono ?_
        rintro e w3 ⟨rfl, vs3, hd3, ht3, hn3⟩
        have HD3 := Lib.hid hd3
        have HT3 : Hid (Turns (DOwn db vs) w w3) := (Turns.of_below HB2.out).trans ht3 (fun _ _ h => h)
        have HN3 : Hid (∀ k, DOwn db vs3 k → DOwn db vs k ∨ w.heap.size ≤ k) := fun k hk => (hn3 k hk).imp id (fun h => Nat.le_trans HB2.out.size h)
        have HBN := Lib.hid (burn_any w3 hd3)
        clear hd3 ht3 hn3 HTK
        go_wp2_with fail
        refine (HBN.out).mono ?_
        rintro e w4 ⟨rfl, hd4, ht4⟩
        have HFIN : Hid (∀ v, v = doE d i f s → DoP base db vs d i f s w (.returned (.int .i64 v)) w4) := fun v hv => by
          refine ⟨by rw [hv], ?_⟩
          have := LeftD.trans HN3.out HT3.out (LeftD.row HD3.out hd4 ht4)
          unfold doD
          rw [HDN.out, if_neg (by decide), if_neg HLE.out]
          exact this
        have HDE : Hid (doE d i f s = if (setF d i (f.take s)).burn.down = true then 18 else 0) := by show _ = _; unfold doE; rw [HDN.out, if_neg (by decide), if_neg HLE.out]
        clear hd4 ht4
        cases hbd : (setF d i (f.take s)).burn.down with
        | true =>
          have HV18 := Lib.hid (HFIN.out 18 (by rw [HDE.out, hbd]; rfl))
          clear hbd
          go_wp2_with fail
          go_ret
          exact HV18.out
        | false =>
          have HV0 := Lib.hid (HFIN.out 0 (by rw [HDE.out, hbd]; rfl))
          clear hbd
          go_wp2_with fail
          go_ret
          exact HV0.out
  | cut m =>
    cases hs
    obtain ⟨SV, hSV⟩ : ∃ SV, SV = Value.iface 101 (.agg #[.int .i64 (m : Int)]) := ⟨_, rfl⟩
    have hta : ∀ w, (Instr.typeAssert SV 97 101 true).run Tryz.prog w = .ok (.tuple #[.agg #[.int .i64 (m : Int)], .bool true]) w := fun w => by rw [hSV]; exact ta_cc _ w
    rw [← hSV] at HS ⊢
    have hmn : m ≤ f.now.length := hok
    clear hSV hok
    go_enter Tryz.func17, Tryz.ntmps17
    go_wp2_with fail
    refine (at_in w H.out i hi3).mono ?_
    rintro e w' ⟨rfl, rfl⟩
    have hb := Below.allocs w (.cells #[.int .i64 (m : Int)] 101)
    have HB := Lib.hid hb
    have HA := Lib.hid (H.out.below hb)
    have hcm : (w.alloc (.cells #[.int .i64 (m : Int)] 101)).cell? ⟨w.heap.size, 0, none⟩ = some (.int .i64 (m : Int)) := by rw [cell_of_row _ _ _ _ _ _ (heap_alloc_last _ _)]; rfl
    clear hb
    go_upto_region 3 with fail
    generalize w.alloc (.cells #[.int .i64 (m : Int)] 101) = w1 at *
    go_wp2_with fail
    refine (none_any _ HA.out).mono ?_
    rintro e w' ⟨rfl, rfl⟩
    clear hta
    obtain ⟨pn, cn, hnv, hbn⟩ := HFF.out.now.bs
    have hc1 := (HA.out.file i HV.out).2.1
    rw [hnv] at hc1
    have hg1 := cell_grown hc1
    have hg2 := cell_grown hcm
    have hm0 : decide ((m : Int) < 0) = false := decide_eq_false (by omega)
    have hm1 : decide ((f.now.length : Int) < (m : Int)) = false := decide_eq_false (by omega)
    have hm2 : decide (f.now.length < m) = false := decide_eq_false (by omega)
    clear hbn hnv
    go_upto_region 5 with fail
    refine wp_region_grow (by kernel_rfl) (by kernel_rfl) ?_
    repeat (first
      | ((with_reducible refine wpQuietGd ?_); (with_reducible refine wpQuiet_skip ?_ ?_); (· rfl); simp only [Act.put, List.setIfInBounds_toArray, List.set_cons_zero, List.set_cons_succ])
      | quiet_step (fail))
    refine wpQuiet_nil ?_
    intro w2 hb2
    have HBx := Lib.hid (HB.out.trans (hb2.mono HB.out.size))
    have HAx := Lib.hid (HA.out.below hb2)
    clear hb2 HB HA hg1 hg2 hcm hc1 hm0 hm1 hm2 hmn w1
    have HB := HBx
    have HA := HAx
    clear HBx HAx
    generalize hst : St.cut m = s at *
    clear hst
    generalize hw2 : w2 = w1 at *
    clear hw2 w2
    have HDN1 := Lib.hid (HA.out.cells.2.2.1)
    cases hdn : d.down with
    | true =>
      have hc := HDN1.out
      rw [hdn] at hc
      have HFIN : Hid (∀ w', Below w.heap.size w w' → DoP base db vs d i f s w (.returned (.int .i64 18)) w') := fun w' hb => by
        refine ⟨by unfold doE; rw [if_pos hdn], vs, ?_, Turns.of_below hb, fun k hk => .inl hk⟩
        unfold doD
        rw [if_pos hdn]
        exact H.out.below hb
      clear hdn
      go_wp2_with fail
      go_ret
      exact HFIN.out _ HB.out
    | false =>
      have HDN := Lib.hid hdn
      have hc := HDN1.out
      rw [hdn] at hc
      clear hdn
      go_upto_region 9 with fail
      have hcn := (HA.out.file i HV.out).2.2.2
      rw [HND.out] at hcn
      have hcr := HA.out.cells.1
      have hg1 := cell_grown hcn
      have hg2 := cell_grown hcr
      have HAFT : Hid (∀ y : Grown w1, Calls Tryz.prog 47 #[.pointer (some ⟨db, i * 4, none⟩), SV] y.v fun e w' => e = .returned (.int .i64 (z : Int)) ∧ Below y.v.heap.size y.v w') := fun y => by
        have := after_any y.v (HA.out.below y.b) i HI.out SV s (HS.out.touch (Turns.of_below (S := fun _ => False) (HB.out.trans (y.b.mono HB.out.size))) (fun _ _ _ _ h => h)) (by rw [HFE.out]; have := HZL.out; rw [HZE.out] at this; omega)
        rw [HFE.out, ← HZE.out] at this
        exact this
      have HUSE : Hid (∀ y : Grown w1, Calls Tryz.prog 46 #[.pointer (some ⟨db, 0, none⟩)] y.v fun e w' => e = .returned (.int .i64 (U : Int)) ∧ Below y.v.heap.size y.v w') := fun y => by
        have := used_grow y.v (HA.out.below y.b)
        rwa [← HUE.out] at this
      obtain ⟨hmx1, hmx2⟩ := HMX1.out
      have hsub : (U : Int) - (f.need : Int) = ((U - f.need : Nat) : Int) := by omega
      have hws : IntKind.i64.wrap ((U : Int) - (f.need : Int)) = ((U - f.need : Nat) : Int) := by rw [hsub]; exact IntWalk.i64_in _ (by omega)
      have hws2 : IntKind.i64.wrap ((U - f.need : Nat) : Int) = ((U - f.need : Nat) : Int) := IntWalk.i64_in _ (by omega)
      have hwa : IntKind.i64.wrap (((U - f.need : Nat) : Int) + (n1 : Int)) = ((U - f.need : Nat) : Int) + (n1 : Int) := IntWalk.i64_in _ (by have := HN1L.out; omega)
      refine wp_region_grow (by kernel_rfl) (by kernel_rfl) ?_
      repeat (first
        | ((with_reducible refine wpQuietGd ?_); (with_reducible refine wpQuiet_skip ?_ ?_); (· rfl); simp only [Act.put, List.setIfInBounds_toArray, List.set_cons_zero, List.set_cons_succ])
        | quiet_step ((first | (go_at_call 47; exact Calls.grow_of (HAFT.out _)) | (go_at_call 46; exact Calls.grow_of (HUSE.out _)))))
      refine wpQuiet_nil ?_
      intro w2 hb2
      have HA2 := Lib.hid (HA.out.below hb2)
      have HB2 := Lib.hid (HB.out.trans (hb2.mono HB.out.size))
      clear hb2 hg1 hg2 hcn hcr hc HAFT HUSE hws hws2 hwa hsub hmx1 hmx2
      by_cases hbig : (d.room : Int) < ((U - f.need : Nat) : Int) + (n1 : Int)
      · have e1 : decide ((d.room : Int) < ((U - f.need : Nat) : Int) + (n1 : Int)) = true := decide_eq_true hbig
        have e2 : decide (d.room < U - f.need + n1) = true := decide_eq_true (by omega)
        have HFIN : Hid (∀ w', Below w.heap.size w w' → DoP base db vs d i f s w (.returned (.int .i64 17)) w') := fun w' hb => by
          have hgt : d.room < usedL d.fs - f.need + max f.need (s.size f.now.length) := by
            have := HN1.out; have := HUE.out; have := HZE.out; have := HN1M.out; omega
          refine ⟨by unfold doE; rw [HDN.out, if_neg (by decide), if_pos hgt], vs, ?_, Turns.of_below hb, fun k hk => .inl hk⟩
          unfold doD
          rw [HDN.out, if_neg (by decide), if_pos hgt]
          exact H.out.below hb
        go_wp2_with fail
        go_ret
        exact HFIN.out _ HB2.out
      · have e1 : decide ((d.room : Int) < ((U - f.need : Nat) : Int) + (n1 : Int)) = false := decide_eq_false hbig
        have e2 : decide (d.room < U - f.need + n1) = false := decide_eq_false (by omega)
        have HLE : Hid (¬ d.room < usedL d.fs - f.need + max f.need (s.size f.now.length)) := by
          have := HN1.out; have := HUE.out; have := HZE.out; have := HN1M.out; show ¬ _; omega
        have HTK := Lib.hid (take_any w2 HA2.out (Nat.le_trans HBASE.out HB2.out.size) i HI.out f HFE.out SV s (HS.out.touch (Turns.of_below (S := fun _ => False) HB2.out) (fun _ _ _ _ h => h)) HOKS.out (units_fit HN1M.out.symm HLE.out HROOM.out HUS.out) HFEW.out (by have := HLE.out; show usedL d.fs - f.need + max f.need (s.size f.now.length) ≤ d.room; omega))
        have hbig2 : ((U - f.need : Nat) : Int) + (n1 : Int) ≤ (d.room : Int) := by omega
        go_wp2_with fail
        clear hbig hbig2
        refine (HTK.out).mono ?_
        rintro e w3 ⟨rfl, vs3, hd3, ht3, hn3⟩
        have HD3 := Lib.hid hd3
        have HT3 : Hid (Turns (DOwn db vs) w w3) := (Turns.of_below HB2.out).trans ht3 (fun _ _ h => h)
        have HN3 : Hid (∀ k, DOwn db vs3 k → DOwn db vs k ∨ w.heap.size ≤ k) := fun k hk => (hn3 k hk).imp id (fun h => Nat.le_trans HB2.out.size h)
        have HBN := Lib.hid (burn_any w3 hd3)
        clear hd3 ht3 hn3 HTK
        go_wp2_with fail
        refine (HBN.out).mono ?_
        rintro e w4 ⟨rfl, hd4, ht4⟩
        have HFIN : Hid (∀ v, v = doE d i f s → DoP base db vs d i f s w (.returned (.int .i64 v)) w4) := fun v hv => by
          refine ⟨by rw [hv], ?_⟩
          have := LeftD.trans HN3.out HT3.out (LeftD.row HD3.out hd4 ht4)
          unfold doD
          rw [HDN.out, if_neg (by decide), if_neg HLE.out]
          exact this
        have HDE : Hid (doE d i f s = if (setF d i (f.take s)).burn.down = true then 18 else 0) := by show _ = _; unfold doE; rw [HDN.out, if_neg (by decide), if_neg HLE.out]
        clear hd4 ht4
        cases hbd : (setF d i (f.take s)).burn.down with
        | true =>
          have HV18 := Lib.hid (HFIN.out 18 (by rw [HDE.out, hbd]; rfl))
          clear hbd
          go_wp2_with fail
          go_ret
          exact HV18.out
        | false =>
          have HV0 := Lib.hid (HFIN.out 0 (by rw [HDE.out, hbd]; rfl))
          clear hbd
          go_wp2_with fail
          go_ret
          exact HV0.out
end Go.Proofs.YtgmahahhkaofbaaGreatDoor.Dk

namespace Go.Proofs.YtgmahahhkaofbaaGreatDoor.Dk
open Go.RowKit Go.Mir

theorem LeftD.from {w w1 w2 : World} {base db : Nat} {vs : List FV} {d2 : DD} (hb : Below w.heap.size w w1) (h : LeftD base db vs d2 w1 w2) : LeftD base db vs d2 w w2 :=
  LeftD.trans (fun _k hk => .inl hk) (Turns.of_below hb) h
theorem wpList_build {P : Program} {w : World} {ops : Array Oper} {rest : List Oper} {o : Oper} {a : Act} {Q : Exit → Act → World → Prop} (hgd : o.guard = none) (t : TypeId) (parts : Array (Nat × Operand)) (ho : o.op = .build t parts)
    (vals : List (Nat × Value)) (hv : (parts.toList.map fun p => (p.1, a.eval p.2)) = vals) (cells : Array Value) (h : P.built t vals = some cells) (k : wpList P ops Q rest (a.put o.dst (.agg cells)) w) : wpList P ops Q (o :: rest) a w := by
  refine wpList_plain hgd fun K hK => ?_
  unfold Oper.wp execOp
  have hb : P.built t (parts.map fun p => (p.1, a.eval p.2)).toList = some cells := by rw [Array.toList_map, hv]; exact h
  simp only [ho, Sem.run_bind, Sem.run_pure, Result.andThen_ok, run_build w t _ cells hb]
  exact hK _ _ k
theorem build_put (p : Option Addr) (n c : Nat) : Tryz.prog.built 67 [(0, .slice p n c)] = some #[.slice p n c] := by kernel_rfl
theorem build_cut (n : Int) : Tryz.prog.built 101 [(0, .int .i64 n)] = some #[.int .i64 n] := by kernel_rfl
set_option maxRecDepth 100000 in
theorem append_in {base db : Nat} {vs : List FV} {d : DD} (w : World) (h : DAt w base db vs d) (hbase : base ≤ w.heap.size) (i : Nat) (hi : i < d.fs.length) (f : FD) (hf : d.fs[i] = f) (p : Option Addr) (n c : Nat) (b : List UInt8) (hb : Bs w p n c b) (hn : n ≤ 140737488355328) (hfew : f.steps.length + 1 ≤ 4398046511104) :
    Calls Tryz.prog 7 #[.pointer (some ⟨db, 0, none⟩), .int .i64 (i : Int), .slice p n c] w (DoP base db vs d i f (.put b) w) := by
  have HBS := Lib.hid hb
  have hle := hb.le
  have hmax := hb.max
  have HNL : Hid (b.length = n) := hb.length
  have H := Lib.hid h
  have HBASE := Lib.hid hbase
  have HI := Lib.hid hi
  have HFE := Lib.hid hf
  clear hb h hf
  go_enter Tryz.func7, Tryz.ntmps7
  go_wp2_with (refine wpList_append_nx rfl _ _ 22 rfl (base := w.heap.size) Tryz.underlying22 info8 rfl (by omega) rfl (World.ownsRow_nil _ _ _ _) rfl HBS.out (bytesV_one _) ⟨by omega, by omega⟩ (Nat.le_refl _) ?_)
  intro p9 c9 w9 ho9 hg9 _ _
  have hb9 : Below w.heap.size w w9 := (Below.refl _ _).grown hg9 (Nat.le_refl _) (fun k hk => by simp [Value.ownBlock] at hk)
  have HB9 := Lib.hid hb9
  have HR9 : Hid (Rd w9 base (.slice p9 n c9) b) := by
    have := ho9
    rw [← HNL.out] at this ⊢
    exact (Rd.of_own this).base HBASE.out
  have HDO := Lib.hid (do_in w9 (H.out.below hb9) (Nat.le_trans HBASE.out hb9.size) i HI.out f HFE.out (.iface 67 (.agg #[.slice p9 n c9])) (.put b) ⟨_, rfl, HR9.out⟩ trivial (by show b.length ≤ _; rw [HNL.out]; exact hn) hfew)
  clear ho9 hg9 hb9
  go_wp2_with ((with_reducible refine wpAt 11 ?_); refine wpList_build rfl 67 _ rfl [(0, .slice p9 n c9)] rfl _ (build_put _ _ _) ?_)
  refine (HDO.out).mono ?_
  rintro e w2 ⟨rfl, hl⟩
  have HL := Lib.hid (LeftD.from HB9.out hl)
  clear hl
  go_wp2_with fail
  go_ret
  exact ⟨rfl, HL.out⟩
set_option maxRecDepth 100000 in
theorem cut_in {base db : Nat} {vs : List FV} {d : DD} (w : World) (h : DAt w base db vs d) (hbase : base ≤ w.heap.size) (i : Nat) (hi : i < d.fs.length) (f : FD) (hf : d.fs[i] = f) (m : Nat) (hm : m ≤ f.now.length) (hfew : f.steps.length + 1 ≤ 4398046511104) :
    Calls Tryz.prog 38 #[.pointer (some ⟨db, 0, none⟩), .int .i64 (i : Int), .int .i64 (m : Int)] w (DoP base db vs d i f (.cut m) w) := by
  have HDO := Lib.hid (do_in w h hbase i hi f hf (.iface 101 (.agg #[.int .i64 (m : Int)])) (.cut m) rfl hm (by show 1 ≤ _; omega) hfew)
  clear h hf
  go_enter Tryz.func38, Tryz.ntmps38
  go_wp2_with ((with_reducible refine wpAt 10 ?_); refine wpList_build rfl 101 _ rfl [(0, .int .i64 (m : Int))] rfl _ (build_cut _) ?_)
  refine (HDO.out).mono ?_
  rintro e w2 ⟨rfl, hl⟩
  have HL := Lib.hid hl
  clear hl
  go_wp2_with fail
  go_ret
  exact ⟨rfl, HL.out⟩
/-- a sync -/
def syncD (d : DD) (i : Nat) (f : FD) : DD := if d.down = true then d else if d.burn.down = true then d.burn else setF d.burn i (f.settle (unitsAll f.steps))
def syncE (d : DD) : Int := if d.down = true then 18 else if d.burn.down = true then 18 else 0
theorem sync_down {d : DD} (i : Nat) (f : FD) (h : d.down = true) : syncD d i f = d ∧ syncE d = 18 := by unfold syncD syncE; rw [if_pos h, if_pos h]; exact ⟨rfl, rfl⟩
theorem sync_burnt {d : DD} (i : Nat) (f : FD) (h : d.down = false) (hb : d.burn.down = true) : syncD d i f = d.burn ∧ syncE d = 18 := by
  unfold syncD syncE
  simp [h, hb]
theorem sync_ok {d : DD} (i : Nat) (f : FD) (h : d.down = false) (hb : d.burn.down = false) : syncD d i f = setF d.burn i (f.settle (unitsAll f.steps)) ∧ syncE d = 0 := by
  unfold syncD syncE
  simp [h, hb]
theorem burn_fs (d : DD) : d.burn.fs = d.fs := by unfold DD.burn; split <;> rfl
set_option maxRecDepth 100000 in
set_option maxHeartbeats 800000 in
theorem sync_in {base db : Nat} {vs : List FV} {d : DD} (w : World) (h : DAt w base db vs d) (hbase : base ≤ w.heap.size) (i : Nat) (hi : i < d.fs.length) (f : FD) (hf : d.fs[i] = f) :
    Calls Tryz.prog 33 #[.pointer (some ⟨db, 0, none⟩), .int .i64 (i : Int)] w fun e w' => e = .returned (.int .i64 (syncE d)) ∧ LeftD base db vs (syncD d i f) w w' := by
  have H := Lib.hid h
  have hi3 : i < 3 := by have := h.m3; omega
  have hc := h.cells.2.2.1
  have HI := Lib.hid hi
  have HFE := Lib.hid hf
  have HBASE := Lib.hid hbase
  clear h hf
  cases hdn : d.down with
  | true =>
    have HFIN : Hid (LeftD base db vs (syncD d i f) w w ∧ syncE d = 18) := by
      obtain ⟨e1, e2⟩ := sync_down i f hdn
      show _ ∧ _
      rw [e1]
      exact ⟨⟨vs, H.out, Turns.refl _ _, fun k hk => .inl hk⟩, e2⟩
    rw [hdn] at hc
    clear hdn
    go_enter Tryz.func33, Tryz.ntmps33
    go_wp2_with fail
    refine (at_in w H.out i hi3).mono ?_
    rintro e w' ⟨rfl, rfl⟩
    go_wp2_with fail
    refine (none_any w H.out).mono ?_
    rintro e w' ⟨rfl, rfl⟩
    go_wp2_with fail
    go_ret
    exact ⟨by rw [HFIN.out.2]; rfl, HFIN.out.1⟩
  | false =>
    have HDN := Lib.hid hdn
    rw [hdn] at hc
    clear hdn
    go_enter Tryz.func33, Tryz.ntmps33
    go_wp2_with fail
    refine (at_in w H.out i hi3).mono ?_
    rintro e w' ⟨rfl, rfl⟩
    go_wp2_with fail
    refine (none_any w H.out).mono ?_
    rintro e w' ⟨rfl, rfl⟩
    go_wp2_with fail
    refine (burn_any w H.out).mono ?_
    rintro e w1 ⟨rfl, hd1, ht1⟩
    have HD1 := Lib.hid hd1
    have HT1 := Lib.hid ht1
    clear hd1 ht1 hc
    cases hbd : d.burn.down with
    | true =>
      have HFIN : Hid (LeftD base db vs (syncD d i f) w w1 ∧ syncE d = 18) := by
        obtain ⟨e1, e2⟩ := sync_burnt i f HDN.out hbd
        show _ ∧ _
        rw [e1]
        exact ⟨LeftD.row H.out HD1.out HT1.out, e2⟩
      clear hbd
      go_wp2_with fail
      go_ret
      exact ⟨by rw [HFIN.out.2]; rfl, HFIN.out.1⟩
    | false =>
      have HBD := Lib.hid hbd
      have HI1 : Hid (i < d.burn.fs.length) := by show _ < _; rw [burn_fs]; exact HI.out
      have HF1 : Hid (d.burn.fs[i]'HI1.out = f) := by
        show _ = _
        rw [← HFE.out]
        congr 1
        exact burn_fs d
      have HU := Lib.hid (fileUnits_any w1 HD1.out i HI1.out)
      rw [HF1.out] at HU
      have HUB : Hid (unitsAll f.steps ≤ 4611686018427387904) := by
        show _ ≤ _
        have hv : i < vs.length := by have := H.out.n3; omega
        have h1 := (HD1.out.each i _ _ (List.getElem?_eq_getElem hv) (List.getElem?_eq_getElem HI1.out)).ok.un
        have h2 := HD1.out.few _ (List.getElem_mem HI1.out)
        rw [HF1.out] at h1 h2
        omega
      clear hbd
      go_wp2_with fail
      refine (HU.out).mono ?_
      rintro e w2 ⟨rfl, hb2⟩
      have HB2 := Lib.hid hb2
      have HST := Lib.hid (settle_any w2 (HD1.out.below hb2) (Nat.le_trans HBASE.out (Nat.le_trans HT1.out.size hb2.size)) i HI1.out f HF1.out (unitsAll f.steps) HUB.out)
      clear hb2 HU
      go_wp2_with fail
      refine (HST.out).mono ?_
      rintro e w3 ⟨rfl, ⟨vs3, hd3, hn3⟩, ht3⟩
      have HFIN : Hid (LeftD base db vs (syncD d i f) w w3 ∧ syncE d = 0) := by
        obtain ⟨e1, e2⟩ := sync_ok i f HDN.out HBD.out
        show _ ∧ _
        rw [e1]
        refine ⟨⟨vs3, hd3, ?_, fun k hk => ?_⟩, e2⟩
        · exact ((HT1.out.trans (Turns.of_below (S := fun k => k = db) HB2.out) (fun _ _ h => h)).trans ht3 (fun _ _ h => h)).imp (fun k _ hk => .inl hk)
        · rcases hk with hk | ⟨v, hv, hk⟩
          · exact .inl (.inl hk)
          · exact .inl (.inr (hn3 v hv k hk))
      clear hd3 ht3 hn3
      go_wp2_with fail
      go_ret
      exact ⟨by rw [HFIN.out.2]; rfl, HFIN.out.1⟩
/-- what a file holds -/
theorem read_in {base db : Nat} {vs : List FV} {d : DD} (w : World) (h : DAt w base db vs d) (i : Nat) (hi : i < d.fs.length) :
    Calls Tryz.prog 24 #[.pointer (some ⟨db, 0, none⟩), .int .i64 (i : Int)] w (RdP w.heap.size d.fs[i].now w) := by
  have hv : i < vs.length := by have := h.n3; have := h.m3; omega
  have hi3 : i < 3 := by have := h.m3; omega
  have H := Lib.hid h
  have hc := (h.file i hv).2.1
  have hF := h.each i _ _ (List.getElem?_eq_getElem hv) (List.getElem?_eq_getElem hi)
  have hle := usedL_mem hi
  have hused := h.used
  have hroom1 := h.room1
  have hnl : d.fs[i].now.length ≤ 65536 := by have := hF.ok.le; omega
  obtain ⟨pn, cn, hnv, hbn⟩ := hF.now.bs
  rw [hnv] at hc
  generalize d.fs[i].now = l at *
  have HBN := Lib.hid hbn
  have hl1 := hbn.le
  have hl2 := hbn.max
  clear hbn hF hnv h hle hused
  go_enter Tryz.func24, Tryz.ntmps24
  go_wp2_with fail
  refine (at_in w H.out i hi3).mono ?_
  rintro e w' ⟨rfl, rfl⟩
  go_wp2_with (refine wpList_append_nx rfl _ _ 22 rfl (base := w.heap.size) Tryz.underlying22 info8 rfl (by omega) rfl (World.ownsRow_nil _ _ _ _) rfl HBN.out (bytesV_one _) ⟨by omega, by omega⟩ (Nat.le_refl _) ?_)
  intro p9 c9 w9 ho9 hg9 _ _
  have HB9 : Hid (Below w.heap.size w w9) := (Below.refl _ _).grown hg9 (Nat.le_refl _) (fun k hk => by simp [Value.ownBlock] at hk)
  have HR9 : Hid (Rd w9 w.heap.size (.slice p9 l.length c9) l) := Rd.of_own ho9
  clear ho9 hg9
  go_wp2_with fail
  go_ret
  exact ⟨p9, c9, rfl, HR9.out, HB9.out⟩
end Go.Proofs.YtgmahahhkaofbaaGreatDoor.Dk

namespace Go.Proofs.YtgmahahhkaofbaaGreatDoor.Dk
open Go.RowKit Go.Mir

set_option maxRecDepth 100000 in
/-- what a file keeps -/
theorem kept_in {base db : Nat} {vs : List FV} {d : DD} (w : World) (h : DAt w base db vs d) (i : Nat) (hi : i < d.fs.length) :
    Calls Tryz.prog 26 #[.pointer (some ⟨db, 0, none⟩), .int .i64 (i : Int)] w (RdP w.heap.size d.fs[i].kept w) := by
  have hv : i < vs.length := by have := h.n3; have := h.m3; omega
  have hi3 : i < 3 := by have := h.m3; omega
  have H := Lib.hid h
  have hc := (h.file i hv).1
  have hF := h.each i _ _ (List.getElem?_eq_getElem hv) (List.getElem?_eq_getElem hi)
  have hle := usedL_mem hi
  have hused := h.used
  have hroom1 := h.room1
  have hnl : d.fs[i].kept.length ≤ 65536 := by
    have := hF.ok.all 0
    rw [someU_zero] at this
    omega
  obtain ⟨pn, cn, hnv, hbn⟩ := hF.kept.bs
  rw [hnv] at hc
  generalize d.fs[i].kept = l at *
  have HBN := Lib.hid hbn
  have hl1 := hbn.le
  have hl2 := hbn.max
  clear hbn hF hnv h hle hused
  go_enter Tryz.func26, Tryz.ntmps26
  go_wp2_with fail
  refine (at_in w H.out i hi3).mono ?_
  rintro e w' ⟨rfl, rfl⟩
  go_wp2_with (refine wpList_append_nx rfl _ _ 22 rfl (base := w.heap.size) Tryz.underlying22 info8 rfl (by omega) rfl (World.ownsRow_nil _ _ _ _) rfl HBN.out (bytesV_one _) ⟨by omega, by omega⟩ (Nat.le_refl _) ?_)
  intro p9 c9 w9 ho9 hg9 _ _
  have HB9 : Hid (Below w.heap.size w w9) := (Below.refl _ _).grown hg9 (Nat.le_refl _) (fun k hk => by simp [Value.ownBlock] at hk)
  have HR9 : Hid (Rd w9 w.heap.size (.slice p9 l.length c9) l) := Rd.of_own ho9
  clear ho9 hg9
  go_wp2_with fail
  go_ret
  exact ⟨p9, c9, rfl, HR9.out, HB9.out⟩
set_option maxRecDepth 100000 in
/-- how long a file is -/
theorem size_in {base db : Nat} {vs : List FV} {d : DD} (w : World) (h : DAt w base db vs d) (i : Nat) (hi : i < d.fs.length) :
    Calls Tryz.prog 41 #[.pointer (some ⟨db, 0, none⟩), .int .i64 (i : Int)] w fun e w' => e = .returned (.int .i64 (d.fs[i].now.length : Int)) ∧ Below w.heap.size w w' := by
  have HR := Lib.hid (read_in w h i hi)
  clear h
  go_enter Tryz.func41, Tryz.ntmps41
  go_wp2_with fail
  refine (HR.out).mono ?_
  rintro e w2 ⟨p, c, rfl, _, hb⟩
  have HB := Lib.hid hb
  clear hb HR
  go_wp2_with fail
  go_ret
  exact ⟨rfl, HB.out⟩
set_option maxRecDepth 100000 in
/-- how many units wait -/
theorem units_in {base db : Nat} {vs : List FV} {d : DD} (w : World) (h : DAt w base db vs d) (i : Nat) (hi : i < d.fs.length) :
    Calls Tryz.prog 42 #[.pointer (some ⟨db, 0, none⟩), .int .i64 (i : Int)] w fun e w' => e = .returned (.int .i64 (unitsAll d.fs[i].steps : Int)) ∧ Below w.heap.size w w' := by
  have hi3 : i < 3 := by have := h.m3; omega
  have H := Lib.hid h
  have HU := Lib.hid (fileUnits_any w h i hi)
  clear h
  go_enter Tryz.func42, Tryz.ntmps42
  go_wp2_with fail
  refine (at_in w H.out i hi3).mono ?_
  rintro e w' ⟨rfl, rfl⟩
  go_wp2_with fail
  refine (HU.out).mono ?_
  rintro e w2 ⟨rfl, hb⟩
  have HB := Lib.hid hb
  clear hb HU
  go_wp2_with fail
  go_ret
  exact ⟨rfl, HB.out⟩
end Go.Proofs.YtgmahahhkaofbaaGreatDoor.Dk

namespace Go.Proofs.YtgmahahhkaofbaaGreatDoor.Dk
open Go.RowKit Go.Mir Go.Mir.Parts

def CloneI (base nb B : Nat) (vs : List FV) (d : DD) (w : World) (k : Nat) (wr : World) : Prop :=
  ∃ vsr, DAt wr base nb vsr d ∧ Below B w wr ∧ ∀ (j : Nat) v, vsr[j]? = some v → (j < k → ∀ b, v.sv.ownBlock = some b → B ≤ b) ∧ (k ≤ j → vs[j]? = some v)
def CloneP (base : Nat) (d : DD) (w : World) (e : Ending) (w' : World) : Prop := ∃ nb vs', e = .returned (.pointer (some ⟨nb, 0, none⟩)) ∧ DAt w' base nb vs' d ∧ Below w.heap.size w w' ∧ ∀ k, DOwn nb vs' k → w.heap.size ≤ k
theorem CloneI.done {base nb : Nat} {vs : List FV} {d : DD} {w wr : World} (h : CloneI base nb w.heap.size vs d w 3 wr) (hnb : w.heap.size ≤ nb) : CloneP base d w (.returned (.pointer (some ⟨nb, 0, none⟩))) wr := by
  obtain ⟨vsr, hd, hb, hf⟩ := h
  refine ⟨nb, vsr, rfl, hd, hb, fun k hk => ?_⟩
  rcases hk with rfl | ⟨v, hv, hk⟩
  · exact hnb
  · obtain ⟨i, hi⟩ := List.mem_iff_getElem?.1 hv
    have hlt : i < 3 := by rw [← hd.n3]; exact (List.getElem?_eq_some_iff.1 hi).1
    exact (hf i v hi).1 hlt k hk
theorem CloneI.step {base nb B : Nat} {vs vsr : List FV} {d : DD} {w wr w' : World} {k : Nat} {v' : FV} (hd : DAt w' base nb (vsr.set k v') d) (hb : Below B w wr) (ht : Turns (fun k => k = nb) wr w') (hnb : B ≤ nb) (hB : B ≤ wr.heap.size)
    (hf : ∀ (j : Nat) v, vsr[j]? = some v → (j < k → ∀ b, v.sv.ownBlock = some b → B ≤ b) ∧ (k ≤ j → vs[j]? = some v)) (hk : k < vsr.length) (hfr : ∀ b, v'.sv.ownBlock = some b → wr.heap.size ≤ b) : CloneI base nb B vs d w (k + 1) w' := by
  refine ⟨_, hd, hb.trans (ht.below hB (fun i hi => by rw [hi]; exact hnb)), fun j v hj => ?_⟩
  rw [List.getElem?_set] at hj
  by_cases hkj : k = j
  · subst hkj
    rw [if_pos rfl, if_pos hk] at hj
    cases hj
    exact ⟨fun _ b hb => Nat.le_trans hB (hfr b hb), fun h => by omega⟩
  · rw [if_neg hkj] at hj
    exact ⟨fun h => (hf j v hj).1 (by omega), fun h => (hf j v hj).2 (by omega)⟩
end Go.Proofs.YtgmahahhkaofbaaGreatDoor.Dk

namespace Go.Proofs.YtgmahahhkaofbaaGreatDoor.Dk
open Go.RowKit Go.Mir Go.Mir.Parts

theorem LeftD.same {w w' : World} {base db : Nat} {vs : List FV} {d : DD} (h : DAt w base db vs d) (hb : Below w.heap.size w w') : LeftD base db vs d w w' := ⟨vs, h.below hb, Turns.of_below hb, fun _ hk => .inl hk⟩
end Go.Proofs.YtgmahahhkaofbaaGreatDoor.Dk

namespace Go.Proofs.YtgmahahhkaofbaaGreatDoor.Dk
open Go.RowKit Go.Mir

/-- how many units a crash keeps -/
def crU (us : List Int) (k : Nat) (f : FD) : Nat := match us[k]? with
  | some x => ((x.tmod ((unitsAll f.steps + 1 : Nat) : Int) + ((unitsAll f.steps + 1 : Nat) : Int)).tmod ((unitsAll f.steps + 1 : Nat) : Int)).toNat
  | none => 0
def crF (us : List Int) : Nat → List FD → List FD
  | _, [] => []
  | k, f :: r => f.settle (crU us k f) :: crF us (k + 1) r
def crashD (us : List Int) (d : DD) : DD := ⟨crF us 0 d.fs, d.room, 0, false⟩
def crashM (us : List Int) (d : DD) (k : Nat) : DD := ⟨crF us 0 (d.fs.take k) ++ d.fs.drop k, d.room, d.fuse, d.down⟩
theorem crashM_zero (us : List Int) (d : DD) : crashM us d 0 = d := by simp [crashM, crF]
theorem crashM_get {us : List Int} {d : DD} (h : d.fs.length = 3) (k : Nat) (hk : k < 3) (hk2 : k < (crashM us d k).fs.length) : (crashM us d k).fs[k]'hk2 = d.fs[k]'(by omega) := by
  obtain ⟨fs, room, fuse, down⟩ := d
  obtain ⟨a, b, c, rfl⟩ := list3 h
  match k, hk with
  | 0, _ => rfl
  | 1, _ => rfl
  | 2, _ => rfl
theorem crashM_step {us : List Int} {d : DD} (h : d.fs.length = 3) (k : Nat) (hk : k < 3) : setF (crashM us d k) k ((d.fs[k]'(by omega)).settle (crU us k (d.fs[k]'(by omega)))) = crashM us d (k + 1) := by
  obtain ⟨fs, room, fuse, down⟩ := d
  obtain ⟨a, b, c, rfl⟩ := list3 h
  match k, hk with
  | 0, _ => rfl
  | 1, _ => rfl
  | 2, _ => rfl
theorem crU_le {us : List Int} {k : Nat} {f : FD} : crU us k f ≤ unitsAll f.steps := by
  unfold crU
  cases us[k]? with
  | none => exact Nat.zero_le _
  | some x =>
    dsimp only
    have h0 : (0 : Int) < ((unitsAll f.steps + 1 : Nat) : Int) := by omega
    have h1 := Int.tmod_lt_of_pos (x.tmod ((unitsAll f.steps + 1 : Nat) : Int) + ((unitsAll f.steps + 1 : Nat) : Int)) h0
    omega
/-- ints in memory -/
structure Ns (w : World) (p : Option Addr) (n c : Nat) (us : List Int) : Prop where
  sl : Sl w p n c 1 (us.map (Value.int .i64))
  count : us.length = n
  bd : ∀ x ∈ us, -9223372036854775808 ≤ x ∧ x ≤ 9223372036854775807
theorem Ns.turn {S : Nat → Prop} {w w' : World} {p : Option Addr} {n c : Nat} {us : List Int} (h : Ns w p n c us) (ht : Turns S w w') (hs : ∀ a, p = some a → ¬ S a.block) : Ns w' p n c us := ⟨h.sl.touch ht (fun a ha _ hk => hs a ha hk), h.count, h.bd⟩

set_option maxRecDepth 100000 in
set_option maxHeartbeats 1600000 in
theorem crash_any {base db : Nat} {vs : List FV} {d : DD} (w : World) (h : DAt w base db vs d) (hbase : base ≤ w.heap.size) (us : List Int) (p : Option Addr) (c : Nat) (hN : Ns w p us.length c us) (hap : ∀ a, p = some a → ¬ DOwn db vs a.block ∧ a.block < w.heap.size) :
    Calls Tryz.prog 31 #[.pointer (some ⟨db, 0, none⟩), .slice p us.length c] w fun e w' => e = .returned (.tuple #[]) ∧ LeftD base db vs (crashD us d) w w' := by
  have H := Lib.hid h
  have HBASE := Lib.hid hbase
  have HM3 := Lib.hid h.m3
  have HN := Lib.hid hN
  have HAP := Lib.hid hap
  have hle := hN.sl.le
  have hmax := hN.sl.max
  clear h hN hap
  go_enter Tryz.func31, Tryz.ntmps31
  go_wp2_with fail
  refine (none_any w H.out).mono ?_
  rintro e w' ⟨rfl, rfl⟩
  go_wp2_with fail
  go_loopw [10] (fun j wr => ∃ k : Nat, k ≤ 3 ∧ j = .int .i64 k ∧ LeftD base db vs (crashM us d k) w wr) (fun j _ => 3 - (intOf j).toNat)
  case atStart => exact ⟨0, by omega, rfl, vs, by rw [crashM_zero]; exact H.out, Turns.refl _ _, fun k hk => .inl hk⟩
  case round =>
    obtain ⟨k, hk, rfl, vs1, hd1, ht1, hn1⟩ := hrel
    have HD1 := Lib.hid hd1
    have HT1 := Lib.hid ht1
    have HN1 := Lib.hid hn1
    clear hd1 ht1 hn1
    by_cases hlt : k < 3
    · have hd : decide ((k : Int) < 3) = true := decide_eq_true (by omega)
      have hd2 : decide (k < 3) = true := decide_eq_true (by omega)
      have hk1 : (k : Int) < 3 := by omega
      have hk0 : (0 : Int) ≤ (k : Int) := by omega
      have HKL : Hid (k < (crashM us d k).fs.length) := by show _ < _; rw [HD1.out.m3]; exact hlt
      have HFE : Hid ((crashM us d k).fs[k]'HKL.out = d.fs[k]'(by have := HM3.out; omega)) := crashM_get HM3.out k hlt HKL.out
      have HSP := Lib.hid (crashM_step (us := us) HM3.out k hlt)
      have HU := Lib.hid (fileUnits_any wr HD1.out k HKL.out)
      rw [HFE.out] at HU
      have HUB : Hid (unitsAll (d.fs[k]'(by have := HM3.out; omega)).steps ≤ 1152921504606846976) := by
        show _ ≤ _
        have hv : k < vs1.length := by have := HD1.out.n3; omega
        have h1 := (HD1.out.each k _ _ (List.getElem?_eq_getElem hv) (List.getElem?_eq_getElem HKL.out)).ok.un
        have h2 := HD1.out.few _ (List.getElem_mem HKL.out)
        rw [HFE.out] at h1 h2
        omega
      have HCU : Hid (crU us k (d.fs[k]'(by have := HM3.out; omega)) ≤ unitsAll (d.fs[k]'(by have := HM3.out; omega)).steps) := crU_le
      generalize hff : d.fs[k]'(by have := HM3.out; omega) = f at *
      clear hff
      by_cases hku : k < us.length
      · have e0 : decide ((k : Int) < (us.length : Int)) = true := decide_eq_true (by omega)
        have e1 : decide (k < us.length) = true := decide_eq_true hku
        obtain ⟨g, o, rfl⟩ := HN.out.sl.addr (by omega) (by omega)
        have hcx : wr.cell? ⟨g, o + k, none⟩ = some (.int .i64 (us[k]'hku)) := HT1.out.cell (HN.out.sl.at (by simp [hku])) (fun hs => (HAP.out _ rfl).1 hs)
        have HXE : Hid (us[k]? = some (us[k]'hku)) := List.getElem?_eq_getElem hku
        have HXB := Lib.hid (HN.out.bd _ (List.getElem_mem hku))
        generalize us[k] = x at *
        have HCE : Hid (crU us k f = ((x.tmod ((unitsAll f.steps + 1 : Nat) : Int) + ((unitsAll f.steps + 1 : Nat) : Int)).tmod ((unitsAll f.steps + 1 : Nat) : Int)).toNat) := by show _ = _; unfold crU; rw [HXE.out]
        generalize hua : unitsAll f.steps = ua at *
        obtain ⟨A, hA⟩ : ∃ A, A = ua + 1 := ⟨_, rfl⟩
        have hA0 : 1 ≤ A := by omega
        have hAB : A ≤ 1152921504606846977 := by have := HUB.out; omega
        rw [← hA] at HCE
        have hua1 : IntKind.i64.wrap ((ua : Int) + 1) = (A : Int) := by rw [show ((ua : Int) + 1) = (A : Int) by omega]; exact IntWalk.i64_in _ (by omega)
        have hua2 : (ua : Int) + 1 = (A : Int) := by omega
        obtain ⟨r, hr⟩ : ∃ r, x.tmod (A : Int) = r := ⟨_, rfl⟩
        have hr1 : -(A : Int) < r ∧ r < (A : Int) := by
          rw [← hr]
          exact ⟨Int.lt_tmod_of_pos x (by omega), Int.tmod_lt_of_pos x (by omega)⟩
        obtain ⟨mm, hmm⟩ : ∃ mm : Nat, (r + (A : Int)).tmod (A : Int) = (mm : Int) := by
          have h1 : 0 ≤ (r + (A : Int)).tmod (A : Int) := Int.tmod_nonneg _ (by omega)
          exact ⟨((r + (A : Int)).tmod (A : Int)).toNat, by omega⟩
        have HME : Hid (mm = crU us k f) := by show _ = _; rw [HCE.out, hr, hmm]; simp
        have hmb : mm ≤ 4611686018427387904 := by have := HCU.out; have := HUB.out; have := HME.out; omega
        have hne0 : ((A : Int) == 0) = false := by rw [beq_eq_false_iff_ne]; omega
        have hne1 : ¬ (A : Int) = 0 := by omega
        have hne2 : ¬ A = 0 := by omega
        have hwr : IntKind.i64.wrap r = r := IntWalk.i64_in _ (by omega)
        have hws : IntKind.i64.wrap (r + (A : Int)) = r + (A : Int) := IntWalk.i64_in _ (by omega)
        have hwm : IntKind.i64.wrap (mm : Int) = (mm : Int) := IntWalk.i64_in _ (by omega)
        clear hA
        go_wp2_with fail
        refine (HU.out).mono ?_
        rintro e w2 ⟨rfl, hb2⟩
        have HB2 := Lib.hid hb2
        have hcx2 : w2.cell? ⟨g, o + k, none⟩ = some (.int .i64 x) := cell_below hcx hb2
        have HST := Lib.hid (settle_any w2 (HD1.out.below hb2) (Nat.le_trans HBASE.out (Nat.le_trans HT1.out.size hb2.size)) k HKL.out f HFE.out mm hmb)
        clear hb2 HU hcx
        go_wp2_with fail
        refine (HST.out).mono ?_
        rintro e w3 ⟨rfl, ⟨vs3, hd3, hn3⟩, ht3⟩
        have HL3 : Hid (LeftD base db vs (crashM us d (k + 1)) w w3) := by
          have hd3' := hd3
          have e1 : setF (crashM us d k) k (f.settle mm) = crashM us d (k + 1) := by rw [← HSP.out, HME.out]
          rw [e1] at hd3'
          refine LeftD.trans HN1.out HT1.out (LeftD.from HB2.out ⟨vs3, hd3', ht3.imp (fun k _ hk => .inl hk), fun k hk => ?_⟩)
          rcases hk with hk | ⟨v, hv, hk⟩
          · exact .inl (.inl hk)
          · exact .inl (.inr (hn3 v hv k hk))
        clear hd3 hn3 ht3 HST
        go_wp2_with fail
        go_roundw
        case rel => exact ⟨k + 1, by omega, by go_num, HL3.out⟩
        case measure => simp [intOf]; omega
      · have e0 : decide ((k : Int) < (us.length : Int)) = false := decide_eq_false (by omega)
        have e1 : decide (k < us.length) = false := decide_eq_false hku
        obtain ⟨mm, hmm⟩ : ∃ mm : Nat, mm = 0 := ⟨_, rfl⟩
        have HME : Hid (mm = crU us k f) := by show _ = _; unfold crU; rw [List.getElem?_eq_none (by omega), hmm]
        have HST := Lib.hid (settle_any wr HD1.out (Nat.le_trans HBASE.out HT1.out.size) k HKL.out f HFE.out mm (by omega))
        have hm0 : (mm : Int) = 0 := by omega
        rw [hm0] at HST
        clear hm0
        go_wp2_with fail
        refine (HST.out).mono ?_
        rintro e w3 ⟨rfl, ⟨vs3, hd3, hn3⟩, ht3⟩
        have HL3 : Hid (LeftD base db vs (crashM us d (k + 1)) w w3) := by
          have hd3' := hd3
          have e1 : setF (crashM us d k) k (f.settle mm) = crashM us d (k + 1) := by rw [← HSP.out, HME.out]
          rw [e1] at hd3'
          refine LeftD.trans HN1.out HT1.out (LeftD.from (Below.refl _ _) ⟨vs3, hd3', ht3.imp (fun k _ hk => .inl hk), fun k hk => ?_⟩)
          rcases hk with hk | ⟨v, hv, hk⟩
          · exact .inl (.inl hk)
          · exact .inl (.inr (hn3 v hv k hk))
        clear hd3 hn3 ht3 HST
        go_wp2_with fail
        go_roundw
        case rel => exact ⟨k + 1, by omega, by go_num, HL3.out⟩
        case measure => simp [intOf]; omega
    · have hd : decide ((k : Int) < 3) = false := decide_eq_false (by omega)
      have hd2 : decide (k < 3) = false := decide_eq_false (by omega)
      obtain rfl : k = 3 := by omega
      obtain ⟨hc0, hc1, hc2, hfz⟩ := HD1.out.cells
      have HL3 : Hid (LeftD base db vs (crashD us d) w ((wr.setCell ⟨db, 13, none⟩ (.int .i64 0)).setCell ⟨db, 14, none⟩ (.bool false))) := by
        have ht2 : Turns (fun k => k = db) wr ((wr.setCell ⟨db, 13, none⟩ (.int .i64 0)).setCell ⟨db, 14, none⟩ (.bool false)) := ((Turns.refl (fun k => k = db) wr).setCell (p := ⟨db, 13, none⟩) (fun _ => rfl) _).setCell (p := ⟨db, 14, none⟩) (fun _ => rfl) _
        obtain ⟨s1, _, _⟩ := dA_set HD1.out.n3 (crashM us d 3).room (crashM us d 3).fuse (crashM us d 3).down
        obtain ⟨_, s2, _⟩ := dA_set HD1.out.n3 (crashM us d 3).room 0 (crashM us d 3).down
        have r2 := cell_put (off := 13) (.int .i64 0) HD1.out.row
        have s1' := s1 0
        rw [show ((0 : Nat) : Int) = (0 : Int) from rfl] at s1'
        rw [s1'] at r2
        have r3 := cell_put (off := 14) (.bool false) r2
        rw [s2 false] at r3
        have hd4 := HD1.out.reRow ht2 r3 (by omega)
        have he : (⟨(crashM us d 3).fs, (crashM us d 3).room, 0, false⟩ : DD) = crashD us d := by
          have := HM3.out
          obtain ⟨fs, room, fuse, down⟩ := d
          obtain ⟨a, b, c, rfl⟩ := list3 this
          rfl
        rw [he] at hd4
        exact LeftD.trans HN1.out HT1.out (LeftD.row HD1.out hd4 ht2)
      go_wp2_with fail
      go_end0
      exact ⟨rfl, HL3.out⟩
end Go.Proofs.YtgmahahhkaofbaaGreatDoor.Dk
