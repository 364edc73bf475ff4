/- THE WALKS OF A DISK: a file settled. Conditions: none. -/
import Derived.Test.YtlmlcedjhpfeiaaDk4
import Derived.BigRegion
namespace Go.Proofs.Ytlmlcedjhpfeiaa.Dk
open Go.RowKit Go.Mir

theorem someU_take : ∀ (l : List St) (b : List UInt8) (u k : Nat), someU b (l.take k) u = someU b l (min u (unitsAll (l.take k)))
  | l, b, u, 0 => by rw [List.take_zero, unitsAll, Nat.min_zero, someU_zero, someU]
  | [], b, u, k + 1 => by simp [someU]
  | s :: r, b, u, k + 1 => by
    rw [List.take_succ_cons, someU, someU, unitsAll, someU_take r _ _ k]
    have h1 : min (min u (s.units + unitsAll (r.take k))) s.units = min u s.units := by omega
    have h2 : min u (s.units + unitsAll (r.take k)) - min u s.units = min (u - min u s.units) (unitsAll (r.take k)) := by omega
    rw [h1, h2]
theorem okAll_at : ∀ (l : List St) (b : List UInt8) (k : Nat) (hk : k < l.length), okAll b l → (l[k]).ok (runAll b (l.take k)).length
  | s :: r, b, 0, _, h => h.1
  | s :: r, b, k + 1, hk, h => by
    have := okAll_at r (s.act b s.units) k (by simpa using hk) h.2
    simpa [runAll] using this
/-- what a step's act wants of the bytes -/
theorem some_ok {l : List St} {b : List UInt8} {k u : Nat} (hk : k < l.length) (h : okAll b l) (hu : ¬ min (u - unitsAll (l.take k)) l[k].units = 0) : (l[k]).ok (someU b (l.take k) u).length := by
  rw [someU_all _ _ _ (by omega)]
  exact okAll_at l b k hk h
/-- a step done, by its interface -/
theorem mPutDo (x : Value) (w0 : World) : (method 210 68 x "mirador/disk.do").run Try.prog w0 = .ok (65, x) w0 := by kernel_rfl
theorem mCutDo (x : Value) (w0 : World) : (method 210 70 x "mirador/disk.do").run Try.prog w0 = .ok (67, x) w0 := by kernel_rfl
theorem nPutDo (x : Value) (w0 : World) : (nilAhead 210 68 x "mirador/disk.do").run Try.prog w0 = .ok (some false) w0 := by kernel_rfl
theorem nCutDo (x : Value) (w0 : World) : (nilAhead 210 70 x "mirador/disk.do").run Try.prog w0 = .ok (some false) w0 := by kernel_rfl
theorem inv_any {base : Nat} {w : World} {sv : Value} {s : St} (hs : StAt w base sv s) : ∃ x,
    (sv = .iface 68 x ∧ (∀ w0 : World, Calls Try.prog 66 #[x] w0 fun e w' => e = .returned (.int .i64 (s.units : Int)) ∧ Below w0.heap.size w0 w') ∧
      ∀ (p2 : Option Addr) (n2 c2 : Nat) (l : List UInt8) (u : Nat), u ≤ s.units → (¬ u = 0 → s.ok l.length) → n2 + u ≤ 140737488355328 → ∀ w0 : World, Below w.heap.size w w0 → base ≤ w0.heap.size → Rd w0 base (.slice p2 n2 c2) l → Calls Try.prog 65 #[x, .slice p2 n2 c2, .int .i64 (u : Int)] w0 (RdP base (s.act l u) w0)) ∨
    (sv = .iface 70 x ∧ (∀ w0 : World, Calls Try.prog 68 #[x] w0 fun e w' => e = .returned (.int .i64 (s.units : Int)) ∧ Below w0.heap.size w0 w') ∧
      ∀ (p2 : Option Addr) (n2 c2 : Nat) (l : List UInt8) (u : Nat), u ≤ s.units → (¬ u = 0 → s.ok l.length) → n2 + u ≤ 140737488355328 → ∀ w0 : World, Below w.heap.size w w0 → base ≤ w0.heap.size → Rd w0 base (.slice p2 n2 c2) l → Calls Try.prog 67 #[x, .slice p2 n2 c2, .int .i64 (u : Int)] w0 (RdP base (s.act l u) w0)) := by
  cases s with
  | put b =>
    obtain ⟨bv, rfl, hrd⟩ := hs
    obtain ⟨p, c, rfl, hbs⟩ := hrd.bs
    exact ⟨_, .inl ⟨rfl, fun w0 => putUnits_any _ _ _ _, fun p2 n2 c2 l u hu hok hsz w0 hb hbase hl => putDo_any p _ c b p2 n2 c2 l u w0 (hrd.below hb) hl hu hbase hsz⟩⟩
  | cut n =>
    cases hs
    refine ⟨_, .inr ⟨rfl, fun w0 => cutUnits_any _ _, fun p2 n2 c2 l u hu hok hsz w0 hb hbase hl => cutDo_any n p2 n2 c2 l u w0 hl ?_ hu⟩⟩
    by_cases h0 : u = 0
    · exact .inl h0
    · exact .inr (hok h0)
/-- a file's row while it is settled -/
structure Mid (w wr : World) (base db : Nat) (vs : List FV) (d : DD) (i : Nat) (v : FV) : Prop where
  row : wr.heap[db]? = some (.cells (dA (vs.set i v) d.room d.fuse d.down) 64 (0, 0))
  turn : Turns (fun k => k = db) w wr
theorem Mid.cells {w wr : World} {base db : Nat} {vs : List FV} {d : DD} {i : Nat} {v : FV} (h : Mid w wr base db vs d i v) (h3 : vs.length = 3) (hi : i < vs.length) : wr.cell? ⟨db, i * 4, none⟩ = some v.kv ∧ wr.cell? ⟨db, i * 4 + 1, none⟩ = some v.nv ∧ wr.cell? ⟨db, i * 4 + 2, none⟩ = some v.sv ∧ wr.cell? ⟨db, i * 4 + 3, none⟩ = some (.int .i64 (v.nd : Int)) ∧ ∀ j, wr.frozen? ⟨db, j, none⟩ = false := by
  have hl : (vs.set i v).length = 3 := by rw [List.length_set]; exact h3
  obtain ⟨h1, h2, h3', h4⟩ := dA_cells hl d.room d.fuse d.down
  obtain ⟨g1, g2, g3, g4⟩ := h4 i (by rw [List.length_set]; exact hi)
  rw [List.getElem_set_self] at g1 g2 g3 g4
  exact ⟨by rw [cell_of_row _ _ _ _ _ _ h.row]; exact g1, by rw [cell_of_row _ _ _ _ _ _ h.row]; exact g2, by rw [cell_of_row _ _ _ _ _ _ h.row]; exact g3, by rw [cell_of_row _ _ _ _ _ _ h.row]; exact g4, fun j => frozen_of_row _ _ _ _ _ h.row⟩
theorem Mid.below {w wr w' : World} {base db : Nat} {vs : List FV} {d : DD} {i : Nat} {v : FV} (h : Mid w wr base db vs d i v) (hb : Below wr.heap.size wr w') : Mid w w' base db vs d i v :=
  ⟨Below.keepOld hb h.row, h.turn.trans (Turns.of_below hb) (fun _ _ h => h)⟩
theorem Mid.put {w wr : World} {base db : Nat} {vs : List FV} {d : DD} {i : Nat} {v : FV} (h : Mid w wr base db vs d i v) (h3 : vs.length = 3) (hi : i < vs.length) :
    (∀ x, Mid w (wr.setCell ⟨db, i * 4, none⟩ x) base db vs d i ⟨x, v.nv, v.sv, v.nd⟩) ∧ (∀ x, Mid w (wr.setCell ⟨db, i * 4 + 1, none⟩ x) base db vs d i ⟨v.kv, x, v.sv, v.nd⟩) ∧ (∀ x, Mid w (wr.setCell ⟨db, i * 4 + 2, none⟩ x) base db vs d i ⟨v.kv, v.nv, x, v.nd⟩) ∧ (∀ n : Nat, Mid w (wr.setCell ⟨db, i * 4 + 3, none⟩ (.int .i64 (n : Int))) base db vs d i ⟨v.kv, v.nv, v.sv, n⟩) := by
  have hl : (vs.set i v).length = 3 := by rw [List.length_set]; exact h3
  obtain ⟨_, _, h4⟩ := dA_set hl d.room d.fuse d.down
  obtain ⟨g1, g2, g3, g4⟩ := h4 i (by rw [List.length_set]; exact hi)
  rw [List.getElem_set_self, ] at g1 g2 g3 g4
  simp only [List.set_set] at g1 g2 g3 g4
  refine ⟨fun x => ⟨?_, h.turn.setCell (p := ⟨db, i * 4, none⟩) (fun _ => rfl) _⟩, fun x => ⟨?_, h.turn.setCell (p := ⟨db, i * 4 + 1, none⟩) (fun _ => rfl) _⟩, fun x => ⟨?_, h.turn.setCell (p := ⟨db, i * 4 + 2, none⟩) (fun _ => rfl) _⟩, fun n => ⟨?_, h.turn.setCell (p := ⟨db, i * 4 + 3, none⟩) (fun _ => rfl) _⟩⟩
  · rw [← g1 x]; exact cell_put x h.row
  · rw [← g2 x]; exact cell_put x h.row
  · rw [← g3 x]; exact cell_put x h.row
  · rw [← g4 n]; exact cell_put _ h.row
/-- bytes of a disk's, though its own row has turned -/
theorem Rd.turn {w w' : World} {base db : Nat} {vs : List FV} {d : DD} {v : Value} {l : List UInt8} (h : DAt w base db vs d) (hr : Rd w base v l) (ht : Turns (fun k => k = db) w w') : Rd w' base v l :=
  hr.touch ht (fun k M fr hk e => by
    subst e
    rw [h.row] at hk
    injection hk with e1
    injection e1 with _ e2
    exact absurd e2 (by decide))
def setF (d : DD) (i : Nat) (f : FD) : DD := ⟨d.fs.set i f, d.room, d.fuse, d.down⟩
def SettleP (base db : Nat) (vs : List FV) (d : DD) (i : Nat) (f : FD) (w : World) (e : Ending) (w' : World) : Prop := e = .returned (.tuple #[]) ∧ (∃ vs', DAt w' base db vs' (setF d i f) ∧ ∀ v ∈ vs', ∀ k, v.sv.ownBlock = some k → ∃ v0 ∈ vs, v0.sv.ownBlock = some k) ∧ Turns (fun k => k = db) w w'
/-- a file settled, put together -/
theorem settle_end {w w' : World} {base db : Nat} {vs : List FV} {d : DD} {i u : Nat} {f : FD} {kv : Value} (h : DAt w base db vs d) (hi : i < d.fs.length) (hv : i < vs.length) (hf : d.fs[i] = f) (hm : Mid w w' base db vs d i ⟨kv, kv, .slice none 0 0, (someU f.kept f.steps u).length⟩) (hr : Rd w' base kv (someU f.kept f.steps u)) :
    DAt w' base db (vs.set i ⟨kv, kv, .slice none 0 0, (someU f.kept f.steps u).length⟩) (setF d i (f.settle u)) := by
  have hid : ∀ k M fr, w.heap[k]? = some (.cells M 5 fr) → ¬ k = db := fun k M fr hk e => by
    subst e
    rw [h.row] at hk
    injection hk with e1
    injection e1 with _ e2
    exact absurd e2 (by decide)
  have hle : (someU f.kept f.steps u).length ≤ f.need := by
    have := (h.each i _ _ (List.getElem?_eq_getElem hv) (List.getElem?_eq_getElem hi)).ok.all u
    rwa [hf] at this
  refine ⟨hm.row, h.low, by rw [List.length_set]; exact h.n3, by show (d.fs.set i _).length = 3; rw [List.length_set]; exact h.m3, ?_, ?_, h.room1, h.fuse1, ?_, ?_⟩
  · intro j v g h1 h2
    replace h2 : (d.fs.set i (f.settle u))[j]? = some g := h2
    rw [List.getElem?_set] at h1 h2
    by_cases hij : i = j
    · subst hij
      rw [if_pos rfl, if_pos hv] at h1
      rw [if_pos rfl, if_pos hi] at h2
      cases h1; cases h2
      exact ⟨hr, hr, ⟨[], World.ownsRow_nil _ _ _ _, fun i x s h => by simp at h⟩, rfl, FD.settle_ok f u⟩
    · rw [if_neg hij] at h1 h2
      obtain ⟨vals, ho, _⟩ := (h.each j v g h1 h2).steps
      exact (h.each j v g h1 h2).touch hm.turn hid (fun k hk => own_ne_cells' ho h.row (by decide) k hk)
  · intro j j' v v' k h1 h2 h3 h4
    rw [List.getElem?_set] at h1 h2
    by_cases hij : i = j
    · subst hij
      rw [if_pos rfl, if_pos hv] at h1
      cases h1
      simp [Value.ownBlock] at h3
    · by_cases hij' : i = j'
      · subst hij'
        rw [if_pos rfl, if_pos hv] at h2
        cases h2
        simp [Value.ownBlock] at h4
      · rw [if_neg hij] at h1
        rw [if_neg hij'] at h2
        exact h.apart j j' v v' k h1 h2 h3 h4
  · show usedL (d.fs.set i _) ≤ d.room
    have h1 := usedL_set hi (f.settle u)
    rw [hf] at h1
    have h2 : (f.settle u).need = (someU f.kept f.steps u).length := rfl
    have h3 := h.used
    omega
  · intro g hg
    rcases List.mem_or_eq_of_mem_set hg with hg | hg
    · exact h.few g hg
    · rw [hg]; exact Nat.zero_le _

set_option maxRecDepth 100000 in
set_option maxHeartbeats 1600000 in
theorem settle_any {base db : Nat} {vs : List FV} {d : DD} (w : World) (h : DAt w base db vs d) (hbase : base ≤ w.heap.size) (i : Nat) (hi : i < d.fs.length) (f : FD) (hf : d.fs[i] = f) (u : Nat) (hu : u ≤ 4611686018427387904) :
    Calls Try.prog 32 #[.pointer (some ⟨db, i * 4, none⟩), .int .i64 (u : Int)] w (SettleP base db vs d i (f.settle u) w) := by
  have hv : i < vs.length := by have := h.n3; have := h.m3; omega
  have HM0 : Hid (Mid w w base db vs d i (vs[i]'hv)) := ⟨by rw [List.set_getElem_self]; exact h.row, Turns.refl _ _⟩
  have H := Lib.hid h
  have HFE := Lib.hid hf
  have hc := (h.file i hv).2.2.1
  have hF := h.each i _ _ (List.getElem?_eq_getElem hv) (List.getElem?_eq_getElem hi)
  rw [hf] at hF
  have hfew := h.few _ (List.getElem_mem hi)
  rw [hf] at hfew
  obtain ⟨vals, ho, hst⟩ := hF.steps
  obtain ⟨p, c, e, hs⟩ := own_sl ho
  have HNE : Hid (f.need ≤ 65536) := by
    show _ ≤ _
    have h1 := usedL_mem hi
    rw [hf] at h1
    have := h.used
    have := h.room1
    omega
  have HOK := Lib.hid hF.ok
  have HKP := Lib.hid hF.kept
  have hun := hF.ok.un
  rw [e] at hc
  have HSV := Lib.hid e
  have HGN : Hid (∀ a, p = some a → ¬ a.block = db) := fun a ha => by
    have := own_ne_cells' ho H.out.row (by decide) a.block (by rw [e, ha]; rfl)
    exact this
  have HS := Lib.hid hs
  have HST := Lib.hid hst
  have hle := hs.le
  have hmax := hs.max
  have HVL : Hid (vals.length = f.steps.length) := by show _ = _; have := hs.len; omega
  have HBASE := Lib.hid hbase
  have HI := Lib.hid hi
  have HV := Lib.hid hv
  generalize hvv : vs[i] = v0 at *
  clear ho hst hs e hF h hf hvv
  go_enter Try.func32, Try.ntmps32
  go_wp2_with fail
  clear hc
  go_loopw [1, 12] (fun a j wr => ∃ (k : Nat) (kv : Value), k ≤ f.steps.length ∧ j = .int .i64 k ∧ a = .int .i64 ((u - unitsAll (f.steps.take k) : Nat) : Int) ∧ Mid w wr base db vs d i ⟨kv, v0.nv, v0.sv, v0.nd⟩ ∧ Rd wr base kv (someU f.kept (f.steps.take k) u)) (fun _ j _ => f.steps.length - (intOf j).toNat)
  case atStart => exact ⟨0, v0.kv, by omega, rfl, rfl, HM0.out, HKP.out⟩
  case round =>
    obtain ⟨k, kv, hk, rfl, rfl, hmid, hrd⟩ := hrel
    have HMID := Lib.hid hmid
    have HRD := Lib.hid hrd
    clear hmid hrd
    by_cases hlt : k < f.steps.length
    · have hd : decide ((k : Int) < (f.steps.length : Int)) = true := decide_eq_true (by omega)
      have hd2 : decide (k < f.steps.length) = true := decide_eq_true hlt
      obtain ⟨g, o, rfl⟩ := HS.out.addr (by omega) (by omega)
      have hkv : k < vals.length := by rw [HVL.out]; exact hlt
      have hsat := HST.out k _ _ (List.getElem?_eq_getElem hkv) (List.getElem?_eq_getElem hlt)
      have HSTP := Lib.hid (someU_snoc (f.steps[k]) (f.steps.take k) f.kept u)
      rw [← List.take_succ_eq_append_getElem hlt] at HSTP
      have HUN := Lib.hid (unitsAll_take_succ (l := f.steps) hlt)
      have HSO := Lib.hid (fun h0 => some_ok (u := u) hlt HOK.out.ok h0)
      have HKB : Hid ((someU f.kept (f.steps.take k) u).length ≤ 65536) := by
        show _ ≤ _
        rw [someU_take]
        exact Nat.le_trans (HOK.out.all _) HNE.out
      have hcw : wr.cell? ⟨g, o + k, none⟩ = some (vals[k]'hkv) := HMID.out.turn.cell (HS.out.at (List.getElem?_eq_getElem hkv)) (fun e => HGN.out ⟨g, o, none⟩ rfl e)
      have hid8 : ∀ k M fr, w.heap[k]? = some (.cells M 5 fr) → ¬ k = db := fun k M fr hk e => by
        subst e
        have hr := H.out.row
        rw [hr] at hk
        injection hk with e1
        injection e1 with _ e2
        exact absurd e2 (by decide)
      have HEU := Lib.hid (HOK.out.eu _ (List.getElem_mem hlt))
      obtain ⟨x, hinv⟩ := inv_any (hsat.touch HMID.out.turn hid8)
      obtain ⟨pk, ck, hkv2, hbs⟩ := HRD.out.bs
      subst hkv2
      generalize f.steps[k] = s at *
      generalize hkb : someU f.kept (f.steps.take k) u = kb at *
      generalize hua : unitsAll (f.steps.take k) = ua at *
      obtain ⟨hc0, hc1, hc2, hc3, hfz⟩ := HMID.out.cells H.out.n3 HV.out
      obtain ⟨m, hm⟩ : ∃ m, m = min (u - ua) s.units := ⟨_, rfl⟩
      have hmi : (if ((s.units : Nat) : Int) < ((u - ua : Nat) : Int) then ((s.units : Nat) : Int) else ((u - ua : Nat) : Int)) = (m : Int) := by
        split <;> omega
      have hmi2 : (if s.units < u - ua then ((s.units : Nat) : Int) else ((u - ua : Nat) : Int)) = (m : Int) := by
        split <;> omega
      rcases hinv with ⟨hx, hcu, hcd⟩ | ⟨hx, hcu, hcd⟩
      · rw [hx] at hcw
        have HCU := Lib.hid hcu
        have HCD := Lib.hid hcd
        have hm1 := mPutUnits
        have hm2 := mPutDo
        have hm3 := nPutDo
        clear hcu hcd hx hbs hsat hid8
        go_wp2_with fail
        refine (HCU.out _).mono ?_
        rintro e w2 ⟨rfl, hb2⟩
        go_upto_region 4 with fail
        rw [← hm]
        have HM2 := Lib.hid (HMID.out.below hb2)
        have HR2 := Lib.hid (HRD.out.below hb2)
        have HB2 := Lib.hid hb2
        have HMS : Hid (m ≤ s.units ∧ m ≤ u - ua ∧ m ≤ 65536 * 4398046511104 + 65536) := by
          show _ ∧ _ ∧ _
          have h1 := unitsAll_take_le (l := f.steps) (k + 1)
          rw [HUN.out] at h1
          omega
        have HOKM : Hid (¬ m = 0 → s.ok kb.length) := fun h0 => HSO.out (by rw [← hm]; exact h0)
        have HSTM : Hid (someU f.kept (f.steps.take (k + 1)) u = s.act kb m) := by show _ = _; rw [HSTP.out, hm]
        have HUM : Hid (u - unitsAll (f.steps.take (k + 1)) = u - ua - m) := by show _ = _; rw [HUN.out]; omega
        clear hm hmi hmi2 hb2 hc0 hc1 hc2 hc3 hfz hcw
        have hkc : Hid (∀ w', Below w2.heap.size w2 w' → w'.cell? ⟨db, i * 4, none⟩ = some (.slice pk kb.length ck)) := fun w' hb => (HM2.out.below hb).cells H.out.n3 HV.out |>.1
        have HBW : Hid (base ≤ w2.heap.size) := Nat.le_trans HBASE.out HM2.out.turn.size
        try simp only [Act.put, List.setIfInBounds_toArray, List.set_cons_zero, List.set_cons_succ]
        refine wp_region_eager_t (Below w2.heap.size w2) [0, 1, 2, 3, 4, 5, 6, 7, 8, 9, 11, 12] [(0, true), (1, true), (2, true), (3, true), (4, true), (5, true), (6, true), (7, true), (8, true), (9, true), (10, false), (11, true), (12, true)] [13] (by kernel_rfl) (by kernel_rfl) ?_ (eagerTOpen rfl ?_)
        · exact below_drew1 _ _
        have hy0 : Below w2.heap.size w2 w2.drew := below_drew1 _ _
        repeat (first
          | (first | (apply wpEagerT_take; (· rfl); (· (intro w' hb'; go_simp; try with_reducible rfl)); (try simp only [Act.put, List.setIfInBounds_toArray, List.set_cons_zero, List.set_cons_succ]); (try refine eagerTOpen rfl ?_)) | (refine wpEagerT_skip (by rfl) ?_; (try simp only [Act.put, List.setIfInBounds_toArray, List.set_cons_zero, List.set_cons_succ]); (try refine eagerTOpen rfl ?_)))
          | (apply wpEagerT_take; (· rfl); (· (intro w' hb'; have hk' := (hkc.out) w' hb'; go_split_ands; go_simp; try with_reducible rfl)); (try simp only [Act.put, List.setIfInBounds_toArray, List.set_cons_zero, List.set_cons_succ]); (try refine eagerTOpen rfl ?_)))
        (refine wpEagerT_op (by rfl) (fun K hK => ?_); go_simp; (refine (HCD.out pk kb.length ck kb m HMS.out.1 HOKM.out (by have := HKB.out; have := HMS.out; have := HEU.out; omega) _ (HB2.out.trans (hy0.mono HB2.out.size)) HBW.out (HR2.out.below hy0)).mono ?_; rintro e y ⟨p9, c9, rfl, hr9, hb9⟩; have HR9 := Lib.hid hr9; have hy1 : Below w2.heap.size w2 y := hy0.trans hb9; clear hr9 hb9); refine Shut.out hK _ _ (by assumption) ?_; clear hK K; (try simp only [Act.put, List.setIfInBounds_toArray, List.set_cons_zero, List.set_cons_succ]); (try refine eagerTOpen rfl ?_))
        repeat (first | (apply wpEagerT_take; (· rfl); (· (intro w' hb'; go_simp; try with_reducible rfl)); (try simp only [Act.put, List.setIfInBounds_toArray, List.set_cons_zero, List.set_cons_succ]); (try refine eagerTOpen rfl ?_)) | (refine wpEagerT_skip (by rfl) ?_; (try simp only [Act.put, List.setIfInBounds_toArray, List.set_cons_zero, List.set_cons_succ]); (try refine eagerTOpen rfl ?_)))
        refine eagerTEnd (tail1 rfl ?_)
        have HMY := Lib.hid (HM2.out.below hy1)
        obtain ⟨hc0, hc1, hc2, hc3, hfz⟩ := HMY.out.cells H.out.n3 HV.out
        have HMZ := Lib.hid ((HMY.out.put H.out.n3 HV.out).1 (.slice p9 (s.act kb m).length c9))
        have HRZ : Hid (Rd (y.setCell ⟨db, i * 4, none⟩ (.slice p9 (s.act kb m).length c9)) base (.slice p9 (s.act kb m).length c9) (s.act kb m)) := by
          have ht : Turns (fun k => k = db) y (y.setCell ⟨db, i * 4, none⟩ (.slice p9 (s.act kb m).length c9)) := (Turns.refl (fun k => k = db) y).setCell (p := ⟨db, i * 4, none⟩) (fun _ => rfl) _
          refine HR9.out.touch ht (fun k M fr hk e => ?_)
          subst e
          rw [HMY.out.row] at hk
          injection hk with e1
          injection e1 with _ e2
          exact absurd e2 (by decide)
        clear hy0 hy1
        go_wp2_with fail
        refine noPanic_end ?_
        generalize y.setCell ⟨db, i * 4, none⟩ (.slice p9 (s.act kb m).length c9) = wz at *
        have hsub : ((u - ua : Nat) : Int) - (m : Int) = ((u - ua - m : Nat) : Int) := by have := HMS.out; omega
        have hws : IntKind.i64.wrap (((u - ua : Nat) : Int) - (m : Int)) = ((u - ua - m : Nat) : Int) := by rw [hsub]; exact IntWalk.i64_in _ (by omega)
        clear hc0 hc1 hc2 hc3 hfz hkc hsub
        go_wp2_with fail
        go_roundw
        case rel => exact ⟨k + 1, _, by omega, by go_num, by rw [HUM.out], HMZ.out, by rw [HSTM.out]; exact HRZ.out⟩
        case measure => simp [intOf]; omega
      · rw [hx] at hcw
        have HCU := Lib.hid hcu
        have HCD := Lib.hid hcd
        have hm1 := mCutUnits
        have hm2 := mCutDo
        have hm3 := nCutDo
        clear hcu hcd hx hbs hsat hid8
        go_wp2_with fail
        refine (HCU.out _).mono ?_
        rintro e w2 ⟨rfl, hb2⟩
        go_upto_region 4 with fail
        rw [← hm]
        have HM2 := Lib.hid (HMID.out.below hb2)
        have HR2 := Lib.hid (HRD.out.below hb2)
        have HB2 := Lib.hid hb2
        have HMS : Hid (m ≤ s.units ∧ m ≤ u - ua ∧ m ≤ 65536 * 4398046511104 + 65536) := by
          show _ ∧ _ ∧ _
          have h1 := unitsAll_take_le (l := f.steps) (k + 1)
          rw [HUN.out] at h1
          omega
        have HOKM : Hid (¬ m = 0 → s.ok kb.length) := fun h0 => HSO.out (by rw [← hm]; exact h0)
        have HSTM : Hid (someU f.kept (f.steps.take (k + 1)) u = s.act kb m) := by show _ = _; rw [HSTP.out, hm]
        have HUM : Hid (u - unitsAll (f.steps.take (k + 1)) = u - ua - m) := by show _ = _; rw [HUN.out]; omega
        clear hm hmi hmi2 hb2 hc0 hc1 hc2 hc3 hfz hcw
        have hkc : Hid (∀ w', Below w2.heap.size w2 w' → w'.cell? ⟨db, i * 4, none⟩ = some (.slice pk kb.length ck)) := fun w' hb => (HM2.out.below hb).cells H.out.n3 HV.out |>.1
        have HBW : Hid (base ≤ w2.heap.size) := Nat.le_trans HBASE.out HM2.out.turn.size
        try simp only [Act.put, List.setIfInBounds_toArray, List.set_cons_zero, List.set_cons_succ]
        refine wp_region_eager_t (Below w2.heap.size w2) [0, 1, 2, 3, 4, 5, 6, 7, 8, 9, 11, 12] [(0, true), (1, true), (2, true), (3, true), (4, true), (5, true), (6, true), (7, true), (8, true), (9, true), (10, false), (11, true), (12, true)] [13] (by kernel_rfl) (by kernel_rfl) ?_ (eagerTOpen rfl ?_)
        · exact below_drew1 _ _
        have hy0 : Below w2.heap.size w2 w2.drew := below_drew1 _ _
        repeat (first
          | (first | (apply wpEagerT_take; (· rfl); (· (intro w' hb'; go_simp; try with_reducible rfl)); (try simp only [Act.put, List.setIfInBounds_toArray, List.set_cons_zero, List.set_cons_succ]); (try refine eagerTOpen rfl ?_)) | (refine wpEagerT_skip (by rfl) ?_; (try simp only [Act.put, List.setIfInBounds_toArray, List.set_cons_zero, List.set_cons_succ]); (try refine eagerTOpen rfl ?_)))
          | (apply wpEagerT_take; (· rfl); (· (intro w' hb'; have hk' := (hkc.out) w' hb'; go_split_ands; go_simp; try with_reducible rfl)); (try simp only [Act.put, List.setIfInBounds_toArray, List.set_cons_zero, List.set_cons_succ]); (try refine eagerTOpen rfl ?_)))
        (refine wpEagerT_op (by rfl) (fun K hK => ?_); go_simp; (refine (HCD.out pk kb.length ck kb m HMS.out.1 HOKM.out (by have := HKB.out; have := HMS.out; have := HEU.out; omega) _ (HB2.out.trans (hy0.mono HB2.out.size)) HBW.out (HR2.out.below hy0)).mono ?_; rintro e y ⟨p9, c9, rfl, hr9, hb9⟩; have HR9 := Lib.hid hr9; have hy1 : Below w2.heap.size w2 y := hy0.trans hb9; clear hr9 hb9); refine Shut.out hK _ _ (by assumption) ?_; clear hK K; (try simp only [Act.put, List.setIfInBounds_toArray, List.set_cons_zero, List.set_cons_succ]); (try refine eagerTOpen rfl ?_))
        repeat (first | (apply wpEagerT_take; (· rfl); (· (intro w' hb'; go_simp; try with_reducible rfl)); (try simp only [Act.put, List.setIfInBounds_toArray, List.set_cons_zero, List.set_cons_succ]); (try refine eagerTOpen rfl ?_)) | (refine wpEagerT_skip (by rfl) ?_; (try simp only [Act.put, List.setIfInBounds_toArray, List.set_cons_zero, List.set_cons_succ]); (try refine eagerTOpen rfl ?_)))
        refine eagerTEnd (tail1 rfl ?_)
        have HMY := Lib.hid (HM2.out.below hy1)
        obtain ⟨hc0, hc1, hc2, hc3, hfz⟩ := HMY.out.cells H.out.n3 HV.out
        have HMZ := Lib.hid ((HMY.out.put H.out.n3 HV.out).1 (.slice p9 (s.act kb m).length c9))
        have HRZ : Hid (Rd (y.setCell ⟨db, i * 4, none⟩ (.slice p9 (s.act kb m).length c9)) base (.slice p9 (s.act kb m).length c9) (s.act kb m)) := by
          have ht : Turns (fun k => k = db) y (y.setCell ⟨db, i * 4, none⟩ (.slice p9 (s.act kb m).length c9)) := (Turns.refl (fun k => k = db) y).setCell (p := ⟨db, i * 4, none⟩) (fun _ => rfl) _
          refine HR9.out.touch ht (fun k M fr hk e => ?_)
          subst e
          rw [HMY.out.row] at hk
          injection hk with e1
          injection e1 with _ e2
          exact absurd e2 (by decide)
        clear hy0 hy1
        go_wp2_with fail
        refine noPanic_end ?_
        generalize y.setCell ⟨db, i * 4, none⟩ (.slice p9 (s.act kb m).length c9) = wz at *
        have hsub : ((u - ua : Nat) : Int) - (m : Int) = ((u - ua - m : Nat) : Int) := by have := HMS.out; omega
        have hws : IntKind.i64.wrap (((u - ua : Nat) : Int) - (m : Int)) = ((u - ua - m : Nat) : Int) := by rw [hsub]; exact IntWalk.i64_in _ (by omega)
        clear hc0 hc1 hc2 hc3 hfz hkc hsub
        go_wp2_with fail
        go_roundw
        case rel => exact ⟨k + 1, _, by omega, by go_num, by rw [HUM.out], HMZ.out, by rw [HSTM.out]; exact HRZ.out⟩
        case measure => simp [intOf]; omega
    · have hd : decide ((k : Int) < (f.steps.length : Int)) = false := decide_eq_false (by omega)
      have hd2 : decide (k < f.steps.length) = false := decide_eq_false hlt
      have HT : Hid (f.steps.take k = f.steps) := by show _ = _; rw [List.take_of_length_le (by omega)]
      rw [HT.out] at HRD
      obtain ⟨pk, ck, hkv, hbs⟩ := HRD.out.bs
      subst hkv
      obtain ⟨hc0, hc1, hc2, hc3, hfz⟩ := HMID.out.cells H.out.n3 HV.out
      have hle2 := HRD.out.lens
      have HBW : Hid (base ≤ wr.heap.size) := Nat.le_trans HBASE.out HMID.out.turn.size
      have HBS := Lib.hid hbs
      have HL : Hid ((someU f.kept f.steps u).length ≤ 65536) := Nat.le_trans (HOK.out.all u) HNE.out
      generalize hkk : someU f.kept f.steps u = kk at *
      clear hbs
      obtain ⟨_, hkc, hcm⟩ := hle2
      have hL : kk.length ≤ 65536 := HL.out
      go_upto_region 8 with (refine wpList_append_nx rfl _ _ 22 rfl (base := wr.heap.size) Try.underlying22 info8 rfl (by omega) rfl (World.ownsRow_nil _ _ _ _) rfl HBS.out (bytesV_one _) ⟨by omega, by omega⟩ (Nat.le_refl _) ?_)
      intro p9 c9 w9 ho9 hg9 _ _
      have hb9 : Below wr.heap.size wr w9 := (Below.refl _ _).grown hg9 (Nat.le_refl _) (fun k hk => by simp [Value.ownBlock] at hk)
      have HR9 : Hid (Rd w9 base (.slice p9 kk.length c9) kk) := (Rd.of_own ho9).base HBW.out
      have HM9 := Lib.hid (HMID.out.below hb9)
      have HMA := Lib.hid ((HM9.out.put H.out.n3 HV.out).1 (.slice p9 kk.length c9))
      have hfz9 := (HM9.out.cells H.out.n3 HV.out).2.2.2.2
      have hc90 := (HM9.out.cells H.out.n3 HV.out).1
      clear ho9 hg9 hb9 hc0 hc1 hc2 hc3 hfz
      go_upto_region 8 with fail
      have HRA : Hid (Rd (w9.setCell ⟨db, i * 4, none⟩ (.slice p9 kk.length c9)) base (.slice p9 kk.length c9) kk) := by
        have ht : Turns (fun k => k = db) w9 (w9.setCell ⟨db, i * 4, none⟩ (.slice p9 kk.length c9)) := (Turns.refl (fun k => k = db) w9).setCell (p := ⟨db, i * 4, none⟩) (fun _ => rfl) _
        refine HR9.out.touch ht (fun k M fr hk e => ?_)
        subst e
        rw [HM9.out.row] at hk
        injection hk with e1
        injection e1 with _ e2
        exact absurd e2 (by decide)
      generalize w9.setCell ⟨db, i * 4, none⟩ (.slice p9 kk.length c9) = wa at *
      obtain ⟨hc0, hc1, hc2, hc3, hfz⟩ := HMA.out.cells H.out.n3 HV.out
      clear hfz9 hc90
      try simp only [Act.put, List.setIfInBounds_toArray, List.set_cons_zero, List.set_cons_succ]
      go_region
      have HMB := Lib.hid ((HMA.out.put H.out.n3 HV.out).2.1 (.slice p9 kk.length c9))
      have HMC := Lib.hid ((HMB.out.put H.out.n3 HV.out).2.2.1 (.slice none 0 0))
      have HMD := Lib.hid ((HMC.out.put H.out.n3 HV.out).2.2.2 kk.length)
      have HT3 : Hid (Turns (fun k => k = db) wa (((wa.setCell ⟨db, i * 4 + 1, none⟩ (.slice p9 kk.length c9)).setCell ⟨db, i * 4 + 2, none⟩ (.slice none 0 0)).setCell ⟨db, i * 4 + 3, none⟩ (.int .i64 (kk.length : Int)))) :=
        (((Turns.refl (fun k => k = db) wa).setCell (p := ⟨db, i * 4 + 1, none⟩) (fun _ => rfl) _).setCell (p := ⟨db, i * 4 + 2, none⟩) (fun _ => rfl) _).setCell (p := ⟨db, i * 4 + 3, none⟩) (fun _ => rfl) _
      have HRB : Hid (Rd (((wa.setCell ⟨db, i * 4 + 1, none⟩ (.slice p9 kk.length c9)).setCell ⟨db, i * 4 + 2, none⟩ (.slice none 0 0)).setCell ⟨db, i * 4 + 3, none⟩ (.int .i64 (kk.length : Int))) base (.slice p9 kk.length c9) kk) := by
        refine HRA.out.touch HT3.out (fun k M fr hk e => ?_)
        subst e
        rw [HMA.out.row] at hk
        injection hk with e1
        injection e1 with _ e2
        exact absurd e2 (by decide)
      clear HMB HMC hc0 hc1 hc2 hc3 hfz HT3
      generalize ((wa.setCell ⟨db, i * 4 + 1, none⟩ (.slice p9 kk.length c9)).setCell ⟨db, i * 4 + 2, none⟩ (.slice none 0 0)).setCell ⟨db, i * 4 + 3, none⟩ (.int .i64 (kk.length : Int)) = wb at *
      have HME := Lib.hid (HMD.out.below (below_drew1 _ wb))
      have HRE := Lib.hid (HRB.out.below (below_drew1 _ wb))
      go_wp2_with fail
      go_end0
      refine ⟨rfl, ⟨_, settle_end H.out HI.out HV.out HFE.out (kv := .slice p9 kk.length c9) ?_ ?_, fun v hv k hk => ?_⟩, HME.out.turn⟩
      · rw [hkk]; exact HME.out
      · rw [hkk]; exact HRE.out
      · rcases List.mem_or_eq_of_mem_set hv with hv | rfl
        · exact ⟨v, hv, hk⟩
        · simp [Value.ownBlock] at hk
end Go.Proofs.Ytlmlcedjhpfeiaa.Dk
