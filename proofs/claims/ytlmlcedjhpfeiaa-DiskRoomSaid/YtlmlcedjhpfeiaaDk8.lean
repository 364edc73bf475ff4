/- THE WALKS OF A DISK: bytes put, a cut, a sync. Conditions: none. -/
import Derived.Test.YtlmlcedjhpfeiaaDk7
namespace Go.Proofs.Ytlmlcedjhpfeiaa.Dk
open Go.RowKit Go.Mir

theorem LeftD.from {w w1 w2 : World} {base db : Nat} {vs : List FV} {d2 : DD} (hb : Below w.heap.size w w1) (h : LeftD base db vs d2 w1 w2) : LeftD base db vs d2 w w2 :=
  LeftD.trans (fun k hk => .inl hk) (Turns.of_below hb) h
theorem wpList_build {P : Program} {w : World} {ops : Array Oper} {rest : List Oper} {o : Oper} {a : Act} {Q : Exit → Act → World → Prop} (hgd : o.guard = none) (t : TypeId) (parts : Array (Nat × Operand)) (ho : o.op = .build t parts)
    (vals : List (Nat × Value)) (hv : (parts.toList.map fun p => (p.1, a.eval p.2)) = vals) (cells : Array Value) (h : P.built t vals = some cells) (k : wpList P ops Q rest (a.put o.dst (.agg cells)) w) : wpList P ops Q (o :: rest) a w := by
  refine wpList_plain hgd fun K hK => ?_
  unfold Oper.wp execOp
  have hb : P.built t (parts.map fun p => (p.1, a.eval p.2)).toList = some cells := by rw [Array.toList_map, hv]; exact h
  simp only [ho, Sem.run_bind, Sem.run_pure, Result.andThen_ok, run_build w t _ cells hb]
  exact hK _ _ k
theorem build_put (p : Option Addr) (n c : Nat) : Try.prog.built 68 [(0, .slice p n c)] = some #[.slice p n c] := by kernel_rfl
theorem build_cut (n : Int) : Try.prog.built 70 [(0, .int .i64 n)] = some #[.int .i64 n] := by kernel_rfl
set_option maxRecDepth 100000 in
theorem append_in {base db : Nat} {vs : List FV} {d : DD} (w : World) (h : DAt w base db vs d) (hbase : base ≤ w.heap.size) (i : Nat) (hi : i < d.fs.length) (f : FD) (hf : d.fs[i] = f) (p : Option Addr) (n c : Nat) (b : List UInt8) (hb : Bs w p n c b) (hn : n ≤ 140737488355328) (hfew : f.steps.length + 1 ≤ 4398046511104) :
    Calls Try.prog 10 #[.pointer (some ⟨db, 0, none⟩), .int .i64 (i : Int), .slice p n c] w (DoP base db vs d i f (.put b) w) := by
  have HBS := Lib.hid hb
  have hle := hb.le
  have hmax := hb.max
  have HNL : Hid (b.length = n) := hb.length
  have H := Lib.hid h
  have HBASE := Lib.hid hbase
  have HI := Lib.hid hi
  have HFE := Lib.hid hf
  clear hb h hf
  go_enter Try.func10, Try.ntmps10
  go_wp2_with (refine wpList_append_nx rfl _ _ 22 rfl (base := w.heap.size) Try.underlying22 info8 rfl (by omega) rfl (World.ownsRow_nil _ _ _ _) rfl HBS.out (bytesV_one _) ⟨by omega, by omega⟩ (Nat.le_refl _) ?_)
  intro p9 c9 w9 ho9 hg9 _ _
  have hb9 : Below w.heap.size w w9 := (Below.refl _ _).grown hg9 (Nat.le_refl _) (fun k hk => by simp [Value.ownBlock] at hk)
  have HB9 := Lib.hid hb9
  have HR9 : Hid (Rd w9 base (.slice p9 n c9) b) := by
    have := ho9
    rw [← HNL.out] at this ⊢
    exact (Rd.of_own this).base HBASE.out
  have HDO := Lib.hid (do_in w9 (H.out.below hb9) (Nat.le_trans HBASE.out hb9.size) i HI.out f HFE.out (.iface 68 (.agg #[.slice p9 n c9])) (.put b) ⟨_, rfl, HR9.out⟩ trivial (by show b.length ≤ _; rw [HNL.out]; exact hn) hfew)
  clear ho9 hg9 hb9
  go_wp2_with ((with_reducible refine wpAt 11 ?_); refine wpList_build rfl 68 _ rfl [(0, .slice p9 n c9)] rfl _ (build_put _ _ _) ?_)
  refine (HDO.out).mono ?_
  rintro e w2 ⟨rfl, hl⟩
  have HL := Lib.hid (LeftD.from HB9.out hl)
  clear hl
  go_wp2_with fail
  go_ret
  exact ⟨rfl, HL.out⟩
set_option maxRecDepth 100000 in
theorem cut_in {base db : Nat} {vs : List FV} {d : DD} (w : World) (h : DAt w base db vs d) (hbase : base ≤ w.heap.size) (i : Nat) (hi : i < d.fs.length) (f : FD) (hf : d.fs[i] = f) (m : Nat) (hm : m ≤ f.now.length) (hfew : f.steps.length + 1 ≤ 4398046511104) :
    Calls Try.prog 11 #[.pointer (some ⟨db, 0, none⟩), .int .i64 (i : Int), .int .i64 (m : Int)] w (DoP base db vs d i f (.cut m) w) := by
  have HDO := Lib.hid (do_in w h hbase i hi f hf (.iface 70 (.agg #[.int .i64 (m : Int)])) (.cut m) rfl hm (by show 1 ≤ _; omega) hfew)
  clear h hf
  go_enter Try.func11, Try.ntmps11
  go_wp2_with ((with_reducible refine wpAt 10 ?_); refine wpList_build rfl 70 _ rfl [(0, .int .i64 (m : Int))] rfl _ (build_cut _) ?_)
  refine (HDO.out).mono ?_
  rintro e w2 ⟨rfl, hl⟩
  have HL := Lib.hid hl
  clear hl
  go_wp2_with fail
  go_ret
  exact ⟨rfl, HL.out⟩
/-- a sync -/
def syncD (d : DD) (i : Nat) (f : FD) : DD := if d.down = true then d else if d.burn.down = true then d.burn else setF d.burn i (f.settle (unitsAll f.steps))
def syncE (d : DD) : Int := if d.down = true then 18 else if d.burn.down = true then 18 else 0
theorem sync_down {d : DD} (i : Nat) (f : FD) (h : d.down = true) : syncD d i f = d ∧ syncE d = 18 := by unfold syncD syncE; rw [if_pos h, if_pos h]; exact ⟨rfl, rfl⟩
theorem sync_burnt {d : DD} (i : Nat) (f : FD) (h : d.down = false) (hb : d.burn.down = true) : syncD d i f = d.burn ∧ syncE d = 18 := by
  unfold syncD syncE
  simp [h, hb]
theorem sync_ok {d : DD} (i : Nat) (f : FD) (h : d.down = false) (hb : d.burn.down = false) : syncD d i f = setF d.burn i (f.settle (unitsAll f.steps)) ∧ syncE d = 0 := by
  unfold syncD syncE
  simp [h, hb]
theorem burn_fs (d : DD) : d.burn.fs = d.fs := by unfold DD.burn; split <;> rfl
set_option maxRecDepth 100000 in
set_option maxHeartbeats 800000 in
theorem sync_in {base db : Nat} {vs : List FV} {d : DD} (w : World) (h : DAt w base db vs d) (hbase : base ≤ w.heap.size) (i : Nat) (hi : i < d.fs.length) (f : FD) (hf : d.fs[i] = f) :
    Calls Try.prog 12 #[.pointer (some ⟨db, 0, none⟩), .int .i64 (i : Int)] w fun e w' => e = .returned (.int .i64 (syncE d)) ∧ LeftD base db vs (syncD d i f) w w' := by
  have H := Lib.hid h
  have hi3 : i < 3 := by have := h.m3; omega
  have hc := h.cells.2.2.1
  have HI := Lib.hid hi
  have HFE := Lib.hid hf
  have HBASE := Lib.hid hbase
  clear h hf
  cases hdn : d.down with
  | true =>
    have HFIN : Hid (LeftD base db vs (syncD d i f) w w ∧ syncE d = 18) := by
      obtain ⟨e1, e2⟩ := sync_down i f hdn
      show _ ∧ _
      rw [e1]
      exact ⟨⟨vs, H.out, Turns.refl _ _, fun k hk => .inl hk⟩, e2⟩
    rw [hdn] at hc
    clear hdn
    go_enter Try.func12, Try.ntmps12
    go_wp2_with fail
    refine (at_in w H.out i hi3).mono ?_
    rintro e w' ⟨rfl, rfl⟩
    go_wp2_with fail
    refine (none_any w H.out).mono ?_
    rintro e w' ⟨rfl, rfl⟩
    go_wp2_with fail
    go_ret
    exact ⟨by rw [HFIN.out.2]; rfl, HFIN.out.1⟩
  | false =>
    have HDN := Lib.hid hdn
    rw [hdn] at hc
    clear hdn
    go_enter Try.func12, Try.ntmps12
    go_wp2_with fail
    refine (at_in w H.out i hi3).mono ?_
    rintro e w' ⟨rfl, rfl⟩
    go_wp2_with fail
    refine (none_any w H.out).mono ?_
    rintro e w' ⟨rfl, rfl⟩
    go_wp2_with fail
    refine (burn_any w H.out).mono ?_
    rintro e w1 ⟨rfl, hd1, ht1⟩
    have HD1 := Lib.hid hd1
    have HT1 := Lib.hid ht1
    clear hd1 ht1 hc
    cases hbd : d.burn.down with
    | true =>
      have HFIN : Hid (LeftD base db vs (syncD d i f) w w1 ∧ syncE d = 18) := by
        obtain ⟨e1, e2⟩ := sync_burnt i f HDN.out hbd
        show _ ∧ _
        rw [e1]
        exact ⟨LeftD.row H.out HD1.out HT1.out, e2⟩
      clear hbd
      go_wp2_with fail
      go_ret
      exact ⟨by rw [HFIN.out.2]; rfl, HFIN.out.1⟩
    | false =>
      have HBD := Lib.hid hbd
      have HI1 : Hid (i < d.burn.fs.length) := by show _ < _; rw [burn_fs]; exact HI.out
      have HF1 : Hid (d.burn.fs[i]'HI1.out = f) := by
        show _ = _
        rw [← HFE.out]
        congr 1
        exact burn_fs d
      have HU := Lib.hid (fileUnits_any w1 HD1.out i HI1.out)
      rw [HF1.out] at HU
      have HUB : Hid (unitsAll f.steps ≤ 4611686018427387904) := by
        show _ ≤ _
        have hv : i < vs.length := by have := H.out.n3; omega
        have h1 := (HD1.out.each i _ _ (List.getElem?_eq_getElem hv) (List.getElem?_eq_getElem HI1.out)).ok.un
        have h2 := HD1.out.few _ (List.getElem_mem HI1.out)
        rw [HF1.out] at h1 h2
        omega
      clear hbd
      go_wp2_with fail
      refine (HU.out).mono ?_
      rintro e w2 ⟨rfl, hb2⟩
      have HB2 := Lib.hid hb2
      have HST := Lib.hid (settle_any w2 (HD1.out.below hb2) (Nat.le_trans HBASE.out (Nat.le_trans HT1.out.size hb2.size)) i HI1.out f HF1.out (unitsAll f.steps) HUB.out)
      clear hb2 HU
      go_wp2_with fail
      refine (HST.out).mono ?_
      rintro e w3 ⟨rfl, ⟨vs3, hd3, hn3⟩, ht3⟩
      have HFIN : Hid (LeftD base db vs (syncD d i f) w w3 ∧ syncE d = 0) := by
        obtain ⟨e1, e2⟩ := sync_ok i f HDN.out HBD.out
        show _ ∧ _
        rw [e1]
        refine ⟨⟨vs3, hd3, ?_, fun k hk => ?_⟩, e2⟩
        · exact ((HT1.out.trans (Turns.of_below (S := fun k => k = db) HB2.out) (fun _ _ h => h)).trans ht3 (fun _ _ h => h)).imp (fun k _ hk => .inl hk)
        · rcases hk with hk | ⟨v, hv, hk⟩
          · exact .inl (.inl hk)
          · exact .inl (.inr (hn3 v hv k hk))
      clear hd3 ht3 hn3
      go_wp2_with fail
      go_ret
      exact ⟨by rw [HFIN.out.2]; rfl, HFIN.out.1⟩
/-- what a file holds -/
theorem read_in {base db : Nat} {vs : List FV} {d : DD} (w : World) (h : DAt w base db vs d) (i : Nat) (hi : i < d.fs.length) :
    Calls Try.prog 19 #[.pointer (some ⟨db, 0, none⟩), .int .i64 (i : Int)] w (RdP w.heap.size d.fs[i].now w) := by
  have hv : i < vs.length := by have := h.n3; have := h.m3; omega
  have hi3 : i < 3 := by have := h.m3; omega
  have H := Lib.hid h
  have hc := (h.file i hv).2.1
  have hF := h.each i _ _ (List.getElem?_eq_getElem hv) (List.getElem?_eq_getElem hi)
  have hle := usedL_mem hi
  have hused := h.used
  have hroom1 := h.room1
  have hnl : d.fs[i].now.length ≤ 65536 := by have := hF.ok.le; omega
  obtain ⟨pn, cn, hnv, hbn⟩ := hF.now.bs
  rw [hnv] at hc
  generalize d.fs[i].now = l at *
  have HBN := Lib.hid hbn
  have hl1 := hbn.le
  have hl2 := hbn.max
  clear hbn hF hnv h hle hused
  go_enter Try.func19, Try.ntmps19
  go_wp2_with fail
  refine (at_in w H.out i hi3).mono ?_
  rintro e w' ⟨rfl, rfl⟩
  go_wp2_with (refine wpList_append_nx rfl _ _ 22 rfl (base := w.heap.size) Try.underlying22 info8 rfl (by omega) rfl (World.ownsRow_nil _ _ _ _) rfl HBN.out (bytesV_one _) ⟨by omega, by omega⟩ (Nat.le_refl _) ?_)
  intro p9 c9 w9 ho9 hg9 _ _
  have HB9 : Hid (Below w.heap.size w w9) := (Below.refl _ _).grown hg9 (Nat.le_refl _) (fun k hk => by simp [Value.ownBlock] at hk)
  have HR9 : Hid (Rd w9 w.heap.size (.slice p9 l.length c9) l) := Rd.of_own ho9
  clear ho9 hg9
  go_wp2_with fail
  go_ret
  exact ⟨p9, c9, rfl, HR9.out, HB9.out⟩
/-- a crash that keeps no unit -/
def crash0 (d : DD) : DD := ⟨d.fs.map (fun f => f.settle 0), d.room, 0, false⟩
def crashK (d : DD) (k : Nat) : DD := ⟨(d.fs.take k).map (fun f => f.settle 0) ++ d.fs.drop k, d.room, d.fuse, d.down⟩
theorem crashK_zero (d : DD) : crashK d 0 = d := by simp [crashK]
theorem crashK_step {d : DD} (h : d.fs.length = 3) (k : Nat) (hk : k < 3) (hk2 : k < (crashK d k).fs.length) : setF (crashK d k) k (((crashK d k).fs[k]'hk2).settle 0) = crashK d (k + 1) := by
  obtain ⟨fs, room, fuse, down⟩ := d
  obtain ⟨a, b, c, rfl⟩ := list3 h
  match k, hk with
  | 0, _ => rfl
  | 1, _ => rfl
  | 2, _ => rfl
set_option maxRecDepth 100000 in
set_option maxHeartbeats 800000 in
theorem crash_none {base db : Nat} {vs : List FV} {d : DD} (w : World) (h : DAt w base db vs d) (hbase : base ≤ w.heap.size) (c : Nat) (p : Option Addr) :
    Calls Try.prog 15 #[.pointer (some ⟨db, 0, none⟩), .slice p 0 c] w fun e w' => e = .returned (.tuple #[]) ∧ LeftD base db vs (crash0 d) w w' := by
  have H := Lib.hid h
  have HBASE := Lib.hid hbase
  have HM3 := Lib.hid h.m3
  clear h
  go_enter Try.func15, Try.ntmps15
  go_wp2_with fail
  refine (none_any w H.out).mono ?_
  rintro e w' ⟨rfl, rfl⟩
  go_wp2_with fail
  go_loopw [10] (fun j wr => ∃ k : Nat, k ≤ 3 ∧ j = .int .i64 k ∧ LeftD base db vs (crashK d k) w wr) (fun j _ => 3 - (intOf j).toNat)
  case atStart => exact ⟨0, by omega, rfl, vs, by rw [crashK_zero]; exact H.out, Turns.refl _ _, fun k hk => .inl hk⟩
  case round =>
    obtain ⟨k, hk, rfl, vs1, hd1, ht1, hn1⟩ := hrel
    have HD1 := Lib.hid hd1
    have HT1 := Lib.hid ht1
    have HN1 := Lib.hid hn1
    clear hd1 ht1 hn1
    by_cases hlt : k < 3
    · have hd : decide ((k : Int) < 3) = true := decide_eq_true (by omega)
      have hd2 : decide (k < 3) = true := decide_eq_true (by omega)
      have hk1 : (k : Int) < 3 := by omega
      have hk0 : (0 : Int) ≤ (k : Int) := by omega
      have e0 : decide ((k : Int) < 0) = false := decide_eq_false (by omega)
      have HKL : Hid (k < (crashK d k).fs.length) := by show _ < _; rw [HD1.out.m3]; exact hlt
      have HST := Lib.hid (settle_any wr HD1.out (Nat.le_trans HBASE.out HT1.out.size) k HKL.out _ rfl 0 (by omega))
      have e1 : decide ((k : Int) < 0) = false := decide_eq_false (by omega)
      go_wp2_with fail
      refine (HST.out).mono ?_
      rintro e w3 ⟨rfl, ⟨vs3, hd3, hn3⟩, ht3⟩
      have HL3 : Hid (LeftD base db vs (crashK d (k + 1)) w w3) := by
        rw [crashK_step HM3.out k hlt HKL.out] at hd3
        refine LeftD.trans HN1.out HT1.out ⟨vs3, hd3, ht3.imp (fun k _ hk => .inl hk), fun k hk => ?_⟩
        rcases hk with hk | ⟨v, hv, hk⟩
        · exact .inl (.inl hk)
        · exact .inl (.inr (hn3 v hv k hk))
      clear hd3 hn3 ht3 HST
      go_wp2_with fail
      go_roundw
      case rel => exact ⟨k + 1, by omega, by go_num, HL3.out⟩
      case measure => simp [intOf]; omega
    · have hd : decide ((k : Int) < 3) = false := decide_eq_false (by omega)
      have hd2 : decide (k < 3) = false := decide_eq_false (by omega)
      obtain rfl : k = 3 := by omega
      obtain ⟨hc0, hc1, hc2, hfz⟩ := HD1.out.cells
      have HL3 : Hid (LeftD base db vs (crash0 d) w ((wr.setCell ⟨db, 13, none⟩ (.int .i64 0)).setCell ⟨db, 14, none⟩ (.bool false))) := by
        have ht2 : Turns (fun k => k = db) wr ((wr.setCell ⟨db, 13, none⟩ (.int .i64 0)).setCell ⟨db, 14, none⟩ (.bool false)) := ((Turns.refl (fun k => k = db) wr).setCell (p := ⟨db, 13, none⟩) (fun _ => rfl) _).setCell (p := ⟨db, 14, none⟩) (fun _ => rfl) _
        obtain ⟨s1, _, _⟩ := dA_set HD1.out.n3 (crashK d 3).room (crashK d 3).fuse (crashK d 3).down
        obtain ⟨_, s2, _⟩ := dA_set HD1.out.n3 (crashK d 3).room 0 (crashK d 3).down
        have r2 := cell_put (off := 13) (.int .i64 0) HD1.out.row
        have s1' := s1 0
        rw [show ((0 : Nat) : Int) = (0 : Int) from rfl] at s1'
        rw [s1'] at r2
        have r3 := cell_put (off := 14) (.bool false) r2
        rw [s2 false] at r3
        have hd4 := HD1.out.reRow ht2 r3 (by omega)
        have he : (⟨(crashK d 3).fs, (crashK d 3).room, 0, false⟩ : DD) = crash0 d := by
          have := HM3.out
          obtain ⟨fs, room, fuse, down⟩ := d
          obtain ⟨a, b, c, rfl⟩ := list3 this
          rfl
        rw [he] at hd4
        exact LeftD.trans HN1.out HT1.out (LeftD.row HD1.out hd4 ht2)
      go_wp2_with fail
      go_end0
      exact ⟨rfl, HL3.out⟩
end Go.Proofs.Ytlmlcedjhpfeiaa.Dk
