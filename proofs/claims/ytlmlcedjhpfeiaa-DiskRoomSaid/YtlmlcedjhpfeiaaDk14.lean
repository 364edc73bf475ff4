/- A DISK CLONED. Conditions: none. -/
import Derived.Test.YtlmlcedjhpfeiaaDk13
import Derived.Laws.Tables
import Derived.Laws.CopyOwn
namespace Go.Proofs.Ytlmlcedjhpfeiaa.Dk
open Go.RowKit Go.Mir Go.Mir.Parts

theorem infoDisk (n : Nat) (h : n = 15) : (Try.prog.info? 64).map (·.size) = some n := by subst h; kernel_rfl
/-- a disk that no call made -/
def zDisk : Array Value := #[.slice none 0 0, .slice none 0 0, .slice none 0 0, .int .i64 0, .slice none 0 0, .slice none 0 0, .slice none 0 0, .int .i64 0, .slice none 0 0, .slice none 0 0, .slice none 0 0, .int .i64 0, .int .i64 0, .int .i64 0, .bool false]
theorem dA_fit {w : World} {base db : Nat} {vs : List FV} {d : DD} (h : DAt w base db vs d) : (dA vs d.room d.fuse d.down).size = 15 ∧ (dA vs d.room d.fuse d.down).all (·.oneCell') = true := by
  have hl : ∀ v ∈ vs, v.kv.oneCell' = true ∧ v.nv.oneCell' = true ∧ v.sv.oneCell' = true := fun v hv => by
    obtain ⟨i, hi⟩ := List.mem_iff_getElem?.1 hv
    have hlt : i < d.fs.length := by rw [h.m3, ← h.n3]; exact (List.getElem?_eq_some_iff.1 hi).1
    have hF := h.each i v _ hi (List.getElem?_eq_getElem hlt)
    obtain ⟨vals, ho, _⟩ := hF.steps
    obtain ⟨_, _, e1, _⟩ := hF.kept.bs
    obtain ⟨_, _, e2, _⟩ := hF.now.bs
    obtain ⟨_, _, e3, _⟩ := own_sl ho
    rw [e1, e2, e3]
    exact ⟨rfl, rfl, rfl⟩
  obtain ⟨a, b, c, rfl⟩ := list3 h.n3
  obtain ⟨a1, a2, a3⟩ := hl a (by simp)
  obtain ⟨b1, b2, b3⟩ := hl b (by simp)
  obtain ⟨c1, c2, c3⟩ := hl c (by simp)
  refine ⟨rfl, ?_⟩
  show (([a, b, c].flatMap fvL ++ _ : List Value).toArray).all _ = true
  simp [fvL, a1, a2, a3, b1, b2, b3, c1, c2, c3]
  exact ⟨rfl, rfl, rfl, rfl, rfl, rfl⟩
theorem Mid.no8 {w wr : World} {base db : Nat} {vs : List FV} {d : DD} {i : Nat} {v : FV} (h : Mid w wr base db vs d i v) : ∀ k M fr, wr.heap[k]? = some (.cells M 5 fr) → ¬ k = db := fun k M fr hk e => by
  subst e
  rw [h.row] at hk
  injection hk with e1
  injection e1 with _ e2
  exact absurd e2 (by decide)
/-- a file's row put anew -/
theorem clone_end {w w' : World} {base nb : Nat} {vs : List FV} {d : DD} {i : Nat} {f : FD} {v' : FV} {vals : List Value} (h : DAt w base nb vs d) (hi : i < d.fs.length) (hv : i < vs.length) (hf : d.fs[i] = f) (hm : Mid w w' base nb vs d i v')
    (hk : Rd w' base v'.kv f.kept) (hn : Rd w' base v'.nv f.now) (ho : w'.ownsRow base 83 1 v'.sv f.steps.length vals) (hvals : ∀ (i : Nat) x s, vals[i]? = some x → f.steps[i]? = some s → StAt w base x s) (hnd : v'.nd = f.need)
    (hfr : ∀ k, v'.sv.ownBlock = some k → w.heap.size ≤ k) : DAt w' base nb (vs.set i v') d := by
  have hid : ∀ k M fr, w.heap[k]? = some (.cells M 5 fr) → ¬ k = nb := fun k M fr hk e => by
    subst e
    rw [h.row] at hk
    injection hk with e1
    injection e1 with _ e2
    exact absurd e2 (by decide)
  refine ⟨hm.row, h.low, by rw [List.length_set]; exact h.n3, h.m3, ?_, ?_, h.room1, h.fuse1, h.used, h.few⟩
  · intro j v g h1 h2
    rw [List.getElem?_set] at h1
    by_cases hij : i = j
    · subst hij
      rw [if_pos rfl, if_pos hv] at h1
      rw [List.getElem?_eq_getElem hi, hf] at h2
      cases h1; cases h2
      have hF := h.each i _ _ (List.getElem?_eq_getElem hv) (List.getElem?_eq_getElem hi)
      rw [hf] at hF
      exact ⟨hk, hn, ⟨vals, ho, fun j x s hx hs => (hvals j x s hx hs).touch hm.turn hid⟩, hnd, hF.ok⟩
    · rw [if_neg hij] at h1
      obtain ⟨vals', ho', _⟩ := (h.each j v g h1 h2).steps
      exact (h.each j v g h1 h2).touch hm.turn hid (fun k hk => own_ne_cells' ho' h.row (by decide) k hk)
  · intro j j' v v2 k h1 h2 h3 h4
    have key : ∀ (a : Nat) (va : FV), vs[a]? = some va → va.sv.ownBlock = some k → ¬ v'.sv.ownBlock = some k := fun a va hva hk hk2 => by
      have h5 := hfr k hk2
      have h6 := (h.ownLt k (.inr ⟨va, List.mem_of_getElem? hva, hk⟩)).2
      omega
    rw [List.getElem?_set] at h1 h2
    by_cases hij : i = j
    · subst hij
      rw [if_pos rfl, if_pos hv] at h1
      cases h1
      by_cases hij' : i = j'
      · exact hij'
      · rw [if_neg hij'] at h2
        exact absurd h3 (key j' v2 h2 h4)
    · rw [if_neg hij] at h1
      by_cases hij' : i = j'
      · subst hij'
        rw [if_pos rfl, if_pos hv] at h2
        cases h2
        exact absurd h4 (key j v h1 h3)
      · rw [if_neg hij'] at h2
        exact h.apart j j' v v2 k h1 h2 h3 h4
def CloneI (base nb B : Nat) (vs : List FV) (d : DD) (w : World) (k : Nat) (wr : World) : Prop :=
  ∃ vsr, DAt wr base nb vsr d ∧ Below B w wr ∧ ∀ (j : Nat) v, vsr[j]? = some v → (j < k → ∀ b, v.sv.ownBlock = some b → B ≤ b) ∧ (k ≤ j → vs[j]? = some v)
def CloneP (base : Nat) (d : DD) (w : World) (e : Ending) (w' : World) : Prop := ∃ nb vs', e = .returned (.pointer (some ⟨nb, 0, none⟩)) ∧ DAt w' base nb vs' d ∧ Below w.heap.size w w' ∧ ∀ k, DOwn nb vs' k → w.heap.size ≤ k
theorem CloneI.done {base nb : Nat} {vs : List FV} {d : DD} {w wr : World} (h : CloneI base nb w.heap.size vs d w 3 wr) (hnb : w.heap.size ≤ nb) : CloneP base d w (.returned (.pointer (some ⟨nb, 0, none⟩))) wr := by
  obtain ⟨vsr, hd, hb, hf⟩ := h
  refine ⟨nb, vsr, rfl, hd, hb, fun k hk => ?_⟩
  rcases hk with rfl | ⟨v, hv, hk⟩
  · exact hnb
  · obtain ⟨i, hi⟩ := List.mem_iff_getElem?.1 hv
    have hlt : i < 3 := by rw [← hd.n3]; exact (List.getElem?_eq_some_iff.1 hi).1
    exact (hf i v hi).1 hlt k hk
theorem CloneI.step {base nb B : Nat} {vs vsr : List FV} {d : DD} {w wr w' : World} {k : Nat} {v' : FV} (hd : DAt w' base nb (vsr.set k v') d) (hb : Below B w wr) (ht : Turns (fun k => k = nb) wr w') (hnb : B ≤ nb) (hB : B ≤ wr.heap.size)
    (hf : ∀ (j : Nat) v, vsr[j]? = some v → (j < k → ∀ b, v.sv.ownBlock = some b → B ≤ b) ∧ (k ≤ j → vs[j]? = some v)) (hk : k < vsr.length) (hfr : ∀ b, v'.sv.ownBlock = some b → wr.heap.size ≤ b) : CloneI base nb B vs d w (k + 1) w' := by
  refine ⟨_, hd, hb.trans (ht.below hB (fun i hi => by rw [hi]; exact hnb)), fun j v hj => ?_⟩
  rw [List.getElem?_set] at hj
  by_cases hkj : k = j
  · subst hkj
    rw [if_pos rfl, if_pos hk] at hj
    cases hj
    exact ⟨fun _ b hb => Nat.le_trans hB (hfr b hb), fun h => by omega⟩
  · rw [if_neg hkj] at hj
    exact ⟨fun h => (hf j v hj).1 (by omega), fun h => (hf j v hj).2 (by omega)⟩
set_option maxRecDepth 100000 in
set_option maxHeartbeats 3200000 in
theorem clone_any {base db : Nat} {vs : List FV} {d : DD} (w : World) (h : DAt w base db vs d) (hbase : base ≤ w.heap.size) :
    Calls Try.prog 21 #[.pointer (some ⟨db, 0, none⟩)] w (CloneP base d w) := by
  have H := Lib.hid h
  have HBASE := Lib.hid hbase
  obtain ⟨M, hM⟩ : ∃ M, M = dA vs d.room d.fuse d.down := ⟨_, rfl⟩
  obtain ⟨hs, ho⟩ := dA_fit h
  have hr := h.row
  rw [← hM] at hs ho hr
  have HME := Lib.hid hM
  have HMS := Lib.hid hs
  have HMO := Lib.hid ho
  have HR := Lib.hid hr
  have HR0 := Lib.hid (heap_alloc_last w (.cells zDisk 64))
  have HB0 := Lib.hid (Below.allocs w (.cells zDisk 64))
  clear hM hs ho hr h hbase
  go_enter Try.func21, Try.ntmps21
  go_wp2_with fail
  refine (none_any w H.out).mono ?_
  rintro e w' ⟨rfl, rfl⟩
  go_wp2_with (first
    | ((with_reducible refine wpAt 10 ?_); refine wpList_load_row rfl 64 _ rfl db rfl 64 M (0, 0) _ HR.out Try.underlying64 rfl (infoDisk _ HMS.out) ?_)
    | ((with_reducible refine wpStoreAt 3 ?_); refine wpList_store_row rfl 64 _ _ rfl w.heap.size M rfl rfl 64 zDisk HR0.out (infoDisk _ HMS.out) HMS.out.symm HMO.out ?_))
  have hrs := setRow_heap _ _ _ M _ _ HR0.out
  have hbf := below_setRow HB0.out (Nat.le_refl _) M
  have HI0 : Hid (CloneI base w.heap.size w.heap.size vs d w 0 ((w.alloc (.cells zDisk 64)).setRow w.heap.size M)) := by
    refine ⟨vs, ⟨?_, HBASE.out, H.out.n3, H.out.m3, fun i v f h1 h2 => (H.out.each i v f h1 h2).below hbf, H.out.apart, H.out.room1, H.out.fuse1, H.out.used, H.out.few⟩, hbf, fun j v hj => ⟨fun h => by omega, fun _ => hj⟩⟩
    rw [hrs, HME.out]
  simp only [show (#[Value.slice none 0 0, .slice none 0 0, .slice none 0 0, .int .i64 0, .slice none 0 0, .slice none 0 0, .slice none 0 0, .int .i64 0, .slice none 0 0, .slice none 0 0, .slice none 0 0, .int .i64 0, .int .i64 0, .int .i64 0, .bool false] : Array Value) = zDisk from rfl]
  clear hrs hbf
  generalize (w.alloc (.cells zDisk 64)).setRow w.heap.size M = w1 at *
  go_wp2_with fail
  go_loopw [11] (fun j wr => ∃ k : Nat, k ≤ 3 ∧ j = .int .i64 k ∧ CloneI base w.heap.size w.heap.size vs d w k wr) (fun j _ => 3 - (intOf j).toNat)
  case atStart => exact ⟨0, by omega, rfl, HI0.out⟩
  case round =>
    obtain ⟨k, hk, rfl, hci⟩ := hrel
    have HCI := Lib.hid hci
    clear hci
    by_cases hlt : k < 3
    · have hd : decide ((k : Int) < 3) = true := decide_eq_true (by omega)
      have hd2 : decide (k < 3) = true := decide_eq_true (by omega)
      have hk1 : (k : Int) < 3 := by omega
      have hk0 : (0 : Int) ≤ (k : Int) := by omega
      have e0 : decide ((k : Int) < 0) = false := decide_eq_false (by omega)
      obtain ⟨vsr, hdr, hbr, hfr⟩ := HCI.out
      have HDR := Lib.hid hdr
      have HBR := Lib.hid hbr
      have HFR := Lib.hid hfr
      have HLV : Hid (k < vsr.length) := by show _ < _; rw [hdr.n3]; exact hlt
      have HLF : Hid (k < d.fs.length) := by show _ < _; rw [hdr.m3]; exact hlt
      have hF := hdr.each k _ _ (List.getElem?_eq_getElem HLV.out) (List.getElem?_eq_getElem HLF.out)
      have HM0 : Hid (Mid wr wr base w.heap.size vsr d k (vsr[k]'HLV.out)) := ⟨by rw [List.set_getElem_self]; exact hdr.row, Turns.refl _ _⟩
      obtain ⟨v0, hv0⟩ : ∃ v0, v0 = vsr[k]'HLV.out := ⟨_, rfl⟩
      obtain ⟨f, hfe⟩ : ∃ f, f = d.fs[k]'HLF.out := ⟨_, rfl⟩
      have HFE : Hid (∀ hh : k < d.fs.length, d.fs[k]'hh = f) := fun _ => hfe.symm
      rw [← hv0] at hF HM0
      rw [← hfe] at hF
      have HF := Lib.hid hF
      have hle : f.need ≤ 65536 := by
        have h1 := usedL_mem HLF.out
        rw [← hfe] at h1
        have h2 := hdr.used
        have h3 := hdr.room1
        omega
      have HNL : Hid (f.now.length ≤ 65536) := Nat.le_trans hF.ok.le hle
      have HKL : Hid (f.kept.length ≤ 65536) := by
        have := hF.ok.all 0
        rw [someU_zero] at this
        show _ ≤ _
        omega
      have HSL : Hid (f.steps.length ≤ 4398046511104) := by
        show _ ≤ _
        rw [hfe]
        exact hdr.few _ (List.getElem_mem HLF.out)
      clear hdr hbr hfr hF hv0 hfe hle HCI
      have hc0 := (HM0.out.cells HDR.out.n3 HLV.out).1
      obtain ⟨pk, ck, hkv, hbk⟩ := HF.out.kept.bs
      rw [hkv] at hc0
      have HBK := Lib.hid hbk
      have hk2 := hbk.le
      have hk3 := hbk.max
      have hk4 := HKL.out
      clear hkv hbk
      go_wp2_with (refine wpList_append_nx rfl _ _ 22 rfl (base := wr.heap.size) Try.underlying22 info8 rfl (by omega) rfl (World.ownsRow_nil _ _ _ _) rfl HBK.out (bytesV_one _) ⟨by omega, by omega⟩ (Nat.le_refl _) ?_)
      intro p9 c9 w9 ho9 hg9 _ _
      have hb9 : Below wr.heap.size wr w9 := (Below.refl _ _).grown hg9 (Nat.le_refl _) (fun k hk => by simp [Value.ownBlock] at hk)
      have HR9 : Hid (Rd w9 wr.heap.size (.slice p9 f.kept.length c9) f.kept) := Rd.of_own ho9
      have HM9 := Lib.hid (HM0.out.below hb9)
      obtain ⟨g0, g1, g2, g3, hfz9⟩ := HM9.out.cells HDR.out.n3 HLV.out
      try simp only at g0 g1 g2 g3
      have HM10 := Lib.hid ((HM9.out.put HDR.out.n3 HLV.out).1 (.slice p9 f.kept.length c9))
      have HK10 := Lib.hid (HR9.out.touch ((Turns.refl (fun k => k = w.heap.size) w9).setCell (p := ⟨w.heap.size, k * 4, none⟩) (fun _ => rfl) (.slice p9 f.kept.length c9)) HM9.out.no8)
      clear ho9 hg9 hb9 hc0
      go_upto_region 9 with fail
      generalize w9.setCell ⟨w.heap.size, k * 4, none⟩ (.slice p9 f.kept.length c9) = w10 at *
      clear g0 g1 g2 g3 hfz9 HM9 HR9 HBK hk2 hk3 hk4 HM0
      try clear w9
      have hc1 := (HM10.out.cells HDR.out.n3 HLV.out).2.1
      obtain ⟨pn, cn, hnv, hbn⟩ := (Rd.turn HDR.out HF.out.now HM10.out.turn).bs
      replace hc1 : w10.cell? ⟨w.heap.size, k * 4 + 1, none⟩ = some v0.nv := hc1
      rw [hnv] at hc1
      have HBN := Lib.hid hbn
      have hk2 := hbn.le
      have hk3 := hbn.max
      have hk4 := HNL.out
      clear hnv hbn
      go_wp2_with (refine wpList_append_nx rfl _ _ 22 rfl (base := w10.heap.size) Try.underlying22 info8 rfl (by omega) rfl (World.ownsRow_nil _ _ _ _) rfl HBN.out (bytesV_one _) ⟨by omega, by omega⟩ (Nat.le_refl _) ?_)
      intro p8 c8 w9 ho9 hg9 _ _
      have hb9 : Below w10.heap.size w10 w9 := (Below.refl _ _).grown hg9 (Nat.le_refl _) (fun k hk => by simp [Value.ownBlock] at hk)
      have HR9 : Hid (Rd w9 w10.heap.size (.slice p8 f.now.length c8) f.now) := Rd.of_own ho9
      have HM9 := Lib.hid (HM10.out.below hb9)
      have HK9 := Lib.hid (HK10.out.below hb9)
      obtain ⟨g0, g1, g2, g3, hfz9⟩ := HM9.out.cells HDR.out.n3 HLV.out
      try simp only at g0 g1 g2 g3
      have HM11 := Lib.hid ((HM9.out.put HDR.out.n3 HLV.out).2.1 (.slice p8 f.now.length c8))
      have ht9 := (Turns.refl (fun k => k = w.heap.size) w9).setCell (p := ⟨w.heap.size, k * 4 + 1, none⟩) (fun _ => rfl) (.slice p8 f.now.length c8)
      have HN11 := Lib.hid (HR9.out.touch ht9 HM9.out.no8)
      have HK11 := Lib.hid (HK9.out.touch ht9 HM9.out.no8)
      have HZ : Hid (w10.heap.size ≤ w9.heap.size) := hb9.size
      clear ho9 hg9 hb9 hc1 ht9
      go_upto_region 10 with fail
      have HZW : Hid (wr.heap.size ≤ w10.heap.size) := HM10.out.turn.size
      generalize w9.setCell ⟨w.heap.size, k * 4 + 1, none⟩ (.slice p8 f.now.length c8) = w11 at *
      clear g0 g1 g2 g3 hfz9 HM9 HR9 HK9 HBN hk2 hk3 hk4 HK10 HZ
      obtain ⟨vals, hst, hvs⟩ := HF.out.steps
      have HVS := Lib.hid hvs
      have hst11 := own_touch hst HM11.out.turn (own_ne_cells' hst HDR.out.row (by decide))
      obtain ⟨ps, cs, hsv, hsl⟩ := own_sl hst11
      have hvl : vals.length = f.steps.length := by have := hst.1; omega
      have HONE : Hid (∀ u ∈ vals, u.oneCell' = true) := fun u hu => by
        obtain ⟨j, hj⟩ := List.mem_iff_getElem?.1 hu
        have hlt : j < f.steps.length := by rw [← hvl]; exact (List.getElem?_eq_some_iff.1 hj).1
        exact (hvs j u _ hj (List.getElem?_eq_getElem hlt)).one
      have hc2 := (HM11.out.cells HDR.out.n3 HLV.out).2.2.1
      replace hc2 : w11.cell? ⟨w.heap.size, k * 4 + 2, none⟩ = some v0.sv := hc2
      rw [hsv] at hc2
      have HSLL := Lib.hid hsl
      have hk2 := hsl.le
      have hk3 := hsl.max
      have hk4 := HSL.out
      have HBA : Hid (base ≤ w11.heap.size) := Nat.le_trans HBASE.out (Nat.le_trans HBR.out.size HM11.out.turn.size)
      clear hvs hst hst11 hsv hsl hvl
      go_wp2_with (refine wpList_append_nx rfl _ _ 59 rfl (base := base) Try.underlying59 infoStep rfl (by omega) rfl (World.ownsRow_nil _ _ _ _) rfl HSLL.out HONE.out ⟨by omega, by omega⟩ HBA.out ?_)
      intro p7 c7 w9 ho9 hg9 hn9 _
      have hb9 : Below w11.heap.size w11 w9 := (Below.refl _ _).grown hg9 (Nat.le_refl _) (fun k hk => by simp [Value.ownBlock] at hk)
      have HM9 := Lib.hid (HM11.out.below hb9)
      have HK9 := Lib.hid (HK11.out.below hb9)
      have HN9 := Lib.hid (HN11.out.below hb9)
      obtain ⟨g0, g1, g2, g3, hfz9⟩ := HM9.out.cells HDR.out.n3 HLV.out
      try simp only at g0 g1 g2 g3
      have HM12 := Lib.hid ((HM9.out.put HDR.out.n3 HLV.out).2.2.1 (.slice p7 f.steps.length c7))
      have ht9 := (Turns.refl (fun k => k = w.heap.size) w9).setCell (p := ⟨w.heap.size, k * 4 + 2, none⟩) (fun _ => rfl) (.slice p7 f.steps.length c7)
      have HN12 := Lib.hid (HN9.out.touch ht9 HM9.out.no8)
      have HK12 := Lib.hid (HK9.out.touch ht9 HM9.out.no8)
      have HS12 : Hid ((w9.setCell ⟨w.heap.size, k * 4 + 2, none⟩ (.slice p7 f.steps.length c7)).ownsRow base 83 1 (.slice p7 f.steps.length c7) f.steps.length vals) := own_touch ho9 ht9 (own_ne_cells' ho9 HM9.out.row (by decide))
      have HFS : Hid (∀ b, (Value.slice p7 f.steps.length c7).ownBlock = some b → wr.heap.size ≤ b) := fun b hb => by
        rcases hn9 b hb with h | h
        · simp [Value.ownBlock] at h
        · rw [h]; exact HM11.out.turn.size
      clear ho9 hg9 hb9 hc2 ht9 hn9
      go_upto_region 11 with fail
      generalize w9.setCell ⟨w.heap.size, k * 4 + 2, none⟩ (.slice p7 f.steps.length c7) = w12 at *
      have HBW : Hid (base ≤ wr.heap.size) := Nat.le_trans HBASE.out HBR.out.size
      have hdn := clone_end HDR.out HLF.out HLV.out (HFE.out _) HM12.out (HK12.out.base HBW.out) (HN12.out.base (Nat.le_trans HBW.out HZW.out)) HS12.out HVS.out HF.out.need HFS.out
      have HNX := Lib.hid (CloneI.step (vs := vs) (w := w) hdn HBR.out HM12.out.turn (Nat.le_refl _) HBR.out.size HFR.out HLV.out HFS.out)
      clear hdn
      go_wp2_with fail
      go_roundw
      case rel => exact ⟨k + 1, by omega, by go_num, HNX.out⟩
      case measure => simp [intOf]; omega
    · have hd : decide ((k : Int) < 3) = false := decide_eq_false (by omega)
      have hd2 : decide (k < 3) = false := decide_eq_false (by omega)
      obtain rfl : k = 3 := by omega
      have HFIN := Lib.hid (HCI.out.done (Nat.le_refl _))
      go_wp2_with fail
      go_ret
      exact HFIN.out
end Go.Proofs.Ytlmlcedjhpfeiaa.Dk
