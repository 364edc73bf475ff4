/- THE WALKS OF A READER: ids. Conditions: none. -/
import Derived.Test.YtdaigkcbmdcbcaaDoorRdr4
import Derived.Deep.MidRow
namespace Go.Proofs.YtdaigkcbmdcbcaaDoor.Rdr
open Go.RowKit Go.Mir Go.Mir.Parts

theorem infoIds : (Tryd.prog.info? 23).map (fun i => (i.zero, i.size, i.bytes)) = some (some (.agg zid), 32, 32) := by kernel_rfl
theorem made_id (w : World) (y : List UInt8) (M : Array Value) (t : TypeId) (hM : M.toList = bytesV y) (hy : y.length = 32) : Sl (w.alloc (.cells M t)) (some ⟨w.heap.size, 0, none⟩) 1 1 32 (bytesV y) :=
  ⟨by rw [bytesV_length, hy], Nat.le_refl _, by omega, fun h => (by cases h), fun a ha j u hu => by
    obtain rfl := Option.some.inj ha
    rw [add_none, cell_of_row _ _ _ _ _ _ (heap_alloc_last _ _), ← Array.getElem?_toList, hM, Nat.zero_add]; exact hu⟩
theorem Bs.dropped {w : World} {b o n c : Nat} {l : List UInt8} (h : Bs w (some ⟨b, o, none⟩) n c l) (k : Nat) (hk : k ≤ n) : Bs w (some ⟨b, if c = k then o else o + k, none⟩) (n - k) (c - k) (l.drop k) := by
  have hn := h.length
  have h1 := h.le
  have h2 := h.max
  refine ⟨by rw [bytesV_length, List.length_drop, Nat.mul_one]; omega, by omega, by omega, fun hp => (by cases hp), fun a ha j u hu => ?_⟩
  obtain rfl := Option.some.inj ha
  have hj : j < l.length - k := by
    have := (List.getElem?_eq_some_iff.1 hu).1
    rwa [bytesV_length, List.length_drop] at this
  have h3 : (bytesV l)[k + j]? = some u := by
    simp only [bytesV, List.getElem?_map, List.getElem?_drop] at hu ⊢
    exact hu
  have := h.cell _ rfl (k + j) u h3
  rw [add_none] at this ⊢
  rw [if_neg (by omega), Nat.add_assoc]
  exact this
theorem run_from32 {b o n c : Nat} (hn : 32 ≤ n) (_hc : n ≤ c) (w0 : World) : (Instr.sliceAt 29 (.slice (some ⟨b, o, none⟩) n c) (some (.int .i64 32)) none none).run Tryd.prog w0 = .ok (.slice (some ⟨b, if c = 32 then o else o + 32, none⟩) (n - 32) (c - 32)) w0 := by
  have hsz : (Tryd.prog.info? 5).map (·.size) = some 1 := by kernel_rfl
  obtain ⟨i, hi, hi1⟩ := Option.map_eq_some_iff.1 hsz
  have hb1 : (32 : Int) ≤ (n : Int) := by omega
  simp [Instr.sliceAt, Instr.slice, run_underlying Tryd.underlying29, Instr.sliceBounds, Instr.sliceBound, asIntOf, sizeOf, typeInfo, hi, hi1, hb1]
  by_cases h : c = 32 <;> simp [h, add_none]
theorem run_upto32 {b o n c : Nat} (hn : 32 ≤ n) (hc : n ≤ c) (w0 : World) : (Instr.sliceAt 29 (.slice (some ⟨b, o, none⟩) n c) none (some (.int .i64 32)) none).run Tryd.prog w0 = .ok (.slice (some ⟨b, o, none⟩) 32 c) w0 := by
  have hsz : (Tryd.prog.info? 5).map (·.size) = some 1 := by kernel_rfl
  obtain ⟨i, hi, hi1⟩ := Option.map_eq_some_iff.1 hsz
  have hb1 : (32 : Int) ≤ (c : Int) := by omega
  simp [Instr.sliceAt, Instr.slice, run_underlying Tryd.underlying29, Instr.sliceBounds, Instr.sliceBound, asIntOf, sizeOf, typeInfo, hi, hb1]
  intro _
  rw [add_none, Nat.add_zero]
theorem run_arr32 {b o c : Nat} (w0 : World) : (Instr.arrayAt 23 (.slice (some ⟨b, o, none⟩) 32 c)).run Tryd.prog w0 = .ok (.pointer (some ⟨b, o, none⟩)) w0 := by
  simp [Instr.arrayAt, run_underlying Tryd.underlying23]
def IdsP (base rb : Nat) (s : RD) (n : Int) (w : World) (e : Ending) (w' : World) : Prop :=
  ∃ p k c, (s.takeB (32 * n) true).length = 32 * k ∧ e = .returned (.slice p k c) ∧ w'.ownsRow w.heap.size 23 32 (.slice p k c) k (bytesV (s.takeB (32 * n) true)) ∧ LeftR base rb (s.takeS (32 * n) true) w w'

set_option maxRecDepth 100000 in
set_option maxHeartbeats 1600000 in
theorem ids_any {base rb : Nat} {s : RD} (w : World) (h : RAt w base rb s) (n : Int) (hn : -9223372036854775808 ≤ n ∧ n ≤ 9223372036854775807) :
    Calls Tryd.prog 37 #[.pointer (some ⟨rb, 0, none⟩), .int .i64 n] w (IdsP base rb s n w) := by
  have H := Lib.hid h
  obtain ⟨v, bv, h⟩ := h
  obtain ⟨_, _, _, hc3, _⟩ := h.cells
  have HI := Lib.hid h
  obtain ⟨l, pos, bad⟩ := s
  have hlen : l.length ≤ 140737488355328 := h.len
  have hat : pos ≤ l.length := h.at1
  obtain ⟨q, hq0⟩ : ∃ q, l.length - pos = q := ⟨_, rfl⟩
  cases bad with
  | some b =>
    obtain ⟨_, _, fb, a0, hbv, _⟩ := h.fault
    rw [hbv] at hc3
    clear h hbv
    have HE : Hid (∀ N fits, RD.takeB ⟨l, pos, some b⟩ N fits = [] ∧ RD.takeS ⟨l, pos, some b⟩ N fits = ⟨l, pos, some b⟩) := fun N fits => by
      unfold RD.takeB RD.takeS
      exact ⟨by rw [if_neg (by simp)], by rw [if_pos (by simp)]⟩
    have HEI : Hid (∀ w2 wt, Below w.heap.size w w2 → LeftR base rb ⟨l, pos, some b⟩ w2 wt → ∀ po co w', w'.ownsRow wt.heap.size 23 32 (.slice po 0 co) 0 (bytesV []) → Below wt.heap.size wt w' → IdsP base rb ⟨l, pos, some b⟩ n w (.returned (.slice po 0 co)) w') := fun w2 wt hb2 hl po co w' ho hb => by
      have h1 := HE.out (32 * n) true
      refine ⟨po, 0, co, by rw [h1.1]; rfl, rfl, ?_, by rw [h1.2]; exact ((LeftR.same H.out hb2).trans hl).trans (LeftR.same hl.1 hb)⟩
      rw [h1.1]
      refine own_base ho (fun i hi => ?_)
      have := (ho.lt i hi).1
      have := hl.2.size
      have := hb2.size
      omega
    by_cases hneg : n < 0
    · have hd0 : decide ((0 : Int) ≤ n) = false := decide_eq_false (by omega)
      go_enter Tryd.func37, Tryd.ntmps37
      go_wp2_with fail
      refine (none_any w H.out).mono ?_
      rintro e w' ⟨rfl, rfl⟩
      go_wp2_with fail
      refine (left_any w H.out).mono ?_
      rintro e w2 ⟨rfl, hb2⟩
      have HBX := Lib.hid hb2
      have H2 := Lib.hid (H.out.below hb2)
      clear hb2
      dsimp only
      rw [hq0]
      obtain ⟨N0, hN0⟩ : ∃ N0 : Int, N0 = 0 := ⟨_, rfl⟩
      obtain ⟨f0, hf0⟩ : ∃ f0 : Bool, f0 = false := ⟨_, rfl⟩
      have HN0 : Hid (-9223372036854775808 ≤ N0 ∧ N0 ≤ 9223372036854775807) := by show _ ∧ _; omega
      have HLB := Lib.hid (HE.out N0 f0).1
      have HF : Hid (∀ wt, LeftR base rb (RD.takeS ⟨l, pos, some b⟩ N0 f0) w2 wt → ∀ po co w', w'.ownsRow wt.heap.size 23 32 (.slice po 0 co) 0 (bytesV []) → Below wt.heap.size wt w' → IdsP base rb ⟨l, pos, some b⟩ n w (.returned (.slice po 0 co)) w') := fun wt hl => by
        rw [(HE.out _ _).2] at hl
        exact HEI.out w2 wt HBX.out hl
      have HT := Lib.hid (take_any w2 H2.out N0 HN0.out f0)
      obtain ⟨L, hL⟩ : ∃ L : List UInt8, L = [] := ⟨_, rfl⟩
      obtain ⟨kk, hkk⟩ : ∃ kk, kk = 0 := ⟨_, rfl⟩
      have HLL : Hid (L.length = 32 * kk) := by show _ = _; rw [hL, hkk]; rfl
      have hkb : 32 * kk ≤ 140737488355328 := by omega
      rw [← hL] at HF HLB
      rw [← hkk] at HF
      rw [hN0, hf0] at HT HF HLB
      clear hL hkk
      go_wp2_with fail
      refine HT.out.mono ?_
      rintro e wt ⟨p, c, rfl, hbs, hl⟩
      rw [HLB.out] at hbs ⊢
      rw [HLL.out] at hbs ⊢
      have HL := Lib.hid hl
      have HFIN := Lib.hid (HF.out wt hl)
      have HBS := Lib.hid hbs
      clear hl hbs
      go_wp2_with fail
      go_loopw [6, 7] (fun vo vb wr => ∃ (k r : Nat) (q : Option Addr) (cq : Nat) (po : Option Addr) (co : Nat), k + r = kk ∧ vb = .slice q (32 * r) cq ∧ (∀ w', Below wt.heap.size wt w' → Bs w' q (32 * r) cq (L.drop (32 * k))) ∧ vo = .slice po k co ∧ wr.ownsRow wt.heap.size 23 32 (.slice po k co) k (bytesV (L.take (32 * k))) ∧ Below wt.heap.size wt wr) (fun _ vb _ => match vb with | .slice _ n _ => n | _ => 0)
      case atStart => exact ⟨0, kk, p, c, none, 0, by omega, rfl, fun w' hb => HBS.out.below hb, rfl, ⟨rfl, .inl ⟨rfl, rfl⟩⟩, Below.refl _ _⟩
      case round =>
        obtain ⟨k, r, q, cq, po, co, hkr, rfl, hbq, rfl, hown, hbw⟩ := hrel
        have HBQA := Lib.hid hbq
        have hbq := hbq _ hbw
        have HBQ := Lib.hid hbq
        have HOW := Lib.hid hown
        have HBW := Lib.hid hbw
        have hcq := hbq.le
        have hcm := hbq.max
        clear hbq hown hbw
        cases r with
        | zero =>
          obtain rfl : k = kk := by omega
          have hfull : L.take (32 * k) = L := List.take_of_length_le (by rw [HLL.out]; omega)
          rw [hfull] at HOW
          have hd : decide (((32 * 0 : Nat) : Int) > 0) = false := by decide
          go_wp2_with fail
          go_ret
          exact HFIN.out po co _ HOW.out HBW.out
        | succ r =>
          have hd : decide ((0 : Int) < ((32 * (r + 1) : Nat) : Int)) = true := decide_eq_true (by omega)
          obtain ⟨b, o, rfl⟩ := HBQ.out.addr (by omega) (by omega)
          have hs1 := run_from32 (b := b) (o := o) (n := 32 * (r + 1)) (c := cq) (by omega) hcq
          have hs2 := run_upto32 (b := b) (o := o) (n := 32 * (r + 1)) (c := cq) (by omega) hcq
          have hs3 := run_arr32 (b := b) (o := o) (c := cq)
          have HYL : Hid (((L.drop (32 * k)).take 32).length = 32) := by show _ = _; rw [List.length_take, List.length_drop, HLL.out]; omega
          have HTK : Hid (L.take (32 * (k + 1)) = L.take (32 * k) ++ (L.drop (32 * k)).take 32) := by show _ = _; rw [Nat.mul_add, List.take_add]
          have HDK : Hid ((L.drop (32 * k)).drop 32 = L.drop (32 * (k + 1))) := by show _ = _; rw [List.drop_drop]; rfl
          have HRG : Hid (wr.rangeAt b o (idA ((L.drop (32 * k)).take 32)).toList) := fun j v hv => by
            rw [idA_toList] at hv
            have h1 : (bytesV (L.drop (32 * k)))[j]? = some v := by
              simp only [bytesV, List.getElem?_map, List.getElem?_take] at hv ⊢
              split at hv
              · exact hv
              · simp at hv
            exact HBQ.out.at h1
          have HBD : Hid (∀ w', Below wt.heap.size wt w' → Bs w' (some ⟨b, if cq = 32 then o else o + 32, none⟩) (32 * r) (cq - 32) (L.drop (32 * (k + 1)))) := fun w' hb => by
            have := Bs.dropped (HBQA.out w' hb) 32 (by omega)
            rw [HDK.out, show 32 * (r + 1) - 32 = 32 * r by omega] at this
            exact this
          clear HBQA
          generalize hY : (L.drop (32 * k)).take 32 = Y at *
          have HYS : Hid ((idA Y).size = 32) := by show _ = _; rw [idA_size, HYL.out]
          have HYT : Hid ((idA Y).toList.length = 32) := by show _ = _; rw [Array.length_toList, HYS.out]
          have HSL : Hid (Sl (wr.alloc (.cells (idA Y) 23)) (some ⟨wr.heap.size, 0, none⟩) 1 1 32 (bytesV Y)) := made_id wr Y _ _ (idA_toList Y) HYL.out
          have HO5 : Hid ((wr.alloc (.cells (idA Y) 23)).ownsRow wt.heap.size 23 32 (.slice po k co) k (bytesV (L.take (32 * k)))) := HOW.out.alloc _
          have HSZ4 : Hid (wt.heap.size ≤ (wr.alloc (.cells (idA Y) 23)).heap.size) := by have := HBW.out.size; show _ ≤ _; simp; omega
          clear hY
          go_wp2_with (first
            | refine wpList_load_mid rfl 23 _ rfl b o rfl (idA Y).toList _ HRG.out Tryd.underlying23 rfl (infoid (idA Y) HYS.out) ?_
            | refine wpList_buildOne rfl 24 23 _ rfl (idA Y) rfl 32 Tryd.underlying24 (by kernel_rfl) (by omega) (by omega) HYS.out ?_
            | (at_builtin; refine wpList_append_nx rfl _ _ 24 rfl (base := wt.heap.size) Tryd.underlying24 infoIds (by rfl) (by omega) rfl HO5.out rfl HSL.out (bytesV_one _) (by omega) HSZ4.out ?_))
          intro p' c' w5 hown hg hnx hne
          have HO6 := Lib.hid hown
          have hb5 : Below wt.heap.size wt w5 := (HBW.out.alloc HBW.out.size _).grown hg HSZ4.out (fun i hi => (HO5.out.lt i hi).1)
          have HB5 := Lib.hid hb5
          clear hown hg hnx hne hb5
          go_wp2_with fail
          go_roundw
          case rel =>
            exact ⟨k + 1, r, _, _, p', c', by omega, by rw [show 32 * (r + 1) - 32 = 32 * r by omega], HBD.out, rfl, by have := HO6.out; rw [HTK.out, bytesV_append]; exact this, HB5.out⟩
          case measure => simp; omega
    · obtain ⟨m, rfl⟩ : ∃ m : Nat, n = (m : Int) := ⟨n.toNat, by omega⟩
      by_cases hq : (q : Int) / 32 < (m : Int)
      · have hd1 : decide ((0 : Int) ≤ (m : Int)) = true := decide_eq_true (by omega)
        go_enter Tryd.func37, Tryd.ntmps37
        go_wp2_with fail
        refine (none_any w H.out).mono ?_
        rintro e w' ⟨rfl, rfl⟩
        go_wp2_with fail
        refine (left_any w H.out).mono ?_
        rintro e w2 ⟨rfl, hb2⟩
        have HBX := Lib.hid hb2
        have H2 := Lib.hid (H.out.below hb2)
        clear hb2
        dsimp only
        rw [hq0]
        obtain ⟨N0, hN0⟩ : ∃ N0 : Int, N0 = 32 * ((q : Int) / 32) := ⟨_, rfl⟩
        obtain ⟨f0, hf0⟩ : ∃ f0 : Bool, f0 = true := ⟨_, rfl⟩
        have HN0 : Hid (-9223372036854775808 ≤ N0 ∧ N0 ≤ 9223372036854775807) := by show _ ∧ _; omega
        have HLB := Lib.hid (HE.out N0 f0).1
        have HF : Hid (∀ wt, LeftR base rb (RD.takeS ⟨l, pos, some b⟩ N0 f0) w2 wt → ∀ po co w', w'.ownsRow wt.heap.size 23 32 (.slice po 0 co) 0 (bytesV []) → Below wt.heap.size wt w' → IdsP base rb ⟨l, pos, some b⟩ (m : Int) w (.returned (.slice po 0 co)) w') := fun wt hl => by
          rw [(HE.out _ _).2] at hl
          exact HEI.out w2 wt HBX.out hl
        have HT := Lib.hid (take_any w2 H2.out N0 HN0.out f0)
        obtain ⟨L, hL⟩ : ∃ L : List UInt8, L = [] := ⟨_, rfl⟩
        obtain ⟨kk, hkk⟩ : ∃ kk, kk = 0 := ⟨_, rfl⟩
        have HLL : Hid (L.length = 32 * kk) := by show _ = _; rw [hL, hkk]; rfl
        have hkb : 32 * kk ≤ 140737488355328 := by omega
        rw [← hL] at HF HLB
        rw [← hkk] at HF
        rw [hN0, hf0] at HT HF HLB
        clear hL hkk
        go_wp2_with fail
        refine HT.out.mono ?_
        rintro e wt ⟨p, c, rfl, hbs, hl⟩
        rw [HLB.out] at hbs ⊢
        rw [HLL.out] at hbs ⊢
        have HL := Lib.hid hl
        have HFIN := Lib.hid (HF.out wt hl)
        have HBS := Lib.hid hbs
        clear hl hbs
        go_wp2_with fail
        go_loopw [6, 7] (fun vo vb wr => ∃ (k r : Nat) (q : Option Addr) (cq : Nat) (po : Option Addr) (co : Nat), k + r = kk ∧ vb = .slice q (32 * r) cq ∧ (∀ w', Below wt.heap.size wt w' → Bs w' q (32 * r) cq (L.drop (32 * k))) ∧ vo = .slice po k co ∧ wr.ownsRow wt.heap.size 23 32 (.slice po k co) k (bytesV (L.take (32 * k))) ∧ Below wt.heap.size wt wr) (fun _ vb _ => match vb with | .slice _ n _ => n | _ => 0)
        case atStart => exact ⟨0, kk, p, c, none, 0, by omega, rfl, fun w' hb => HBS.out.below hb, rfl, ⟨rfl, .inl ⟨rfl, rfl⟩⟩, Below.refl _ _⟩
        case round =>
          obtain ⟨k, r, q, cq, po, co, hkr, rfl, hbq, rfl, hown, hbw⟩ := hrel
          have HBQA := Lib.hid hbq
          have hbq := hbq _ hbw
          have HBQ := Lib.hid hbq
          have HOW := Lib.hid hown
          have HBW := Lib.hid hbw
          have hcq := hbq.le
          have hcm := hbq.max
          clear hbq hown hbw
          cases r with
          | zero =>
            obtain rfl : k = kk := by omega
            have hfull : L.take (32 * k) = L := List.take_of_length_le (by rw [HLL.out]; omega)
            rw [hfull] at HOW
            have hd : decide (((32 * 0 : Nat) : Int) > 0) = false := by decide
            go_wp2_with fail
            go_ret
            exact HFIN.out po co _ HOW.out HBW.out
          | succ r =>
            have hd : decide ((0 : Int) < ((32 * (r + 1) : Nat) : Int)) = true := decide_eq_true (by omega)
            obtain ⟨b, o, rfl⟩ := HBQ.out.addr (by omega) (by omega)
            have hs1 := run_from32 (b := b) (o := o) (n := 32 * (r + 1)) (c := cq) (by omega) hcq
            have hs2 := run_upto32 (b := b) (o := o) (n := 32 * (r + 1)) (c := cq) (by omega) hcq
            have hs3 := run_arr32 (b := b) (o := o) (c := cq)
            have HYL : Hid (((L.drop (32 * k)).take 32).length = 32) := by show _ = _; rw [List.length_take, List.length_drop, HLL.out]; omega
            have HTK : Hid (L.take (32 * (k + 1)) = L.take (32 * k) ++ (L.drop (32 * k)).take 32) := by show _ = _; rw [Nat.mul_add, List.take_add]
            have HDK : Hid ((L.drop (32 * k)).drop 32 = L.drop (32 * (k + 1))) := by show _ = _; rw [List.drop_drop]; rfl
            have HRG : Hid (wr.rangeAt b o (idA ((L.drop (32 * k)).take 32)).toList) := fun j v hv => by
              rw [idA_toList] at hv
              have h1 : (bytesV (L.drop (32 * k)))[j]? = some v := by
                simp only [bytesV, List.getElem?_map, List.getElem?_take] at hv ⊢
                split at hv
                · exact hv
                · simp at hv
              exact HBQ.out.at h1
            have HBD : Hid (∀ w', Below wt.heap.size wt w' → Bs w' (some ⟨b, if cq = 32 then o else o + 32, none⟩) (32 * r) (cq - 32) (L.drop (32 * (k + 1)))) := fun w' hb => by
              have := Bs.dropped (HBQA.out w' hb) 32 (by omega)
              rw [HDK.out, show 32 * (r + 1) - 32 = 32 * r by omega] at this
              exact this
            clear HBQA
            generalize hY : (L.drop (32 * k)).take 32 = Y at *
            have HYS : Hid ((idA Y).size = 32) := by show _ = _; rw [idA_size, HYL.out]
            have HYT : Hid ((idA Y).toList.length = 32) := by show _ = _; rw [Array.length_toList, HYS.out]
            have HSL : Hid (Sl (wr.alloc (.cells (idA Y) 23)) (some ⟨wr.heap.size, 0, none⟩) 1 1 32 (bytesV Y)) := made_id wr Y _ _ (idA_toList Y) HYL.out
            have HO5 : Hid ((wr.alloc (.cells (idA Y) 23)).ownsRow wt.heap.size 23 32 (.slice po k co) k (bytesV (L.take (32 * k)))) := HOW.out.alloc _
            have HSZ4 : Hid (wt.heap.size ≤ (wr.alloc (.cells (idA Y) 23)).heap.size) := by have := HBW.out.size; show _ ≤ _; simp; omega
            clear hY
            go_wp2_with (first
              | refine wpList_load_mid rfl 23 _ rfl b o rfl (idA Y).toList _ HRG.out Tryd.underlying23 rfl (infoid (idA Y) HYS.out) ?_
              | refine wpList_buildOne rfl 24 23 _ rfl (idA Y) rfl 32 Tryd.underlying24 (by kernel_rfl) (by omega) (by omega) HYS.out ?_
              | (at_builtin; refine wpList_append_nx rfl _ _ 24 rfl (base := wt.heap.size) Tryd.underlying24 infoIds (by rfl) (by omega) rfl HO5.out rfl HSL.out (bytesV_one _) (by omega) HSZ4.out ?_))
            intro p' c' w5 hown hg hnx hne
            have HO6 := Lib.hid hown
            have hb5 : Below wt.heap.size wt w5 := (HBW.out.alloc HBW.out.size _).grown hg HSZ4.out (fun i hi => (HO5.out.lt i hi).1)
            have HB5 := Lib.hid hb5
            clear hown hg hnx hne hb5
            go_wp2_with fail
            go_roundw
            case rel =>
              exact ⟨k + 1, r, _, _, p', c', by omega, by rw [show 32 * (r + 1) - 32 = 32 * r by omega], HBD.out, rfl, by have := HO6.out; rw [HTK.out, bytesV_append]; exact this, HB5.out⟩
            case measure => simp; omega
      · have hd1 : decide ((0 : Int) ≤ (m : Int)) = true := decide_eq_true (by omega)
        go_enter Tryd.func37, Tryd.ntmps37
        go_wp2_with fail
        refine (none_any w H.out).mono ?_
        rintro e w' ⟨rfl, rfl⟩
        go_wp2_with fail
        refine (left_any w H.out).mono ?_
        rintro e w2 ⟨rfl, hb2⟩
        have HBX := Lib.hid hb2
        have H2 := Lib.hid (H.out.below hb2)
        clear hb2
        dsimp only
        rw [hq0]
        obtain ⟨N0, hN0⟩ : ∃ N0 : Int, N0 = 32 * (m : Int) := ⟨_, rfl⟩
        obtain ⟨f0, hf0⟩ : ∃ f0 : Bool, f0 = true := ⟨_, rfl⟩
        have HN0 : Hid (-9223372036854775808 ≤ N0 ∧ N0 ≤ 9223372036854775807) := by show _ ∧ _; omega
        have HLB := Lib.hid (HE.out N0 f0).1
        have HF : Hid (∀ wt, LeftR base rb (RD.takeS ⟨l, pos, some b⟩ N0 f0) w2 wt → ∀ po co w', w'.ownsRow wt.heap.size 23 32 (.slice po 0 co) 0 (bytesV []) → Below wt.heap.size wt w' → IdsP base rb ⟨l, pos, some b⟩ (m : Int) w (.returned (.slice po 0 co)) w') := fun wt hl => by
          rw [(HE.out _ _).2] at hl
          exact HEI.out w2 wt HBX.out hl
        have HT := Lib.hid (take_any w2 H2.out N0 HN0.out f0)
        obtain ⟨L, hL⟩ : ∃ L : List UInt8, L = [] := ⟨_, rfl⟩
        obtain ⟨kk, hkk⟩ : ∃ kk, kk = 0 := ⟨_, rfl⟩
        have HLL : Hid (L.length = 32 * kk) := by show _ = _; rw [hL, hkk]; rfl
        have hkb : 32 * kk ≤ 140737488355328 := by omega
        rw [← hL] at HF HLB
        rw [← hkk] at HF
        rw [hN0, hf0] at HT HF HLB
        clear hL hkk
        go_wp2_with fail
        refine HT.out.mono ?_
        rintro e wt ⟨p, c, rfl, hbs, hl⟩
        rw [HLB.out] at hbs ⊢
        rw [HLL.out] at hbs ⊢
        have HL := Lib.hid hl
        have HFIN := Lib.hid (HF.out wt hl)
        have HBS := Lib.hid hbs
        clear hl hbs
        go_wp2_with fail
        go_loopw [6, 7] (fun vo vb wr => ∃ (k r : Nat) (q : Option Addr) (cq : Nat) (po : Option Addr) (co : Nat), k + r = kk ∧ vb = .slice q (32 * r) cq ∧ (∀ w', Below wt.heap.size wt w' → Bs w' q (32 * r) cq (L.drop (32 * k))) ∧ vo = .slice po k co ∧ wr.ownsRow wt.heap.size 23 32 (.slice po k co) k (bytesV (L.take (32 * k))) ∧ Below wt.heap.size wt wr) (fun _ vb _ => match vb with | .slice _ n _ => n | _ => 0)
        case atStart => exact ⟨0, kk, p, c, none, 0, by omega, rfl, fun w' hb => HBS.out.below hb, rfl, ⟨rfl, .inl ⟨rfl, rfl⟩⟩, Below.refl _ _⟩
        case round =>
          obtain ⟨k, r, q, cq, po, co, hkr, rfl, hbq, rfl, hown, hbw⟩ := hrel
          have HBQA := Lib.hid hbq
          have hbq := hbq _ hbw
          have HBQ := Lib.hid hbq
          have HOW := Lib.hid hown
          have HBW := Lib.hid hbw
          have hcq := hbq.le
          have hcm := hbq.max
          clear hbq hown hbw
          cases r with
          | zero =>
            obtain rfl : k = kk := by omega
            have hfull : L.take (32 * k) = L := List.take_of_length_le (by rw [HLL.out]; omega)
            rw [hfull] at HOW
            have hd : decide (((32 * 0 : Nat) : Int) > 0) = false := by decide
            go_wp2_with fail
            go_ret
            exact HFIN.out po co _ HOW.out HBW.out
          | succ r =>
            have hd : decide ((0 : Int) < ((32 * (r + 1) : Nat) : Int)) = true := decide_eq_true (by omega)
            obtain ⟨b, o, rfl⟩ := HBQ.out.addr (by omega) (by omega)
            have hs1 := run_from32 (b := b) (o := o) (n := 32 * (r + 1)) (c := cq) (by omega) hcq
            have hs2 := run_upto32 (b := b) (o := o) (n := 32 * (r + 1)) (c := cq) (by omega) hcq
            have hs3 := run_arr32 (b := b) (o := o) (c := cq)
            have HYL : Hid (((L.drop (32 * k)).take 32).length = 32) := by show _ = _; rw [List.length_take, List.length_drop, HLL.out]; omega
            have HTK : Hid (L.take (32 * (k + 1)) = L.take (32 * k) ++ (L.drop (32 * k)).take 32) := by show _ = _; rw [Nat.mul_add, List.take_add]
            have HDK : Hid ((L.drop (32 * k)).drop 32 = L.drop (32 * (k + 1))) := by show _ = _; rw [List.drop_drop]; rfl
            have HRG : Hid (wr.rangeAt b o (idA ((L.drop (32 * k)).take 32)).toList) := fun j v hv => by
              rw [idA_toList] at hv
              have h1 : (bytesV (L.drop (32 * k)))[j]? = some v := by
                simp only [bytesV, List.getElem?_map, List.getElem?_take] at hv ⊢
                split at hv
                · exact hv
                · simp at hv
              exact HBQ.out.at h1
            have HBD : Hid (∀ w', Below wt.heap.size wt w' → Bs w' (some ⟨b, if cq = 32 then o else o + 32, none⟩) (32 * r) (cq - 32) (L.drop (32 * (k + 1)))) := fun w' hb => by
              have := Bs.dropped (HBQA.out w' hb) 32 (by omega)
              rw [HDK.out, show 32 * (r + 1) - 32 = 32 * r by omega] at this
              exact this
            clear HBQA
            generalize hY : (L.drop (32 * k)).take 32 = Y at *
            have HYS : Hid ((idA Y).size = 32) := by show _ = _; rw [idA_size, HYL.out]
            have HYT : Hid ((idA Y).toList.length = 32) := by show _ = _; rw [Array.length_toList, HYS.out]
            have HSL : Hid (Sl (wr.alloc (.cells (idA Y) 23)) (some ⟨wr.heap.size, 0, none⟩) 1 1 32 (bytesV Y)) := made_id wr Y _ _ (idA_toList Y) HYL.out
            have HO5 : Hid ((wr.alloc (.cells (idA Y) 23)).ownsRow wt.heap.size 23 32 (.slice po k co) k (bytesV (L.take (32 * k)))) := HOW.out.alloc _
            have HSZ4 : Hid (wt.heap.size ≤ (wr.alloc (.cells (idA Y) 23)).heap.size) := by have := HBW.out.size; show _ ≤ _; simp; omega
            clear hY
            go_wp2_with (first
              | refine wpList_load_mid rfl 23 _ rfl b o rfl (idA Y).toList _ HRG.out Tryd.underlying23 rfl (infoid (idA Y) HYS.out) ?_
              | refine wpList_buildOne rfl 24 23 _ rfl (idA Y) rfl 32 Tryd.underlying24 (by kernel_rfl) (by omega) (by omega) HYS.out ?_
              | (at_builtin; refine wpList_append_nx rfl _ _ 24 rfl (base := wt.heap.size) Tryd.underlying24 infoIds (by rfl) (by omega) rfl HO5.out rfl HSL.out (bytesV_one _) (by omega) HSZ4.out ?_))
            intro p' c' w5 hown hg hnx hne
            have HO6 := Lib.hid hown
            have hb5 : Below wt.heap.size wt w5 := (HBW.out.alloc HBW.out.size _).grown hg HSZ4.out (fun i hi => (HO5.out.lt i hi).1)
            have HB5 := Lib.hid hb5
            clear hown hg hnx hne hb5
            go_wp2_with fail
            go_roundw
            case rel =>
              exact ⟨k + 1, r, _, _, p', c', by omega, by rw [show 32 * (r + 1) - 32 = 32 * r by omega], HBD.out, rfl, by have := HO6.out; rw [HTK.out, bytesV_append]; exact this, HB5.out⟩
            case measure => simp; omega
  | none =>
    have hbv : bv = .nilIface := h.fault
    rw [hbv] at hc3
    clear h hbv
    by_cases hq : ((l.length - pos : Nat) : Int) / 32 < n
    · obtain ⟨m, rfl⟩ : ∃ m : Nat, n = (m : Int) := ⟨n.toNat, by omega⟩
      have hS0 : Hid (RD.takeS ⟨l, pos, none⟩ (32 * (m : Int)) true = ⟨l, pos, some 2⟩) := by
        show _ = _
        unfold RD.takeS
        rw [if_neg (by simp), if_neg (by rintro (h | h); (· cases h); (· omega)), if_pos (by dsimp only; omega)]
      have hB0 : Hid (RD.takeB ⟨l, pos, none⟩ (32 * (m : Int)) true = []) := by
        show _ = _
        unfold RD.takeB
        rw [if_neg]
        rintro ⟨_, _, _, h4⟩
        dsimp only at h4
        omega
      have HFS : Hid (RD.fail ⟨l, pos, none⟩ 2 = ⟨l, pos, some 2⟩) := by show _ = _; unfold RD.fail; rw [if_pos ⟨rfl, by decide⟩]
      rw [hq0] at hq
      have hdq : decide ((q : Int) / 32 < (m : Int)) = true := decide_eq_true hq
      have hd1 : decide ((0 : Int) ≤ (m : Int)) = true := decide_eq_true (by omega)
      obtain ⟨N0, hN0⟩ : ∃ N0 : Int, N0 = 32 * ((q : Int) / 32) := ⟨_, rfl⟩
      have HN0 : Hid (-9223372036854775808 ≤ N0 ∧ N0 ≤ 9223372036854775807) := by show _ ∧ _; omega
      have HLB : Hid (RD.takeB ⟨l, pos, some 2⟩ N0 true = []) := by show _ = _; unfold RD.takeB; rw [if_neg (by simp)]
      have HLS : Hid (RD.takeS ⟨l, pos, some 2⟩ N0 true = ⟨l, pos, some 2⟩) := by show _ = _; unfold RD.takeS; rw [if_pos (by simp)]
      go_enter Tryd.func37, Tryd.ntmps37
      go_wp2_with fail
      refine (none_any w H.out).mono ?_
      rintro e w' ⟨rfl, rfl⟩
      go_wp2_with fail
      refine (left_any w H.out).mono ?_
      rintro e w1 ⟨rfl, hb1⟩
      have H1 := Lib.hid (H.out.below hb1)
      have HB1 := Lib.hid hb1
      clear hb1
      dsimp only
      rw [hq0]
      go_wp2_with fail
      refine (fail_any w1 H1.out 2 (by omega)).mono ?_
      rintro e w2 ⟨rfl, hl2⟩
      rw [HFS.out] at hl2
      have H2 := Lib.hid hl2.1
      have HL2 := Lib.hid ((LeftR.same H.out HB1.out).trans hl2)
      clear hl2
      go_wp2_with fail
      refine (left_any w2 H2.out).mono ?_
      rintro e w3 ⟨rfl, hb3⟩
      have H3 := Lib.hid (H2.out.below hb3)
      have HL3 := Lib.hid (HL2.out.trans (LeftR.same H2.out hb3))
      clear hb3
      dsimp only
      rw [hq0]
      have HT := Lib.hid (take_any w3 H3.out N0 HN0.out true)
      obtain ⟨L, hL⟩ : ∃ L : List UInt8, L = [] := ⟨_, rfl⟩
      obtain ⟨kk, hkk⟩ : ∃ kk, kk = 0 := ⟨_, rfl⟩
      have HLL : Hid (L.length = 32 * kk) := by show _ = _; rw [hL, hkk]; rfl
      have hkb : 32 * kk ≤ 140737488355328 := by omega
      have HF : Hid (∀ wt, LeftR base rb (RD.takeS ⟨l, pos, some 2⟩ N0 true) w3 wt → ∀ po co w', w'.ownsRow wt.heap.size 23 32 (.slice po kk co) kk (bytesV L) → Below wt.heap.size wt w' → IdsP base rb ⟨l, pos, none⟩ (m : Int) w (.returned (.slice po kk co)) w') := fun wt hl po co w' ho hb => by
        rw [HLS.out] at hl
        refine ⟨po, kk, co, by rw [hB0.out, hkk]; rfl, rfl, ?_, by rw [hS0.out]; exact (HL3.out.trans hl).trans (LeftR.same hl.1 hb)⟩
        rw [hB0.out, ← hL]
        refine own_base ho (fun i hi => ?_)
        have := (ho.lt i hi).1
        have := hl.2.size
        have := HL3.out.2.size
        omega
      rw [← hL] at HLB
      rw [hN0] at HT HF HLB
      clear hL hkk
      go_wp2_with fail
      refine HT.out.mono ?_
      rintro e wt ⟨p, c, rfl, hbs, hl⟩
      rw [HLB.out] at hbs ⊢
      rw [HLL.out] at hbs ⊢
      have HL := Lib.hid hl
      have HFIN := Lib.hid (HF.out wt hl)
      have HBS := Lib.hid hbs
      clear hl hbs
      go_wp2_with fail
      go_loopw [6, 7] (fun vo vb wr => ∃ (k r : Nat) (q : Option Addr) (cq : Nat) (po : Option Addr) (co : Nat), k + r = kk ∧ vb = .slice q (32 * r) cq ∧ (∀ w', Below wt.heap.size wt w' → Bs w' q (32 * r) cq (L.drop (32 * k))) ∧ vo = .slice po k co ∧ wr.ownsRow wt.heap.size 23 32 (.slice po k co) k (bytesV (L.take (32 * k))) ∧ Below wt.heap.size wt wr) (fun _ vb _ => match vb with | .slice _ n _ => n | _ => 0)
      case atStart => exact ⟨0, kk, p, c, none, 0, by omega, rfl, fun w' hb => HBS.out.below hb, rfl, ⟨rfl, .inl ⟨rfl, rfl⟩⟩, Below.refl _ _⟩
      case round =>
        obtain ⟨k, r, q, cq, po, co, hkr, rfl, hbq, rfl, hown, hbw⟩ := hrel
        have HBQA := Lib.hid hbq
        have hbq := hbq _ hbw
        have HBQ := Lib.hid hbq
        have HOW := Lib.hid hown
        have HBW := Lib.hid hbw
        have hcq := hbq.le
        have hcm := hbq.max
        clear hbq hown hbw
        cases r with
        | zero =>
          obtain rfl : k = kk := by omega
          have hfull : L.take (32 * k) = L := List.take_of_length_le (by rw [HLL.out]; omega)
          rw [hfull] at HOW
          have hd : decide (((32 * 0 : Nat) : Int) > 0) = false := by decide
          go_wp2_with fail
          go_ret
          exact HFIN.out po co _ HOW.out HBW.out
        | succ r =>
          have hd : decide ((0 : Int) < ((32 * (r + 1) : Nat) : Int)) = true := decide_eq_true (by omega)
          obtain ⟨b, o, rfl⟩ := HBQ.out.addr (by omega) (by omega)
          have hs1 := run_from32 (b := b) (o := o) (n := 32 * (r + 1)) (c := cq) (by omega) hcq
          have hs2 := run_upto32 (b := b) (o := o) (n := 32 * (r + 1)) (c := cq) (by omega) hcq
          have hs3 := run_arr32 (b := b) (o := o) (c := cq)
          have HYL : Hid (((L.drop (32 * k)).take 32).length = 32) := by show _ = _; rw [List.length_take, List.length_drop, HLL.out]; omega
          have HTK : Hid (L.take (32 * (k + 1)) = L.take (32 * k) ++ (L.drop (32 * k)).take 32) := by show _ = _; rw [Nat.mul_add, List.take_add]
          have HDK : Hid ((L.drop (32 * k)).drop 32 = L.drop (32 * (k + 1))) := by show _ = _; rw [List.drop_drop]; rfl
          have HRG : Hid (wr.rangeAt b o (idA ((L.drop (32 * k)).take 32)).toList) := fun j v hv => by
            rw [idA_toList] at hv
            have h1 : (bytesV (L.drop (32 * k)))[j]? = some v := by
              simp only [bytesV, List.getElem?_map, List.getElem?_take] at hv ⊢
              split at hv
              · exact hv
              · simp at hv
            exact HBQ.out.at h1
          have HBD : Hid (∀ w', Below wt.heap.size wt w' → Bs w' (some ⟨b, if cq = 32 then o else o + 32, none⟩) (32 * r) (cq - 32) (L.drop (32 * (k + 1)))) := fun w' hb => by
            have := Bs.dropped (HBQA.out w' hb) 32 (by omega)
            rw [HDK.out, show 32 * (r + 1) - 32 = 32 * r by omega] at this
            exact this
          clear HBQA
          generalize hY : (L.drop (32 * k)).take 32 = Y at *
          have HYS : Hid ((idA Y).size = 32) := by show _ = _; rw [idA_size, HYL.out]
          have HYT : Hid ((idA Y).toList.length = 32) := by show _ = _; rw [Array.length_toList, HYS.out]
          have HSL : Hid (Sl (wr.alloc (.cells (idA Y) 23)) (some ⟨wr.heap.size, 0, none⟩) 1 1 32 (bytesV Y)) := made_id wr Y _ _ (idA_toList Y) HYL.out
          have HO5 : Hid ((wr.alloc (.cells (idA Y) 23)).ownsRow wt.heap.size 23 32 (.slice po k co) k (bytesV (L.take (32 * k)))) := HOW.out.alloc _
          have HSZ4 : Hid (wt.heap.size ≤ (wr.alloc (.cells (idA Y) 23)).heap.size) := by have := HBW.out.size; show _ ≤ _; simp; omega
          clear hY
          go_wp2_with (first
            | refine wpList_load_mid rfl 23 _ rfl b o rfl (idA Y).toList _ HRG.out Tryd.underlying23 rfl (infoid (idA Y) HYS.out) ?_
            | refine wpList_buildOne rfl 24 23 _ rfl (idA Y) rfl 32 Tryd.underlying24 (by kernel_rfl) (by omega) (by omega) HYS.out ?_
            | (at_builtin; refine wpList_append_nx rfl _ _ 24 rfl (base := wt.heap.size) Tryd.underlying24 infoIds (by rfl) (by omega) rfl HO5.out rfl HSL.out (bytesV_one _) (by omega) HSZ4.out ?_))
          intro p' c' w5 hown hg hnx hne
          have HO6 := Lib.hid hown
          have hb5 : Below wt.heap.size wt w5 := (HBW.out.alloc HBW.out.size _).grown hg HSZ4.out (fun i hi => (HO5.out.lt i hi).1)
          have HB5 := Lib.hid hb5
          clear hown hg hnx hne hb5
          go_wp2_with fail
          go_roundw
          case rel =>
            exact ⟨k + 1, r, _, _, p', c', by omega, by rw [show 32 * (r + 1) - 32 = 32 * r by omega], HBD.out, rfl, by have := HO6.out; rw [HTK.out, bytesV_append]; exact this, HB5.out⟩
          case measure => simp; omega
    · by_cases hneg : n < 0
      · rw [hq0] at hq
        have hdq : decide ((q : Int) / 32 < n) = false := decide_eq_false hq
        have hd0 : decide ((0 : Int) ≤ n) = false := decide_eq_false (by omega)
        have hS0 : Hid (RD.takeS ⟨l, pos, none⟩ (32 * n) true = ⟨l, pos, some 1⟩) := by
          show _ = _
          unfold RD.takeS
          rw [if_neg (by simp), if_pos (.inr (by omega))]
        have hB0 : Hid (RD.takeB ⟨l, pos, none⟩ (32 * n) true = []) := by
          show _ = _
          unfold RD.takeB
          rw [if_neg]
          rintro ⟨_, _, h3, h4⟩
          omega
        have HLB : Hid (RD.takeB ⟨l, pos, none⟩ 0 false = []) := by show _ = _; unfold RD.takeB; rw [if_neg (by simp)]
        have HLS : Hid (RD.takeS ⟨l, pos, none⟩ 0 false = ⟨l, pos, some 1⟩) := by show _ = _; unfold RD.takeS; rw [if_neg (by simp), if_pos (.inl rfl)]
        go_enter Tryd.func37, Tryd.ntmps37
        go_wp2_with fail
        refine (none_any w H.out).mono ?_
        rintro e w' ⟨rfl, rfl⟩
        go_wp2_with fail
        refine (left_any w H.out).mono ?_
        rintro e w1 ⟨rfl, hb1⟩
        have H1 := Lib.hid (H.out.below hb1)
        have HB1 := Lib.hid hb1
        clear hb1
        dsimp only
        rw [hq0]
        go_wp2_with fail
        refine (left_any w1 H1.out).mono ?_
        rintro e w2 ⟨rfl, hb2⟩
        have HBX := Lib.hid (HB1.out.trans (hb2.mono HB1.out.size))
        have H2 := Lib.hid (H1.out.below hb2)
        clear hb2
        dsimp only
        rw [hq0]
        have HT := Lib.hid (take_any w2 H2.out 0 (by omega) false)
        obtain ⟨L, hL⟩ : ∃ L : List UInt8, L = [] := ⟨_, rfl⟩
        obtain ⟨kk, hkk⟩ : ∃ kk, kk = 0 := ⟨_, rfl⟩
        have HLL : Hid (L.length = 32 * kk) := by show _ = _; rw [hL, hkk]; rfl
        have hkb : 32 * kk ≤ 140737488355328 := by omega
        have HF : Hid (∀ wt, LeftR base rb (RD.takeS ⟨l, pos, none⟩ 0 false) w2 wt → ∀ po co w', w'.ownsRow wt.heap.size 23 32 (.slice po kk co) kk (bytesV L) → Below wt.heap.size wt w' → IdsP base rb ⟨l, pos, none⟩ n w (.returned (.slice po kk co)) w') := fun wt hl po co w' ho hb => by
          rw [HLS.out] at hl
          refine ⟨po, kk, co, by rw [hB0.out, hkk]; rfl, rfl, ?_, by rw [hS0.out]; exact ((LeftR.same H.out HBX.out).trans hl).trans (LeftR.same hl.1 hb)⟩
          rw [hB0.out, ← hL]
          refine own_base ho (fun i hi => ?_)
          have := (ho.lt i hi).1
          have := hl.2.size
          have := HBX.out.size
          omega
        rw [← hL] at HLB
        clear hL hkk
        go_wp2_with fail
        refine HT.out.mono ?_
        rintro e wt ⟨p, c, rfl, hbs, hl⟩
        rw [HLB.out] at hbs ⊢
        rw [HLL.out] at hbs ⊢
        have HL := Lib.hid hl
        have HFIN := Lib.hid (HF.out wt hl)
        have HBS := Lib.hid hbs
        clear hl hbs
        go_wp2_with fail
        go_loopw [6, 7] (fun vo vb wr => ∃ (k r : Nat) (q : Option Addr) (cq : Nat) (po : Option Addr) (co : Nat), k + r = kk ∧ vb = .slice q (32 * r) cq ∧ (∀ w', Below wt.heap.size wt w' → Bs w' q (32 * r) cq (L.drop (32 * k))) ∧ vo = .slice po k co ∧ wr.ownsRow wt.heap.size 23 32 (.slice po k co) k (bytesV (L.take (32 * k))) ∧ Below wt.heap.size wt wr) (fun _ vb _ => match vb with | .slice _ n _ => n | _ => 0)
        case atStart => exact ⟨0, kk, p, c, none, 0, by omega, rfl, fun w' hb => HBS.out.below hb, rfl, ⟨rfl, .inl ⟨rfl, rfl⟩⟩, Below.refl _ _⟩
        case round =>
          obtain ⟨k, r, q, cq, po, co, hkr, rfl, hbq, rfl, hown, hbw⟩ := hrel
          have HBQA := Lib.hid hbq
          have hbq := hbq _ hbw
          have HBQ := Lib.hid hbq
          have HOW := Lib.hid hown
          have HBW := Lib.hid hbw
          have hcq := hbq.le
          have hcm := hbq.max
          clear hbq hown hbw
          cases r with
          | zero =>
            obtain rfl : k = kk := by omega
            have hfull : L.take (32 * k) = L := List.take_of_length_le (by rw [HLL.out]; omega)
            rw [hfull] at HOW
            have hd : decide (((32 * 0 : Nat) : Int) > 0) = false := by decide
            go_wp2_with fail
            go_ret
            exact HFIN.out po co _ HOW.out HBW.out
          | succ r =>
            have hd : decide ((0 : Int) < ((32 * (r + 1) : Nat) : Int)) = true := decide_eq_true (by omega)
            obtain ⟨b, o, rfl⟩ := HBQ.out.addr (by omega) (by omega)
            have hs1 := run_from32 (b := b) (o := o) (n := 32 * (r + 1)) (c := cq) (by omega) hcq
            have hs2 := run_upto32 (b := b) (o := o) (n := 32 * (r + 1)) (c := cq) (by omega) hcq
            have hs3 := run_arr32 (b := b) (o := o) (c := cq)
            have HYL : Hid (((L.drop (32 * k)).take 32).length = 32) := by show _ = _; rw [List.length_take, List.length_drop, HLL.out]; omega
            have HTK : Hid (L.take (32 * (k + 1)) = L.take (32 * k) ++ (L.drop (32 * k)).take 32) := by show _ = _; rw [Nat.mul_add, List.take_add]
            have HDK : Hid ((L.drop (32 * k)).drop 32 = L.drop (32 * (k + 1))) := by show _ = _; rw [List.drop_drop]; rfl
            have HRG : Hid (wr.rangeAt b o (idA ((L.drop (32 * k)).take 32)).toList) := fun j v hv => by
              rw [idA_toList] at hv
              have h1 : (bytesV (L.drop (32 * k)))[j]? = some v := by
                simp only [bytesV, List.getElem?_map, List.getElem?_take] at hv ⊢
                split at hv
                · exact hv
                · simp at hv
              exact HBQ.out.at h1
            have HBD : Hid (∀ w', Below wt.heap.size wt w' → Bs w' (some ⟨b, if cq = 32 then o else o + 32, none⟩) (32 * r) (cq - 32) (L.drop (32 * (k + 1)))) := fun w' hb => by
              have := Bs.dropped (HBQA.out w' hb) 32 (by omega)
              rw [HDK.out, show 32 * (r + 1) - 32 = 32 * r by omega] at this
              exact this
            clear HBQA
            generalize hY : (L.drop (32 * k)).take 32 = Y at *
            have HYS : Hid ((idA Y).size = 32) := by show _ = _; rw [idA_size, HYL.out]
            have HYT : Hid ((idA Y).toList.length = 32) := by show _ = _; rw [Array.length_toList, HYS.out]
            have HSL : Hid (Sl (wr.alloc (.cells (idA Y) 23)) (some ⟨wr.heap.size, 0, none⟩) 1 1 32 (bytesV Y)) := made_id wr Y _ _ (idA_toList Y) HYL.out
            have HO5 : Hid ((wr.alloc (.cells (idA Y) 23)).ownsRow wt.heap.size 23 32 (.slice po k co) k (bytesV (L.take (32 * k)))) := HOW.out.alloc _
            have HSZ4 : Hid (wt.heap.size ≤ (wr.alloc (.cells (idA Y) 23)).heap.size) := by have := HBW.out.size; show _ ≤ _; simp; omega
            clear hY
            go_wp2_with (first
              | refine wpList_load_mid rfl 23 _ rfl b o rfl (idA Y).toList _ HRG.out Tryd.underlying23 rfl (infoid (idA Y) HYS.out) ?_
              | refine wpList_buildOne rfl 24 23 _ rfl (idA Y) rfl 32 Tryd.underlying24 (by kernel_rfl) (by omega) (by omega) HYS.out ?_
              | (at_builtin; refine wpList_append_nx rfl _ _ 24 rfl (base := wt.heap.size) Tryd.underlying24 infoIds (by rfl) (by omega) rfl HO5.out rfl HSL.out (bytesV_one _) (by omega) HSZ4.out ?_))
            intro p' c' w5 hown hg hnx hne
            have HO6 := Lib.hid hown
            have hb5 : Below wt.heap.size wt w5 := (HBW.out.alloc HBW.out.size _).grown hg HSZ4.out (fun i hi => (HO5.out.lt i hi).1)
            have HB5 := Lib.hid hb5
            clear hown hg hnx hne hb5
            go_wp2_with fail
            go_roundw
            case rel =>
              exact ⟨k + 1, r, _, _, p', c', by omega, by rw [show 32 * (r + 1) - 32 = 32 * r by omega], HBD.out, rfl, by have := HO6.out; rw [HTK.out, bytesV_append]; exact this, HB5.out⟩
            case measure => simp; omega
      · obtain ⟨m, rfl⟩ : ∃ m : Nat, n = (m : Int) := ⟨n.toNat, by omega⟩
        have hB0 : RD.takeB ⟨l, pos, none⟩ (32 * (m : Int)) true = (l.drop pos).take (32 * m) := by
          unfold RD.takeB
          rw [if_pos ⟨rfl, rfl, by omega, by dsimp only; omega⟩]
          congr 1
        obtain ⟨L, hL⟩ : ∃ L, L = RD.takeB ⟨l, pos, none⟩ (32 * (m : Int)) true := ⟨_, rfl⟩
        obtain ⟨kk, hkk⟩ : ∃ kk, kk = m := ⟨_, rfl⟩
        have HLB : Hid (RD.takeB ⟨l, pos, none⟩ (32 * (m : Int)) true = L) := hL.symm
        have HLL : Hid (L.length = 32 * kk) := by show _ = _; rw [hL, hB0, List.length_take, List.length_drop, hkk]; omega
        have hkb : 32 * kk ≤ 140737488355328 := by omega
        rw [hq0] at hq
        have hdq : decide (((q : Nat) : Int) / 32 < (m : Int)) = false := decide_eq_false hq
        clear hB0 hL hkk
        go_enter Tryd.func37, Tryd.ntmps37
        go_wp2_with fail
        refine (none_any w H.out).mono ?_
        rintro e w' ⟨rfl, rfl⟩
        go_wp2_with fail
        refine (left_any w H.out).mono ?_
        rintro e w1 ⟨rfl, hb1⟩
        have H1 := Lib.hid (H.out.below hb1)
        have HB1 := Lib.hid hb1
        clear hb1
        dsimp only
        rw [hq0]
        go_wp2_with fail
        refine (left_any w1 H1.out).mono ?_
        rintro e w2 ⟨rfl, hb2⟩
        have HBX := Lib.hid (HB1.out.trans (hb2.mono HB1.out.size))
        have H2 := Lib.hid (H1.out.below hb2)
        clear hb2
        dsimp only
        rw [hq0]
        have HT := Lib.hid (take_any w2 H2.out (32 * (m : Int)) (by omega) true)
        have HF : Hid (∀ wt, LeftR base rb (RD.takeS ⟨l, pos, none⟩ (32 * (m : Int)) true) w2 wt → ∀ po co w', w'.ownsRow wt.heap.size 23 32 (.slice po kk co) kk (bytesV L) → Below wt.heap.size wt w' → IdsP base rb ⟨l, pos, none⟩ (m : Int) w (.returned (.slice po kk co)) w') := fun wt hl po co w' ho hb => by
          refine ⟨po, kk, co, by rw [HLB.out, HLL.out], rfl, ?_, ((LeftR.same H.out HBX.out).trans hl).trans (LeftR.same hl.1 hb)⟩
          rw [HLB.out]
          refine own_base ho (fun i hi => ?_)
          have := (ho.lt i hi).1
          have := hl.2.size
          have := HBX.out.size
          omega
        go_wp2_with fail
        refine HT.out.mono ?_
        rintro e wt ⟨p, c, rfl, hbs, hl⟩
        rw [HLB.out] at hbs ⊢
        rw [HLL.out] at hbs ⊢
        have HL := Lib.hid hl
        have HFIN := Lib.hid (HF.out wt hl)
        have HBS := Lib.hid hbs
        clear hl hbs
        go_wp2_with fail
        go_loopw [6, 7] (fun vo vb wr => ∃ (k r : Nat) (q : Option Addr) (cq : Nat) (po : Option Addr) (co : Nat), k + r = kk ∧ vb = .slice q (32 * r) cq ∧ (∀ w', Below wt.heap.size wt w' → Bs w' q (32 * r) cq (L.drop (32 * k))) ∧ vo = .slice po k co ∧ wr.ownsRow wt.heap.size 23 32 (.slice po k co) k (bytesV (L.take (32 * k))) ∧ Below wt.heap.size wt wr) (fun _ vb _ => match vb with | .slice _ n _ => n | _ => 0)
        case atStart => exact ⟨0, kk, p, c, none, 0, by omega, rfl, fun w' hb => HBS.out.below hb, rfl, ⟨rfl, .inl ⟨rfl, rfl⟩⟩, Below.refl _ _⟩
        case round =>
          obtain ⟨k, r, q, cq, po, co, hkr, rfl, hbq, rfl, hown, hbw⟩ := hrel
          have HBQA := Lib.hid hbq
          have hbq := hbq _ hbw
          have HBQ := Lib.hid hbq
          have HOW := Lib.hid hown
          have HBW := Lib.hid hbw
          have hcq := hbq.le
          have hcm := hbq.max
          clear hbq hown hbw
          cases r with
          | zero =>
            obtain rfl : k = kk := by omega
            have hfull : L.take (32 * k) = L := List.take_of_length_le (by rw [HLL.out]; omega)
            rw [hfull] at HOW
            have hd : decide (((32 * 0 : Nat) : Int) > 0) = false := by decide
            go_wp2_with fail
            go_ret
            exact HFIN.out po co _ HOW.out HBW.out
          | succ r =>
            have hd : decide ((0 : Int) < ((32 * (r + 1) : Nat) : Int)) = true := decide_eq_true (by omega)
            obtain ⟨b, o, rfl⟩ := HBQ.out.addr (by omega) (by omega)
            have hs1 := run_from32 (b := b) (o := o) (n := 32 * (r + 1)) (c := cq) (by omega) hcq
            have hs2 := run_upto32 (b := b) (o := o) (n := 32 * (r + 1)) (c := cq) (by omega) hcq
            have hs3 := run_arr32 (b := b) (o := o) (c := cq)
            have HYL : Hid (((L.drop (32 * k)).take 32).length = 32) := by show _ = _; rw [List.length_take, List.length_drop, HLL.out]; omega
            have HTK : Hid (L.take (32 * (k + 1)) = L.take (32 * k) ++ (L.drop (32 * k)).take 32) := by show _ = _; rw [Nat.mul_add, List.take_add]
            have HDK : Hid ((L.drop (32 * k)).drop 32 = L.drop (32 * (k + 1))) := by show _ = _; rw [List.drop_drop]; rfl
            have HRG : Hid (wr.rangeAt b o (idA ((L.drop (32 * k)).take 32)).toList) := fun j v hv => by
              rw [idA_toList] at hv
              have h1 : (bytesV (L.drop (32 * k)))[j]? = some v := by
                simp only [bytesV, List.getElem?_map, List.getElem?_take] at hv ⊢
                split at hv
                · exact hv
                · simp at hv
              exact HBQ.out.at h1
            have HBD : Hid (∀ w', Below wt.heap.size wt w' → Bs w' (some ⟨b, if cq = 32 then o else o + 32, none⟩) (32 * r) (cq - 32) (L.drop (32 * (k + 1)))) := fun w' hb => by
              have := Bs.dropped (HBQA.out w' hb) 32 (by omega)
              rw [HDK.out, show 32 * (r + 1) - 32 = 32 * r by omega] at this
              exact this
            clear HBQA
            generalize hY : (L.drop (32 * k)).take 32 = Y at *
            have HYS : Hid ((idA Y).size = 32) := by show _ = _; rw [idA_size, HYL.out]
            have HYT : Hid ((idA Y).toList.length = 32) := by show _ = _; rw [Array.length_toList, HYS.out]
            have HSL : Hid (Sl (wr.alloc (.cells (idA Y) 23)) (some ⟨wr.heap.size, 0, none⟩) 1 1 32 (bytesV Y)) := made_id wr Y _ _ (idA_toList Y) HYL.out
            have HO5 : Hid ((wr.alloc (.cells (idA Y) 23)).ownsRow wt.heap.size 23 32 (.slice po k co) k (bytesV (L.take (32 * k)))) := HOW.out.alloc _
            have HSZ4 : Hid (wt.heap.size ≤ (wr.alloc (.cells (idA Y) 23)).heap.size) := by have := HBW.out.size; show _ ≤ _; simp; omega
            clear hY
            go_wp2_with (first
              | refine wpList_load_mid rfl 23 _ rfl b o rfl (idA Y).toList _ HRG.out Tryd.underlying23 rfl (infoid (idA Y) HYS.out) ?_
              | refine wpList_buildOne rfl 24 23 _ rfl (idA Y) rfl 32 Tryd.underlying24 (by kernel_rfl) (by omega) (by omega) HYS.out ?_
              | (at_builtin; refine wpList_append_nx rfl _ _ 24 rfl (base := wt.heap.size) Tryd.underlying24 infoIds (by rfl) (by omega) rfl HO5.out rfl HSL.out (bytesV_one _) (by omega) HSZ4.out ?_))
            intro p' c' w5 hown hg hnx hne
            have HO6 := Lib.hid hown
            have hb5 : Below wt.heap.size wt w5 := (HBW.out.alloc HBW.out.size _).grown hg HSZ4.out (fun i hi => (HO5.out.lt i hi).1)
            have HB5 := Lib.hid hb5
            clear hown hg hnx hne hb5
            go_wp2_with fail
            go_roundw
            case rel =>
              exact ⟨k + 1, r, _, _, p', c', by omega, by rw [show 32 * (r + 1) - 32 = 32 * r by omega], HBD.out, rfl, by have := HO6.out; rw [HTK.out, bytesV_append]; exact this, HB5.out⟩
            case measure => simp; omega
end Go.Proofs.YtdaigkcbmdcbcaaDoor.Rdr
