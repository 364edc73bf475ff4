/- PARTS, JOINED: THE WALKS OF BLOCKS, on: the reference's word whether a block may be. Conditions: none. BLOCKS: Encode of any block; the reference's Bytes, Encode. Conditions: none. BLOCKS: Decode. Conditions: the laid cell of errors.errorType; at most 2^40 bytes. RECORDS IN MEMORY: their cells; are two the same, here and in the reference. Conditions: none. WHAT COMES IN, OPENED: a law's argument that can be read as data, as the walks' own readings. No program is named. Conditions: none. SLICES OF STRUCTS, AND A STRUCT COPIED WHOLE INTO A NEW BLOCK. No program is named. Conditions: none. RECORDS: what a kind may have (only). Conditions: none. -/
import Derived.Test.YtdaigkcbmdcbcaaDoorRc1
import Derived.Test.YtdaigkcbmdcbcaaDoorRc2
import Derived.Test.YtdaigkcbmdcbcaaDoorRc3
import Derived.Test.YtdaigkcbmdcbcaaDoorRc4
import Derived.Deep.Slices
import Derived.Deep.MidRow
namespace Go.Proofs.YtdaigkcbmdcbcaaDoor.Blk
open Go.RowKit Go.Mir Go.Mir.Parts

theorem nodup_take_succ {l : List (List UInt8)} {k : Nat} (h : k < l.length) : (l.take (k + 1)).Nodup ↔ (l.take k).Nodup ∧ l[k] ∉ l.take k := by
  rw [take_snoc l k h, List.nodup_append]
  constructor
  · rintro ⟨h1, _, h3⟩
    exact ⟨h1, fun hm => h3 _ hm _ (List.mem_singleton.2 rfl) rfl⟩
  · rintro ⟨h1, h2⟩
    exact ⟨h1, by simp, fun a ha b hb e => h2 (by rw [List.mem_singleton] at hb; rw [← hb, ← e]; exact ha)⟩
theorem nodup_of_take {l : List (List UInt8)} (k : Nat) (h : l.Nodup) : (l.take k).Nodup := h.sublist (List.take_sublist k l)

set_option maxRecDepth 100000 in
set_option maxHeartbeats 400000 in
theorem rRight_any (M : Array Value) (d : BlkD) (q : Option Addr) (n c : Nat) (w : World) (hM : BlkAt w M d q n c) :
    Calls Tryd.prog 13 #[.agg M] w fun e w' => e = .returned (.bool (rightB d)) ∧ Below w.heap.size w w' := by
  have HM := Lib.hid hM
  have hcap := hM.ids.sl.le
  have hmax := hM.ids.sl.max
  have HC : Hid (d.txs.length = n) := hM.ids.count
  have hqp : Hid (∀ w, (Op.equalIn 10000 23 (.agg (idA d.hash)) (.agg (idA d.par))).run Tryd.prog w = .ok (d.hash == d.par) w) := fun w => eqI w _ _ hM.hlen hM.plen
  have HH : Hid (d.hash.length = 32 ∧ d.par.length = 32) := ⟨hM.hlen, hM.plen⟩
  have HR0 := Lib.hid (heap_alloc_last w (.cells M 26))
  have HB0 : Hid (Below w.heap.size w (w.alloc (.cells M 26))) := Below.allocs _ _
  clear hM
  go_enter Tryd.func13, Tryd.ntmps13
  go_wp2_with fail
  generalize w.alloc (.cells M 26) = w2 at *
  go_loopw [3] (fun j wr => ∃ k : Nat, k ≤ n ∧ j = .int .i64 k ∧ (d.txs.take k).Nodup ∧ wr.heap[w.heap.size]? = some (.cells M 26 (0, 0)) ∧ Below w.heap.size w wr) (fun j _ => n - (intOf j).toNat)
  case atStart => exact ⟨0, by omega, rfl, by simp, HR0.out, HB0.out⟩
  case round =>
    obtain ⟨i, hi, rfl, hnd, hrow, hbw⟩ := hrel
    have HND := Lib.hid hnd
    have HROW := Lib.hid hrow
    have HBW := Lib.hid hbw
    have hc64 := (HM.out.parts hrow).2.2
    have HPP := Lib.hid (HM.out.parts hrow)
    clear hnd hrow hbw
    by_cases hlt : i < n
    · have hd : decide ((i : Int) < (n : Int)) = true := decide_eq_true (by omega)
      go_wp2_with fail
      clear hc64 HPP
      go_loopw [4] (fun j wr => ∃ k : Nat, k ≤ i ∧ j = .int .i64 k ∧ (∀ y, d.txs[i]? = some y → y ∉ d.txs.take k) ∧ wr.heap[w.heap.size]? = some (.cells M 26 (0, 0)) ∧ Below w.heap.size w wr) (fun j _ => i - (intOf j).toNat)
      case atStart => exact ⟨0, by omega, rfl, by simp, HROW.out, HBW.out⟩
      case round =>
        obtain ⟨k, hk, rfl, hnot, hrow2, hbw2⟩ := hrel
        have HNOT := Lib.hid hnot
        have HROW2 := Lib.hid hrow2
        have HBW2 := Lib.hid hbw2
        have hc64 := (HM.out.parts hrow2).2.2
        clear hnot hrow2 hbw2
        have hli : i < d.txs.length := by rw [HC.out]; exact hlt
        by_cases hltk : k < i
        · obtain ⟨b, o, rfl⟩ := HM.out.ids.sl.addr (by omega) (by omega)
          have hlk : k < d.txs.length := by omega
          have HRI := Lib.hid (range_grown ((HM.out.ids.below HBW2.out).range (by omega) i hli))
          have HRK := Lib.hid (range_grown ((HM.out.ids.below HBW2.out).range (by omega) k hlk))
          have HLI : Hid ((d.txs[i]'hli).length = 32) := HM.out.ids.each _ (List.getElem_mem _)
          have HLK : Hid ((d.txs[k]'hlk).length = 32) := HM.out.ids.each _ (List.getElem_mem _)
          have HGI : Hid (d.txs[i]? = some (d.txs[i]'hli)) := List.getElem?_eq_getElem hli
          have HNK := Lib.hid (HNOT.out _ HGI.out)
          have HTK := Lib.hid (take_snoc d.txs k hlk)
          have HDUP : Hid ((d.txs[k]'hlk) = (d.txs[i]'hli) → ¬ d.txs.Nodup) := fun h hn => by
            refine ((nodup_take_succ hli).1 (nodup_of_take _ hn)).2 ?_
            rw [← h]
            exact List.mem_iff_getElem?.2 ⟨k, by rw [List.getElem?_take, if_pos hltk, List.getElem?_eq_getElem hlk]⟩
          generalize d.txs[i]'hli = y at *
          generalize d.txs[k]'hlk = z at *
          have HYS : Hid ((idA y).size = 32) := by show _ = _; rw [idA_size, HLI.out]
          have HZS : Hid ((idA z).size = 32) := by show _ = _; rw [idA_size, HLK.out]
          have hd2 : decide ((k : Int) < (i : Int)) = true := decide_eq_true (by omega)
          have hk0 : (0 : Int) ≤ (k : Int) := by omega
          have hi0 : (0 : Int) ≤ (i : Int) := by omega
          have hkn : (k : Int) < (n : Int) := by omega
          have hin : (i : Int) < (n : Int) := by omega
          have hq : ∀ w, (Op.equalIn 10000 23 (.agg (idA z)) (.agg (idA y))).run Tryd.prog w = .ok (z == y) w := fun w => eqI w z y HLK.out HLI.out
          have hg64 := cell_grown hc64
          by_cases hzy : z = y
          · have hb : (z == y) = true := by rw [beq_iff_eq]; exact hzy
            have HRES : Hid (rightB d = false) := by
              show _ = _; unfold rightB; rw [decide_eq_false (HDUP.out hzy)]; simp
            clear hzy
            go_wp2_with fail
            refine wp_region_grow (by kernel_rfl) (by kernel_rfl) ?_
            repeat (first
              | refine wpQuiet_load rfl 23 _ rfl b (o + k * 32) rfl (idA z) _ HRK.out Tryd.underlying23 rfl (infoI _ HZS.out) ?_
              | refine wpQuiet_load rfl 23 _ rfl b (o + i * 32) rfl (idA y) _ HRI.out Tryd.underlying23 rfl (infoI _ HYS.out) ?_
              | quiet_step (fail))
            refine wpQuiet_nil ?_
            intro w4 hb4
            have HB4 := Lib.hid (HBW2.out.trans (hb4.mono HBW2.out.size))
            clear hb4 hq hg64 hc64
            go_wp2_with fail
            go_ret
            exact ⟨bret HRES.out.symm, HB4.out⟩
          · have hb : (z == y) = false := by rw [beq_eq_false_iff_ne]; exact hzy
            have HNE := Lib.hid hzy
            clear hzy
            go_wp2_with fail
            refine wp_region_grow (by kernel_rfl) (by kernel_rfl) ?_
            repeat (first
              | refine wpQuiet_load rfl 23 _ rfl b (o + k * 32) rfl (idA z) _ HRK.out Tryd.underlying23 rfl (infoI _ HZS.out) ?_
              | refine wpQuiet_load rfl 23 _ rfl b (o + i * 32) rfl (idA y) _ HRI.out Tryd.underlying23 rfl (infoI _ HYS.out) ?_
              | quiet_step (fail))
            refine wpQuiet_nil ?_
            intro w4 hb4
            have HB4 := Lib.hid (HBW2.out.trans (hb4.mono HBW2.out.size))
            have HR4 := Lib.hid (Below.keepOld hb4 HROW2.out)
            clear hb4 hq hg64 hc64
            go_wp2_with fail
            go_roundw
            case rel =>
              refine ⟨k + 1, by omega, by go_num, fun u hu hm => ?_, HR4.out, HB4.out⟩
              rw [HGI.out] at hu
              cases hu
              rw [HTK.out, List.mem_append, List.mem_singleton] at hm
              rcases hm with hm | hm
              · exact HNK.out hm
              · exact HNE.out hm.symm
            case measure => simp [intOf]; omega
        · have hd2 : decide ((k : Int) < (i : Int)) = false := decide_eq_false (by omega)
          have hki : k = i := by omega
          have HND2 : Hid ((d.txs.take (i + 1)).Nodup) := (nodup_take_succ hli).2 ⟨HND.out, by have := HNOT.out _ (List.getElem?_eq_getElem hli); rwa [hki] at this⟩
          clear hki
          go_wp2_with fail
          go_roundw
          case rel => exact ⟨i + 1, by omega, by go_num, HND2.out, HROW2.out, HBW2.out⟩
          case measure => simp [intOf]; omega
    · have hd : decide ((i : Int) < (n : Int)) = false := decide_eq_false (by omega)
      have HALL : Hid (d.txs.Nodup) := by
        have h1 := HND.out
        rwa [List.take_of_length_le (by rw [HC.out]; omega)] at h1
      have hq := hqp.out
      by_cases h32 : n ≤ 32
      · have hd0 : decide ((n : Int) ≤ 32) = true := decide_eq_true (by omega)
        have HRES : Hid (rightB d = !(d.hash == d.par)) := by
          show _ = _; unfold rightB; rw [HC.out, decide_eq_true h32, decide_eq_true HALL.out]; simp
        go_wp2_with (first
          | ((with_reducible refine wpAt 34 ?_); refine wpList_unguard rfl (wpList_load_mid rfl 23 _ rfl w.heap.size 0 rfl (idA d.hash).toList _ HPP.out.1 Tryd.underlying23 rfl (infoI _ (by rw [Array.length_toList, idA_size, HH.out.1])) ?_))
          | ((with_reducible refine wpAt 36 ?_); refine wpList_unguard rfl (wpList_load_mid rfl 23 _ rfl w.heap.size 32 rfl (idA d.par).toList _ HPP.out.2.1 Tryd.underlying23 rfl (infoI _ (by rw [Array.length_toList, idA_size, HH.out.2])) ?_)))
        go_ret
        exact ⟨bret HRES.out.symm, HBW.out⟩
      · have hd0 : decide ((n : Int) ≤ 32) = false := decide_eq_false (by omega)
        have HRES : Hid (rightB d = false) := by
          show _ = _; unfold rightB; rw [HC.out, decide_eq_false h32]; simp
        go_wp2_with fail
        go_ret
        exact ⟨bret HRES.out.symm, HBW.out⟩
end Go.Proofs.YtdaigkcbmdcbcaaDoor.Blk

namespace Go.Proofs.YtdaigkcbmdcbcaaDoor.Blk
open Go.RowKit Go.Mir Go.Mir.Parts Wr Cod

theorem _root_.Go.Mir.BlkAt.wf {w : World} {M : Array Value} {d : BlkD} {q : Option Addr} {n c : Nat} (h : BlkAt w M d q n c) : d.wf := ⟨h.hlen, h.plen, h.ids.each⟩
def EncP (d : BlkD) (w : World) (e : Ending) (w' : World) : Prop :=
  ∃ p c, e = .returned (.tuple #[.slice p d.enc.1.length c, .int .i64 d.enc.2]) ∧ w'.ownsRow w.heap.size 5 1 (.slice p d.enc.1.length c) d.enc.1.length (bytesV d.enc.1) ∧ Bs w' p d.enc.1.length c d.enc.1 ∧ Below w.heap.size w w'
set_option maxRecDepth 100000 in
theorem encode_any (M : Array Value) (d : BlkD) (q : Option Addr) (n c : Nat) (w : World) (hM : BlkAt w M d q n c) :
    Calls Tryd.prog 10 #[.agg M] w (EncP d w) := by
  by_cases hr : rightB d = true
  · have he : d.enc = (encL d, 0) := by unfold BlkD.enc; rw [if_pos hr]
    refine (encode_ok M d q n c w hM (by rw [← hM.ids.count]; exact right_le hr) (fun w' hw' => by
      have := right_any M d q n c w' hw'
      rwa [hr] at this)).mono ?_
    rintro e w' ⟨⟨p, m, cc, rfl, ho⟩, hb⟩
    obtain ⟨p', c', hv, hs⟩ := own_sl ho
    cases hv
    obtain rfl := Bs.length hs
    unfold EncP
    rw [he]
    exact ⟨p, cc, rfl, ho, hs, hb⟩
  · have hf : rightB d = false := by cases h : rightB d; rfl; exact absurd h hr
    have he : d.enc = ([], 1) := by unfold BlkD.enc; rw [if_neg hr]
    have HEE : Hid (∀ w', Below w.heap.size w w' → EncP d w (.returned (.tuple #[.slice none 0 0, .int .i64 1])) w') := fun w' hb => by
      unfold EncP
      rw [he]
      exact ⟨none, 0, rfl, ⟨rfl, .inl ⟨rfl, rfl⟩⟩, Sl.nil _ _, hb⟩
    have HMS := Lib.hid hM.size
    have H0 : Hid ((w.alloc (.cells M 26)).heap[w.heap.size]? = some (.cells M 26 (0, 0))) := heap_alloc_last _ _
    have HB0 := Lib.hid (Below.allocs w (.cells M 26))
    have HR := Lib.hid (right_any M d q n c _ (hM.below HB0.out))
    rw [hf] at HR
    clear hM hr hf he
    go_enter Tryd.func10, Tryd.ntmps10
    go_wp2_with ((with_reducible refine wpAt 5 ?_); refine wpList_load_row rfl 26 _ rfl w.heap.size rfl 26 M (0, 0) _ H0.out Tryd.underlying26 rfl (infoBlk _ HMS.out) ?_)
    generalize w.alloc (.cells M 26) = w0 at *
    refine HR.out.mono ?_
    rintro e w1 ⟨rfl, hb1⟩
    have HB1 := Lib.hid (HB0.out.trans (hb1.mono HB0.out.size))
    clear hb1
    go_wp2_with fail
    go_ret2
    exact HEE.out _ HB1.out
end Go.Proofs.YtdaigkcbmdcbcaaDoor.Blk

namespace Go.Proofs.YtdaigkcbmdcbcaaDoor.Blk
open Go.RowKit Go.Mir Go.Mir.Parts Wr Cod Rdr

theorem buildB64v (a0 a1 a2 a3 a4 a5 a6 a7 a8 a9 a10 a11 a12 a13 a14 a15 a16 a17 a18 a19 a20 a21 a22 a23 a24 a25 a26 a27 a28 a29 a30 a31 b0 b1 b2 b3 b4 b5 b6 b7 b8 b9 b10 b11 b12 b13 b14 b15 b16 b17 b18 b19 b20 b21 b22 b23 b24 b25 b26 b27 b28 b29 b30 b31 : Value) : Tryd.prog.built 26 [(0, .agg #[a0, a1, a2, a3, a4, a5, a6, a7, a8, a9, a10, a11, a12, a13, a14, a15, a16, a17, a18, a19, a20, a21, a22, a23, a24, a25, a26, a27, a28, a29, a30, a31]), (1, .agg #[b0, b1, b2, b3, b4, b5, b6, b7, b8, b9, b10, b11, b12, b13, b14, b15, b16, b17, b18, b19, b20, b21, b22, b23, b24, b25, b26, b27, b28, b29, b30, b31])] = some #[a0, a1, a2, a3, a4, a5, a6, a7, a8, a9, a10, a11, a12, a13, a14, a15, a16, a17, a18, a19, a20, a21, a22, a23, a24, a25, a26, a27, a28, a29, a30, a31, b0, b1, b2, b3, b4, b5, b6, b7, b8, b9, b10, b11, b12, b13, b14, b15, b16, b17, b18, b19, b20, b21, b22, b23, b24, b25, b26, b27, b28, b29, b30, b31, Value.slice none 0 0] := by kernel_rfl
theorem buildB64 (a b : List Value) (ha : a.length = 32) (hb : b.length = 32) : Tryd.prog.built 26 [(0, .agg a.toArray), (1, .agg b.toArray)] = some (a ++ b ++ [Value.slice none 0 0]).toArray :=
  match a, ha, b, hb with
  | [a0, a1, a2, a3, a4, a5, a6, a7, a8, a9, a10, a11, a12, a13, a14, a15, a16, a17, a18, a19, a20, a21, a22, a23, a24, a25, a26, a27, a28, a29, a30, a31], _, [b0, b1, b2, b3, b4, b5, b6, b7, b8, b9, b10, b11, b12, b13, b14, b15, b16, b17, b18, b19, b20, b21, b22, b23, b24, b25, b26, b27, b28, b29, b30, b31], _ => buildB64v a0 a1 a2 a3 a4 a5 a6 a7 a8 a9 a10 a11 a12 a13 a14 a15 a16 a17 a18 a19 a20 a21 a22 a23 a24 a25 a26 a27 a28 a29 a30 a31 b0 b1 b2 b3 b4 b5 b6 b7 b8 b9 b10 b11 b12 b13 b14 b15 b16 b17 b18 b19 b20 b21 b22 b23 b24 b25 b26 b27 b28 b29 b30 b31
theorem build_blk (h p : List UInt8) (hh : h.length = 32) (hp : p.length = 32) : Tryd.prog.built 26 [(0, .agg (idA h)), (1, .agg (idA p))] = some (blkA h p none 0 0) := by
  have := buildB64 (bytesV h) (bytesV p) (by rw [bytesV_length, hh]) (by rw [bytesV_length, hp])
  exact this
theorem build_b0 : Tryd.prog.built 26 [] = some (blkA zeros zeros none 0 0) := by kernel_rfl
theorem zeroB (w : World) : (zeroValue 26).run Tryd.prog w = .ok (.agg (blkA zeros zeros none 0 0)) w := by kernel_rfl
theorem blk_one (h p : List UInt8) (q : Option Addr) (n c : Nat) : (blkA h p q n c).all (·.oneCell') = true := by
  have := all_oneCell_toArray (cs := (blkA h p q n c).toList) (fun v hv => by
    rw [blkA_toList] at hv
    simp only [List.mem_append, List.mem_singleton] at hv
    rcases hv with (hv | hv) | hv
    · exact bytesV_one _ v hv
    · exact bytesV_one _ v hv
    · rw [hv]; rfl)
  rwa [Array.toArray_toList] at this
theorem blk_size {h p : List UInt8} (hh : h.length = 32) (hp : p.length = 32) (q : Option Addr) (n c : Nat) : (blkA h p q n c).size = 65 := by
  rw [← Array.length_toList, blkA_toList]; simp [bytesV_length, hh, hp]
/-! ### in memory -/
structure DWB (w : World) (base rb bb : Nat) (s : RD) (h p : List UInt8) (q : Option Addr) (n c : Nat) (x : World) : Prop where
  rd : RAt x base rb s
  r0 : x.heap[w.heap.size]? = some (.cells (blkA zeros zeros none 0 0) 26 (0, 0))
  r1 : x.heap[bb]? = some (.cells (blkA h p q n c) 26 (0, 0))
  low : Below w.heap.size w x
  ne : bb ≠ rb ∧ w.heap.size < rb ∧ w.heap.size < bb
  len : h.length = 32 ∧ p.length = 32
theorem DWB.left {w x y : World} {base rb bb : Nat} {s s' : RD} {h p : List UInt8} {q : Option Addr} {n c : Nat} (H : DWB w base rb bb s h p q n c x) (hl : LeftR base rb s' x y) : DWB w base rb bb s' h p q n c y :=
  ⟨hl.there, hl.turn.keep H.r0 (by have := H.ne; omega), hl.turn.keep H.r1 (by have := H.ne; omega), H.low.trans (hl.turn.below H.low.size (fun i hi => by have := H.ne; omega)), H.ne, H.len⟩
theorem DWB.below {w x y : World} {base rb bb : Nat} {s : RD} {h p : List UInt8} {q : Option Addr} {n c : Nat} (H : DWB w base rb bb s h p q n c x) (hb : Below x.heap.size x y) : DWB w base rb bb s h p q n c y :=
  ⟨H.rd.below hb, Below.keepOld hb H.r0, Below.keepOld hb H.r1, H.low.trans (hb.mono H.low.size), H.ne, H.len⟩
theorem DWB.kind {w x : World} {base rb bb : Nat} {s : RD} {h p : List UInt8} {q : Option Addr} {n c : Nat} (H : DWB w base rb bb s h p q n c x) : ∀ k M t fr, x.heap[k]? = some (.cells M t fr) → (t = 5 ∨ t = 94 ∨ t = 85) → ¬ k = bb := fun k M t fr hk h2 h3 => by
  subst h3
  rw [H.r1] at hk
  injection hk with e1
  injection e1 with _ e2
  subst e2
  revert h2
  decide
theorem DWB.set {w x : World} {base rb bb : Nat} {s : RD} {h p : List UInt8} {q : Option Addr} {n c : Nat} (H : DWB w base rb bb s h p q n c x) (q' : Option Addr) (n' c' : Nat) :
    DWB w base rb bb s h p q' n' c' (x.setCell ⟨bb, 64, none⟩ (.slice q' n' c')) :=
  ⟨H.rd.touch ((Turns.refl (fun k => k = bb) x).setCell (p := ⟨bb, 64, none⟩) (fun _ => rfl) _) H.kind, by rw [heap_setCell_other _ _ _ _ (by have := H.ne; simp; omega)]; exact H.r0, by rw [heap_setCell_same _ _ _ _ _ _ H.r1, blkA_set _ _ H.len.1 H.len.2], H.low.setCell (by have := H.ne; show w.heap.size ≤ bb; omega) _, H.ne, H.len⟩
def DecP (d : BlkD) (ev : Int) (w : World) (e : Ending) (w' : World) : Prop :=
  ∃ M q n c, e = .returned (.tuple #[.agg M, .int .i64 ev]) ∧ BlkAt w' M d q n c ∧ Below w.heap.size w w'
/-- the same, with where its ids lie -/
def DecO (d : BlkD) (ev : Int) (w : World) (e : Ending) (w' : World) : Prop :=
  ∃ M q n c, e = .returned (.tuple #[.agg M, .int .i64 ev]) ∧ BlkAt w' M d q n c ∧ (∀ a, q = some a → w.heap.size ≤ a.block) ∧ Below w.heap.size w w'
theorem results_cell_tmp2 {P : Program} {fn : Func} {p q : Tmp} {ty : TypeId} (h : fn.results = #[.cell p ty, .tmp q]) (tmps : Array Value) (w : World) (g : Nat) (t : TypeId) (cs : Array Value) (fr : Nat × Nat) (d : TypeDesc)
    (hp : tmps.getD p undef = .pointer (some ⟨g, 0, none⟩)) (hg : w.heap[g]? = some (.cells cs t fr))
    (hu : P.underlying ty = some d) (hd : (match d with | .struct _ | .array _ _ => true | _ => false) = true) (hi : (P.info? ty).map (·.size) = some cs.size) :
    (results fn tmps).run P w = .ok (.tuple #[.agg cs, tmps.getD q undef]) w := by
  have hp' : tmps[p]?.getD undef = .pointer (some ⟨g, 0, none⟩) := by simpa using hp
  simp [results, h, hp', asAddr, run_loadVar_row w g t ty cs fr d hg hu hd hi]
set_option maxRecDepth 100000 in
set_option maxHeartbeats 3200000 in
theorem decode_own (p0 : Option Addr) (n0 c0 : Nat) (l : List UInt8) (w : World) (hE : EType w) (hB : Bs w p0 n0 c0 l) (hn : n0 ≤ 1099511627776) :
    Calls Tryd.prog 14 #[.slice p0 n0 c0] w (DecO (decB l).1 (decB l).2 w) := by
  rw [← dQ_dec]
  have hz := zeroB
  have HE := Lib.hid hE
  have hle := hB.le
  have hmax := hB.max
  have HZB : Hid (Below w.heap.size w (w.alloc (.cells (blkA zeros zeros none 0 0) 26))) := Below.allocs _ _
  have HZR : Hid ((w.alloc (.cells (blkA zeros zeros none 0 0) 26)).heap[w.heap.size]? = some (.cells (blkA zeros zeros none 0 0) 26 (0, 0))) := heap_alloc_last _ _
  have HZS : Hid ((w.alloc (.cells (blkA zeros zeros none 0 0) 26)).heap.size = w.heap.size + 1) := by show _ = _; simp
  have HBS := Lib.hid hB
  clear hB hE
  have HI1 : Hid (∀ (w : World) (base rb : Nat), RAt w base rb (RD.new l) → Calls Tryd.prog 36 #[.pointer (some ⟨rb, 0, none⟩)] w (IdP base rb (RD.new l) 32 w)) := fun w base rb h => Rdr.id_any w h
  have HI2 : Hid (∀ (w : World) (base rb : Nat), RAt w base rb (s1P l) → Calls Tryd.prog 36 #[.pointer (some ⟨rb, 0, none⟩)] w (IdP base rb (s1P l) 32 w)) := fun w base rb h => Rdr.id_any w h
  have HCN : Hid (∀ (w : World) (base rb : Nat), RAt w base rb (s2P l) → Calls Tryd.prog 38 #[.pointer (some ⟨rb, 0, none⟩), .int .i64 1, .int .i64 32] w (CountP base rb (s2P l) 1 32 w)) := fun w base rb h => Rdr.count_any w h 1 (by omega) 32 (by omega)
  have hnb : -9223372036854775808 ≤ nP l ∧ nP l ≤ 9223372036854775807 := by
    have h1 := numV_pow (s2P l) 1 (by omega)
    have h9 : (s2P l).numV 1 < 256 := by simpa using h1
    unfold nP RD.cntV
    split <;> omega
  have HID : Hid (∀ (w : World) (base rb : Nat), RAt w base rb (s3P l) → Calls Tryd.prog 37 #[.pointer (some ⟨rb, 0, none⟩), .int .i64 (nP l)] w (Rdr.IdsP base rb (s3P l) (nP l) w)) := fun w base rb h => Rdr.ids_any w h _ hnb
  have HHL : Hid (((RD.new l).idV 32).length = 32 ∧ ((s1P l).idV 32).length = 32) := ⟨idV_len _ _, idV_len _ _⟩
  have HDD : Hid (blkP l = ⟨(RD.new l).idV 32, (s1P l).idV 32, chunks (idsP l) ((idsP l).length / 32)⟩) := rfl
  have hQ0 : (s4P l).done ≠ 0 → dQ l = (.zero, (s4P l).done) := fun h => by unfold dQ; rw [if_pos h]
  have hQ1 : (s4P l).done = 0 → rightB (blkP l) = true → dQ l = (blkP l, 0) := fun h h' => by unfold dQ; rw [if_neg (by simp [h]), if_pos h']
  have hQ2 : (s4P l).done = 0 → ¬ rightB (blkP l) = true → dQ l = (.zero, 4) := fun h h' => by unfold dQ; rw [if_neg (by simp [h]), if_neg h']
  unfold IdP at HI1 HI2
  unfold CountP at HCN
  unfold Rdr.IdsP at HID
  have HDN : Hid ((s4P l).done = (s4P l).done) := rfl
  have e2 : (RD.new l).takeS 32 true = s1P l := rfl
  have e3 : (s1P l).takeS 32 true = s2P l := rfl
  have e4 : (s2P l).cntS 1 32 = s3P l := rfl
  have e5 : (s3P l).takeS (32 * nP l) true = s4P l := rfl
  have e6 : (s3P l).takeB (32 * nP l) true = idsP l := rfl
  have e7 : (s2P l).cntV 1 32 = nP l := rfl
  simp only [show (((32 : Nat) : Int)) = 32 from rfl] at HI1 HI2
  rw [e2] at HI1
  rw [e3] at HI2
  rw [e4, e7] at HCN
  rw [e5, e6] at HID
  clear e2 e3 e4 e5 e6 e7 hnb
  have HQ0 := Lib.hid hQ0
  have HQ1 := Lib.hid hQ1
  have HQ2 := Lib.hid hQ2
  clear hQ0 hQ1 hQ2
  generalize (RD.new l).idV 32 = h1 at *
  generalize (s1P l).idV 32 = h2 at *
  generalize blkP l = D at *
  generalize idsP l = B at *
  generalize nP l = nn at *
  generalize s4P l = s4 at *
  generalize s3P l = s3 at *
  generalize s2P l = s2 at *
  generalize s1P l = s1 at *
  generalize dQ l = Q at *
  obtain ⟨ev, hev⟩ : ∃ ev, s4.done = ev := ⟨_, rfl⟩
  clear HDN
  have HDN := Lib.hid hev
  rw [hev] at HQ0 HQ1 HQ2
  clear hev
  have HZW : Hid (∀ w', BlkAt w' (blkA zeros zeros none 0 0) BlkD.zero none 0 0) := fun w' => ⟨rfl, rfl, rfl, Is.nil _ _⟩
  by_cases h0 : ev = 0
  · have z1 : (ev == 0) = true := by rw [beq_iff_eq]; exact h0
    have z2 : (ev != 0) = false := by simp [h0]
    by_cases hr : rightB D = true
    · have hq := HQ1.out h0 hr
      have HRT := Lib.hid hr
      clear h0 hr HQ0 HQ1 HQ2
      subst hq
      go_enter Tryd.func14, Tryd.ntmps14
      go_upto_region 1 with fail
      generalize w.alloc (.cells (blkA zeros zeros none 0 0) 26) = w1 at *
      go_wp2_with fail
      refine (Rdr.new_any w1 _ _ _ l (HBS.out.below HZB.out) (by omega)).mono ?_
      rintro e w2 ⟨rb, rfl, hr2, hb2⟩
      have HR2 := Lib.hid hr2
      have HB2 := Lib.hid hb2
      clear hr2 hb2
      go_wp2_with fail
      refine (HI1.out _ _ _ HR2.out).mono ?_
      rintro e w3 ⟨rfl, hl3⟩
      have HL3 := Lib.hid hl3
      clear hl3
      go_wp2_with fail
      refine (HI2.out _ _ _ HL3.out.there).mono ?_
      rintro e w4 ⟨rfl, hl4⟩
      have HL4 := Lib.hid hl4
      clear hl4
      go_upto_region 3 with (first
        | ((with_reducible refine wpAt 13 ?_); refine Rdr.wpList_build rfl 26 _ rfl [(0, .agg (idA h1)), (1, .agg (idA h2))] rfl _ (build_blk _ _ HHL.out.1 HHL.out.2) ?_)
        | ((with_reducible refine wpStoreAt 5 ?_); refine wpList_store_row rfl 26 _ _ rfl w4.heap.size (blkA h1 h2 none 0 0) rfl rfl 26 (blkA zeros zeros none 0 0) (heap_alloc_last _ _) (infoBlk _ (blk_size HHL.out.1 HHL.out.2 _ _ _)) (by rw [blk_size HHL.out.1 HHL.out.2]; rfl) (blk_one _ _ _ _ _) ?_))
      simp only [Act.put]
      have hdw : DWB w w1.heap.size rb w4.heap.size s2 h1 h2 none 0 0 ((w4.alloc (.cells (blkA zeros zeros none 0 0) 26)).setRow w4.heap.size (blkA h1 h2 none 0 0)) := by
        have hb4 : Below w4.heap.size w4 ((w4.alloc (.cells (blkA zeros zeros none 0 0) 26)).setRow w4.heap.size (blkA h1 h2 none 0 0)) := below_setRow (Below.allocs _ _) (Nat.le_refl _) _
        have hs1 := HZS.out
        have hs2 := HB2.out.size
        have hs3 := HL3.out.turn.size
        have hs4 := HL4.out.turn.size
        obtain ⟨v, bv, hr⟩ := HR2.out
        have hlow := hr.low
        have hlt := hr.lt
        have hb13 : Below w1.heap.size w1 w3 := HB2.out.trans (HL3.out.turn.below hs2 (fun i hi => by omega))
        have hb14 : Below w1.heap.size w1 w4 := hb13.trans (HL4.out.turn.below (by omega) (fun i hi => by omega))
        have hb15 : Below w1.heap.size w1 _ := hb14.trans (hb4.mono hb14.size)
        exact ⟨HL4.out.there.below hb4, Below.keepOld hb15 HZR.out, setRow_heap _ _ _ _ _ _ (heap_alloc_last _ _), HZB.out.trans (hb15.mono (by omega)), ⟨by omega, by omega, by omega⟩, HHL.out⟩
      generalize (w4.alloc (.cells (blkA zeros zeros none 0 0) 26)).setRow w4.heap.size (blkA h1 h2 none 0 0) = w5 at *
      generalize w4.heap.size = bb at *
      have HDW := Lib.hid hdw
      clear hdw HL3 HL4 HR2 HB2
      go_wp2_with fail
      refine (HCN.out _ _ _ HDW.out.rd).mono ?_
      rintro e w6 ⟨rfl, hl6⟩
      have hdw := HDW.out.left hl6
      clear HDW hl6
      have HDW := Lib.hid hdw
      clear hdw
      go_wp2_with fail
      refine (HID.out _ _ _ HDW.out.rd).mono ?_
      rintro e w7 ⟨qi, ki, ci, hki, rfl, ho7, hl7⟩
      have hdw := HDW.out.left hl7
      have HSZ : Hid (w.heap.size ≤ w6.heap.size) := HDW.out.low.size
      have HSM : Hid (bb < w6.heap.size) := (Array.getElem?_eq_some_iff.1 HDW.out.r1).1
      have c64 : w7.cell? ⟨bb, 64, none⟩ = some (.slice none 0 0) := by
        have := range_row hdw.r1 (bytesV h1 ++ bytesV h2) [Value.slice none 0 0] [] (by rw [blkA_toList]; simp)
        rw [List.length_append, bytesV_length, bytesV_length, hdw.len.1, hdw.len.2] at this
        exact this 0 _ rfl
      have f64 := frozen_of_row _ _ 64 _ _ hdw.r1
      have hdw2 := hdw.set qi ki ci
      have HOW : Hid ((w7.setCell ⟨bb, 64, none⟩ (.slice qi ki ci)).ownsRow w6.heap.size 23 32 (.slice qi ki ci) ki (bytesV B)) :=
        own_touch ho7 ((Turns.refl (fun k => k = bb) w7).setCell (p := ⟨bb, 64, none⟩) (fun _ => rfl) _) (fun k hk e => by have := (ho7.lt k hk).1; have := HSM.out; omega)
      have HKI := Lib.hid hki
      clear HDW hl7 hdw ho7 hki
      have HDW := Lib.hid hdw2
      clear hdw2
      go_upto_region 4 with fail
      generalize w7.setCell ⟨bb, 64, none⟩ (.slice qi ki ci) = w8 at *
      clear c64 f64
      have HBK : Hid (BlkAt w8 (blkA h1 h2 qi ki ci) D qi ki ci) := by
        have h9 := is_chunks HOW.out HKI.out
        have h8 := HDD.out
        have hk9 : B.length / 32 = ki := by rw [HKI.out]; omega
        rw [hk9] at h8
        rw [h8]
        exact ⟨rfl, HHL.out.1, HHL.out.2, h9⟩
      have HE9 := Lib.hid (HE.out.below HDW.out.low HE.out.lt)
      go_wp2_with fail
      refine (Rdr.done_any _ HDW.out.rd HE9.out).mono ?_
      rintro e x9 ⟨rfl, hb9⟩
      rw [HDN.out]
      have hdw9 := HDW.out.below hb9
      have hbk9 := HBK.out.below hb9
      have how9 := own_touch HOW.out (Turns.of_below (S := fun _ => False) hb9) (fun _ _ h => h)
      clear hb9 HDW HE9 HBK HOW
      have HDW := Lib.hid hdw9
      have HBK := Lib.hid hbk9
      have HOW := Lib.hid how9
      clear hdw9 hbk9 how9
      go_wp2_with ((with_reducible refine wpAt 24 ?_); refine wpList_unguard (by rfl) ?_; refine wpList_load_row rfl 26 _ rfl bb rfl 26 (blkA h1 h2 qi ki ci) (0, 0) _ HDW.out.r1 Tryd.underlying26 rfl (infoBlk _ (blk_size HHL.out.1 HHL.out.2 _ _ _)) ?_)
      refine (right_any _ D qi ki ci _ HBK.out).mono ?_
      rintro e x10 ⟨rfl, hb10⟩
      rw [HRT.out]
      have hdw10 := HDW.out.below hb10
      have hbk10 := HBK.out.below hb10
      have how10 := own_touch HOW.out (Turns.of_below (S := fun _ => False) hb10) (fun _ _ h => h)
      clear hb10 HDW HBK HOW
      have HDW := Lib.hid hdw10
      have HBK := Lib.hid hbk10
      have HOW := Lib.hid how10
      clear hdw10 hbk10 how10
      have HSZ2 := HSZ.out
      have HSM2 := HSM.out
      go_wp2_with (first
        | refine wpList_load_row rfl 26 _ rfl bb rfl 26 (blkA h1 h2 qi ki ci) (0, 0) _ HDW.out.r1 Tryd.underlying26 rfl (infoBlk _ (blk_size HHL.out.1 HHL.out.2 _ _ _)) ?_
        | refine wpList_store_row rfl 26 _ _ rfl w.heap.size (blkA h1 h2 qi ki ci) rfl rfl 26 (blkA zeros zeros none 0 0) HDW.out.r0 (infoBlk _ (blk_size HHL.out.1 HHL.out.2 _ _ _)) (by rw [blk_size HHL.out.1 HHL.out.2]; rfl) (blk_one _ _ _ _ _) ?_)
      have HS := Lib.hid (setRow_heap _ _ _ (blkA h1 h2 qi ki ci) _ _ HDW.out.r0)
      refine bodyPost_ret (results_cell_tmp2 rfl _ _ _ _ _ _ _ rfl HS.out Tryd.underlying26 rfl (infoBlk _ (blk_size HHL.out.1 HHL.out.2 _ _ _))) rfl ?_
      refine ⟨blkA h1 h2 qi ki ci, qi, ki, ci, rfl, ?_, fun a ha => (by subst ha; have := (HOW.out.lt a.block (by simp [Value.ownBlock])).1; have h4 := HSZ.out; omega), below_setRow HDW.out.low (Nat.le_refl _) _⟩
      have how := own_touch HOW.out (turns_setRow _ w.heap.size (blkA h1 h2 qi ki ci)) (fun k hk e => by have := (HOW.out.lt k hk).1; have := HDW.out.ne.2.2; omega)
      have h9 := is_chunks how HKI.out
      have h8 := HDD.out
      have hk9 : B.length / 32 = ki := by rw [HKI.out]; omega
      rw [hk9] at h8
      rw [h8]
      exact ⟨rfl, HHL.out.1, HHL.out.2, h9⟩
    · have hq := HQ2.out h0 hr
      have HRT : Hid (rightB D = false) := by cases h : rightB D; rfl; exact absurd h hr
      clear h0 hr HQ0 HQ1 HQ2
      subst hq
      have HBAD : Hid (∀ w', Below w.heap.size w w' → DecO BlkD.zero 4 w (.returned (.tuple #[.agg (blkA zeros zeros none 0 0), .int .i64 4])) w') := fun w' hb => ⟨_, _, _, _, rfl, HZW.out _, fun a h => (nomatch h), hb⟩
      go_enter Tryd.func14, Tryd.ntmps14
      go_upto_region 1 with fail
      generalize w.alloc (.cells (blkA zeros zeros none 0 0) 26) = w1 at *
      go_wp2_with fail
      refine (Rdr.new_any w1 _ _ _ l (HBS.out.below HZB.out) (by omega)).mono ?_
      rintro e w2 ⟨rb, rfl, hr2, hb2⟩
      have HR2 := Lib.hid hr2
      have HB2 := Lib.hid hb2
      clear hr2 hb2
      go_wp2_with fail
      refine (HI1.out _ _ _ HR2.out).mono ?_
      rintro e w3 ⟨rfl, hl3⟩
      have HL3 := Lib.hid hl3
      clear hl3
      go_wp2_with fail
      refine (HI2.out _ _ _ HL3.out.there).mono ?_
      rintro e w4 ⟨rfl, hl4⟩
      have HL4 := Lib.hid hl4
      clear hl4
      go_upto_region 3 with (first
        | ((with_reducible refine wpAt 13 ?_); refine Rdr.wpList_build rfl 26 _ rfl [(0, .agg (idA h1)), (1, .agg (idA h2))] rfl _ (build_blk _ _ HHL.out.1 HHL.out.2) ?_)
        | ((with_reducible refine wpStoreAt 5 ?_); refine wpList_store_row rfl 26 _ _ rfl w4.heap.size (blkA h1 h2 none 0 0) rfl rfl 26 (blkA zeros zeros none 0 0) (heap_alloc_last _ _) (infoBlk _ (blk_size HHL.out.1 HHL.out.2 _ _ _)) (by rw [blk_size HHL.out.1 HHL.out.2]; rfl) (blk_one _ _ _ _ _) ?_))
      simp only [Act.put]
      have hdw : DWB w w1.heap.size rb w4.heap.size s2 h1 h2 none 0 0 ((w4.alloc (.cells (blkA zeros zeros none 0 0) 26)).setRow w4.heap.size (blkA h1 h2 none 0 0)) := by
        have hb4 : Below w4.heap.size w4 ((w4.alloc (.cells (blkA zeros zeros none 0 0) 26)).setRow w4.heap.size (blkA h1 h2 none 0 0)) := below_setRow (Below.allocs _ _) (Nat.le_refl _) _
        have hs1 := HZS.out
        have hs2 := HB2.out.size
        have hs3 := HL3.out.turn.size
        have hs4 := HL4.out.turn.size
        obtain ⟨v, bv, hr⟩ := HR2.out
        have hlow := hr.low
        have hlt := hr.lt
        have hb13 : Below w1.heap.size w1 w3 := HB2.out.trans (HL3.out.turn.below hs2 (fun i hi => by omega))
        have hb14 : Below w1.heap.size w1 w4 := hb13.trans (HL4.out.turn.below (by omega) (fun i hi => by omega))
        have hb15 : Below w1.heap.size w1 _ := hb14.trans (hb4.mono hb14.size)
        exact ⟨HL4.out.there.below hb4, Below.keepOld hb15 HZR.out, setRow_heap _ _ _ _ _ _ (heap_alloc_last _ _), HZB.out.trans (hb15.mono (by omega)), ⟨by omega, by omega, by omega⟩, HHL.out⟩
      generalize (w4.alloc (.cells (blkA zeros zeros none 0 0) 26)).setRow w4.heap.size (blkA h1 h2 none 0 0) = w5 at *
      generalize w4.heap.size = bb at *
      have HDW := Lib.hid hdw
      clear hdw HL3 HL4 HR2 HB2
      go_wp2_with fail
      refine (HCN.out _ _ _ HDW.out.rd).mono ?_
      rintro e w6 ⟨rfl, hl6⟩
      have hdw := HDW.out.left hl6
      clear HDW hl6
      have HDW := Lib.hid hdw
      clear hdw
      go_wp2_with fail
      refine (HID.out _ _ _ HDW.out.rd).mono ?_
      rintro e w7 ⟨qi, ki, ci, hki, rfl, ho7, hl7⟩
      have hdw := HDW.out.left hl7
      have HSZ : Hid (w.heap.size ≤ w6.heap.size) := HDW.out.low.size
      have HSM : Hid (bb < w6.heap.size) := (Array.getElem?_eq_some_iff.1 HDW.out.r1).1
      have c64 : w7.cell? ⟨bb, 64, none⟩ = some (.slice none 0 0) := by
        have := range_row hdw.r1 (bytesV h1 ++ bytesV h2) [Value.slice none 0 0] [] (by rw [blkA_toList]; simp)
        rw [List.length_append, bytesV_length, bytesV_length, hdw.len.1, hdw.len.2] at this
        exact this 0 _ rfl
      have f64 := frozen_of_row _ _ 64 _ _ hdw.r1
      have hdw2 := hdw.set qi ki ci
      have HOW : Hid ((w7.setCell ⟨bb, 64, none⟩ (.slice qi ki ci)).ownsRow w6.heap.size 23 32 (.slice qi ki ci) ki (bytesV B)) :=
        own_touch ho7 ((Turns.refl (fun k => k = bb) w7).setCell (p := ⟨bb, 64, none⟩) (fun _ => rfl) _) (fun k hk e => by have := (ho7.lt k hk).1; have := HSM.out; omega)
      have HKI := Lib.hid hki
      clear HDW hl7 hdw ho7 hki
      have HDW := Lib.hid hdw2
      clear hdw2
      go_upto_region 4 with fail
      generalize w7.setCell ⟨bb, 64, none⟩ (.slice qi ki ci) = w8 at *
      clear c64 f64
      have HBK : Hid (BlkAt w8 (blkA h1 h2 qi ki ci) D qi ki ci) := by
        have h9 := is_chunks HOW.out HKI.out
        have h8 := HDD.out
        have hk9 : B.length / 32 = ki := by rw [HKI.out]; omega
        rw [hk9] at h8
        rw [h8]
        exact ⟨rfl, HHL.out.1, HHL.out.2, h9⟩
      have HE9 := Lib.hid (HE.out.below HDW.out.low HE.out.lt)
      go_wp2_with fail
      refine (Rdr.done_any _ HDW.out.rd HE9.out).mono ?_
      rintro e x9 ⟨rfl, hb9⟩
      rw [HDN.out]
      have hdw9 := HDW.out.below hb9
      have hbk9 := HBK.out.below hb9
      have how9 := own_touch HOW.out (Turns.of_below (S := fun _ => False) hb9) (fun _ _ h => h)
      clear hb9 HDW HE9 HBK HOW
      have HDW := Lib.hid hdw9
      have HBK := Lib.hid hbk9
      have HOW := Lib.hid how9
      clear hdw9 hbk9 how9
      go_wp2_with ((with_reducible refine wpAt 24 ?_); refine wpList_unguard (by rfl) ?_; refine wpList_load_row rfl 26 _ rfl bb rfl 26 (blkA h1 h2 qi ki ci) (0, 0) _ HDW.out.r1 Tryd.underlying26 rfl (infoBlk _ (blk_size HHL.out.1 HHL.out.2 _ _ _)) ?_)
      refine (right_any _ D qi ki ci _ HBK.out).mono ?_
      rintro e x10 ⟨rfl, hb10⟩
      rw [HRT.out]
      have hdw10 := HDW.out.below hb10
      have hbk10 := HBK.out.below hb10
      have how10 := own_touch HOW.out (Turns.of_below (S := fun _ => False) hb10) (fun _ _ h => h)
      clear hb10 HDW HBK HOW
      have HDW := Lib.hid hdw10
      have HBK := Lib.hid hbk10
      have HOW := Lib.hid how10
      clear hdw10 hbk10 how10
      go_wp2_with (first
        | refine Rdr.wpList_build rfl 26 _ rfl [] rfl _ build_b0 ?_
        | refine wpList_store_row rfl 26 _ _ rfl w.heap.size (blkA zeros zeros none 0 0) rfl rfl 26 (blkA zeros zeros none 0 0) HDW.out.r0 (infoBlk _ rfl) rfl (blk_one _ _ _ _ _) ?_)
      have HS := Lib.hid (setRow_heap _ _ _ (blkA zeros zeros none 0 0) _ _ HDW.out.r0)
      refine bodyPost_ret (results_cell_tmp2 rfl _ _ _ _ _ _ _ rfl HS.out Tryd.underlying26 rfl (infoBlk _ rfl)) rfl ?_
      exact HBAD.out _ (below_setRow HDW.out.low (Nat.le_refl _) _)
  · have z1 : (ev == 0) = false := by rw [beq_eq_false_iff_ne]; exact h0
    have z2 : (ev != 0) = true := by simp [h0]
    have hq := HQ0.out h0
    clear h0 HQ0 HQ1 HQ2
    subst hq
    have HBAD : Hid (∀ w', Below w.heap.size w w' → DecO BlkD.zero ev w (.returned (.tuple #[.agg (blkA zeros zeros none 0 0), .int .i64 ev])) w') := fun w' hb => ⟨_, _, _, _, rfl, HZW.out _, fun a h => (nomatch h), hb⟩
    go_enter Tryd.func14, Tryd.ntmps14
    go_upto_region 1 with fail
    generalize w.alloc (.cells (blkA zeros zeros none 0 0) 26) = w1 at *
    go_wp2_with fail
    refine (Rdr.new_any w1 _ _ _ l (HBS.out.below HZB.out) (by omega)).mono ?_
    rintro e w2 ⟨rb, rfl, hr2, hb2⟩
    have HR2 := Lib.hid hr2
    have HB2 := Lib.hid hb2
    clear hr2 hb2
    go_wp2_with fail
    refine (HI1.out _ _ _ HR2.out).mono ?_
    rintro e w3 ⟨rfl, hl3⟩
    have HL3 := Lib.hid hl3
    clear hl3
    go_wp2_with fail
    refine (HI2.out _ _ _ HL3.out.there).mono ?_
    rintro e w4 ⟨rfl, hl4⟩
    have HL4 := Lib.hid hl4
    clear hl4
    go_upto_region 3 with (first
      | ((with_reducible refine wpAt 13 ?_); refine Rdr.wpList_build rfl 26 _ rfl [(0, .agg (idA h1)), (1, .agg (idA h2))] rfl _ (build_blk _ _ HHL.out.1 HHL.out.2) ?_)
      | ((with_reducible refine wpStoreAt 5 ?_); refine wpList_store_row rfl 26 _ _ rfl w4.heap.size (blkA h1 h2 none 0 0) rfl rfl 26 (blkA zeros zeros none 0 0) (heap_alloc_last _ _) (infoBlk _ (blk_size HHL.out.1 HHL.out.2 _ _ _)) (by rw [blk_size HHL.out.1 HHL.out.2]; rfl) (blk_one _ _ _ _ _) ?_))
    simp only [Act.put]
    have hdw : DWB w w1.heap.size rb w4.heap.size s2 h1 h2 none 0 0 ((w4.alloc (.cells (blkA zeros zeros none 0 0) 26)).setRow w4.heap.size (blkA h1 h2 none 0 0)) := by
      have hb4 : Below w4.heap.size w4 ((w4.alloc (.cells (blkA zeros zeros none 0 0) 26)).setRow w4.heap.size (blkA h1 h2 none 0 0)) := below_setRow (Below.allocs _ _) (Nat.le_refl _) _
      have hs1 := HZS.out
      have hs2 := HB2.out.size
      have hs3 := HL3.out.turn.size
      have hs4 := HL4.out.turn.size
      obtain ⟨v, bv, hr⟩ := HR2.out
      have hlow := hr.low
      have hlt := hr.lt
      have hb13 : Below w1.heap.size w1 w3 := HB2.out.trans (HL3.out.turn.below hs2 (fun i hi => by omega))
      have hb14 : Below w1.heap.size w1 w4 := hb13.trans (HL4.out.turn.below (by omega) (fun i hi => by omega))
      have hb15 : Below w1.heap.size w1 _ := hb14.trans (hb4.mono hb14.size)
      exact ⟨HL4.out.there.below hb4, Below.keepOld hb15 HZR.out, setRow_heap _ _ _ _ _ _ (heap_alloc_last _ _), HZB.out.trans (hb15.mono (by omega)), ⟨by omega, by omega, by omega⟩, HHL.out⟩
    generalize (w4.alloc (.cells (blkA zeros zeros none 0 0) 26)).setRow w4.heap.size (blkA h1 h2 none 0 0) = w5 at *
    generalize w4.heap.size = bb at *
    have HDW := Lib.hid hdw
    clear hdw HL3 HL4 HR2 HB2
    go_wp2_with fail
    refine (HCN.out _ _ _ HDW.out.rd).mono ?_
    rintro e w6 ⟨rfl, hl6⟩
    have hdw := HDW.out.left hl6
    clear HDW hl6
    have HDW := Lib.hid hdw
    clear hdw
    go_wp2_with fail
    refine (HID.out _ _ _ HDW.out.rd).mono ?_
    rintro e w7 ⟨qi, ki, ci, hki, rfl, ho7, hl7⟩
    have hdw := HDW.out.left hl7
    have HSZ : Hid (w.heap.size ≤ w6.heap.size) := HDW.out.low.size
    have HSM : Hid (bb < w6.heap.size) := (Array.getElem?_eq_some_iff.1 HDW.out.r1).1
    have c64 : w7.cell? ⟨bb, 64, none⟩ = some (.slice none 0 0) := by
      have := range_row hdw.r1 (bytesV h1 ++ bytesV h2) [Value.slice none 0 0] [] (by rw [blkA_toList]; simp)
      rw [List.length_append, bytesV_length, bytesV_length, hdw.len.1, hdw.len.2] at this
      exact this 0 _ rfl
    have f64 := frozen_of_row _ _ 64 _ _ hdw.r1
    have hdw2 := hdw.set qi ki ci
    have HOW : Hid ((w7.setCell ⟨bb, 64, none⟩ (.slice qi ki ci)).ownsRow w6.heap.size 23 32 (.slice qi ki ci) ki (bytesV B)) :=
      own_touch ho7 ((Turns.refl (fun k => k = bb) w7).setCell (p := ⟨bb, 64, none⟩) (fun _ => rfl) _) (fun k hk e => by have := (ho7.lt k hk).1; have := HSM.out; omega)
    have HKI := Lib.hid hki
    clear HDW hl7 hdw ho7 hki
    have HDW := Lib.hid hdw2
    clear hdw2
    go_upto_region 4 with fail
    generalize w7.setCell ⟨bb, 64, none⟩ (.slice qi ki ci) = w8 at *
    clear c64 f64
    have HBK : Hid (BlkAt w8 (blkA h1 h2 qi ki ci) D qi ki ci) := by
      have h9 := is_chunks HOW.out HKI.out
      have h8 := HDD.out
      have hk9 : B.length / 32 = ki := by rw [HKI.out]; omega
      rw [hk9] at h8
      rw [h8]
      exact ⟨rfl, HHL.out.1, HHL.out.2, h9⟩
    have HE9 := Lib.hid (HE.out.below HDW.out.low HE.out.lt)
    go_wp2_with fail
    refine (Rdr.done_any _ HDW.out.rd HE9.out).mono ?_
    rintro e x9 ⟨rfl, hb9⟩
    rw [HDN.out]
    have hdw9 := HDW.out.below hb9
    have hbk9 := HBK.out.below hb9
    have how9 := own_touch HOW.out (Turns.of_below (S := fun _ => False) hb9) (fun _ _ h => h)
    clear hb9 HDW HE9 HBK HOW
    have HDW := Lib.hid hdw9
    have HBK := Lib.hid hbk9
    have HOW := Lib.hid how9
    clear hdw9 hbk9 how9
    go_wp2_with (first
      | refine Rdr.wpList_build rfl 26 _ rfl [] rfl _ build_b0 ?_
      | refine wpList_store_row rfl 26 _ _ rfl w.heap.size (blkA zeros zeros none 0 0) rfl rfl 26 (blkA zeros zeros none 0 0) HDW.out.r0 (infoBlk _ rfl) rfl (blk_one _ _ _ _ _) ?_)
    have HS := Lib.hid (setRow_heap _ _ _ (blkA zeros zeros none 0 0) _ _ HDW.out.r0)
    refine bodyPost_ret (results_cell_tmp2 rfl _ _ _ _ _ _ _ rfl HS.out Tryd.underlying26 rfl (infoBlk _ rfl)) rfl ?_
    exact HBAD.out _ (below_setRow HDW.out.low (Nat.le_refl _) _)
theorem decode_any (p0 : Option Addr) (n0 c0 : Nat) (l : List UInt8) (w : World) (hE : EType w) (hB : Bs w p0 n0 c0 l) (hn : n0 ≤ 1099511627776) :
    Calls Tryd.prog 14 #[.slice p0 n0 c0] w (DecP (decB l).1 (decB l).2 w) := by
  refine (decode_own p0 n0 c0 l w hE hB hn).mono ?_
  rintro e w' ⟨M, q, n, c, he, hb, _, hl⟩
  exact ⟨M, q, n, c, he, hb, hl⟩
end Go.Proofs.YtdaigkcbmdcbcaaDoor.Blk

namespace Go.Proofs.YtdaigkcbmdcbcaaDoor.Rec
open Go.RowKit Go.Mir Go.Mir.Parts Wr Cod Blk

structure RecD where
  kind : Int
  ses : Nat
  seq : Nat
  quo : Nat
  hint : List UInt8
  blob : List UInt8
  blk : BlkD
def z16 : List UInt8 := List.replicate 16 0
def RecD.zero : RecD := ⟨0, 0, 0, 0, z16, [], BlkD.zero⟩
/-- what every record that came in meets -/
structure RecD.wf (r : RecD) : Prop where
  kindB : -9223372036854775808 ≤ r.kind ∧ r.kind ≤ 9223372036854775807
  ses : r.ses < 4294967296
  seq : r.seq < 4294967296
  quo : r.quo < 4294967296
  hint : r.hint.length = 16
  blk : r.blk.wf
/-- where its slices lie -/
structure RS where
  p : Option Addr
  c : Nat
  q : Option Addr
  d : Nat
def RS.none : RS := ⟨Option.none, 0, Option.none, 0⟩
def RecD.blkA (r : RecD) (s : RS) : Array Value := Go.Mir.blkA r.blk.hash r.blk.par s.q r.blk.txs.length s.d
def recL (r : RecD) (s : RS) : List Value := [.int .i64 r.kind, .int .u32 (r.ses : Int), .int .u32 (r.seq : Int), .int .u32 (r.quo : Int)] ++ (bytesV r.hint ++ ([.slice s.p r.blob.length s.c] ++ (r.blkA s).toList))
def recA (r : RecD) (s : RS) : Array Value := (recL r s).toArray
structure RecAt (w : World) (r : RecD) (s : RS) : Prop where
  wf : r.wf
  blob : Bs w s.p r.blob.length s.c r.blob
  ids : Is w s.q r.blk.txs.length s.d 32 r.blk.txs
theorem RecAt.below {w w' : World} {r : RecD} {s : RS} (h : RecAt w r s) (hb : Below w.heap.size w w') : RecAt w' r s := ⟨h.wf, h.blob.below hb, h.ids.below hb⟩
theorem RecAt.blkAt {w : World} {r : RecD} {s : RS} (h : RecAt w r s) : BlkAt w (r.blkA s) r.blk s.q r.blk.txs.length s.d := ⟨rfl, h.wf.blk.hlen, h.wf.blk.plen, h.ids⟩
theorem rblk_size {r : RecD} (h : r.wf) (s : RS) : (r.blkA s).size = 65 := blk_size h.blk.hlen h.blk.plen _ _ _
theorem rblk_one (r : RecD) (s : RS) : (r.blkA s).all (·.oneCell') = true := blk_one _ _ _ _ _
theorem recA_size {r : RecD} (h : r.wf) (s : RS) : (recA r s).size = 86 := by
  have := rblk_size h s
  simp [recA, recL, bytesV_length, h.hint, this]
theorem sizeR (cs : Array Value) (h : cs.size = 86) : (Tryd.prog.info? 42).map (·.size) = some cs.size := by rw [h]; kernel_rfl
theorem sizeH (h : List UInt8) (hl : h.length = 16) : (Tryd.prog.info? 40).map (·.size) = some (idA h).size := by rw [idA_size, hl]; kernel_rfl
theorem recA_one (r : RecD) (s : RS) : (recA r s).all (·.oneCell') = true := by
  unfold recA
  refine all_oneCell_toArray fun v hv => ?_
  have h1 := rblk_one r s
  simp only [recL, List.mem_append, List.mem_cons, List.not_mem_nil, or_false] at hv
  rcases hv with (rfl | rfl | rfl | rfl) | hv | rfl | hv
  · rfl
  · rfl
  · rfl
  · rfl
  · exact bytesV_one _ _ hv
  · rfl
  · rw [← Array.all_toList] at h1
    exact List.all_eq_true.1 h1 v hv
theorem zeroR (w : World) : (zeroValue 42).run Tryd.prog w = .ok (.agg (recA RecD.zero RS.none)) w := by kernel_rfl
theorem build_r0 : Tryd.prog.built 42 [] = some (recA RecD.zero RS.none) := by kernel_rfl
theorem zero_wf : RecD.zero.wf := ⟨by decide, by decide, by decide, by decide, rfl, Blk.zero_wf⟩
theorem zero_at (w : World) : RecAt w RecD.zero RS.none := ⟨zero_wf, Sl.nil _ _, Is.nil _ _⟩
/-- a record in a block -/
structure Cells (w : World) (g : Nat) (r : RecD) (s : RS) : Prop where
  c0 : w.cell? ⟨g, 0, none⟩ = some (.int .i64 r.kind)
  c1 : w.cell? ⟨g, 1, none⟩ = some (.int .u32 (r.ses : Int))
  c2 : w.cell? ⟨g, 2, none⟩ = some (.int .u32 (r.seq : Int))
  c3 : w.cell? ⟨g, 3, none⟩ = some (.int .u32 (r.quo : Int))
  c20 : w.cell? ⟨g, 20, none⟩ = some (.slice s.p r.blob.length s.c)
  rh : w.rangeAt g 4 (idA r.hint).toList
  rb : w.rangeAt g 21 (r.blkA s).toList
  ri : w.rangeAt g 21 (idA r.blk.hash).toList
  fr : ∀ i, w.frozen? ⟨g, i, none⟩ = false
theorem rec_cells {w : World} {g : Nat} {r : RecD} {s : RS} {t : TypeId} (hw : r.wf) (hr : w.heap[g]? = some (.cells (recA r s) t (0, 0))) : Cells w g r s := by
  have hl := bytesV_length r.hint
  have hh := hw.hint
  have cell : ∀ i v, (recL r s)[i]? = some v → w.cell? ⟨g, i, none⟩ = some v := fun i v hi => by rw [cell_of_row _ _ _ _ _ _ hr]; simpa [recA] using hi
  have hb : w.rangeAt g 21 (r.blkA s).toList := by
    have := range_row hr ([.int .i64 r.kind, .int .u32 (r.ses : Int), .int .u32 (r.seq : Int), .int .u32 (r.quo : Int)] ++ (bytesV r.hint ++ [.slice s.p r.blob.length s.c])) (r.blkA s).toList [] (by simp [recA, recL])
    simpa [hl, hh] using this
  refine ⟨cell 0 _ rfl, cell 1 _ rfl, cell 2 _ rfl, cell 3 _ rfl, cell 20 _ ?_, ?_, hb, ?_, fun i => frozen_of_row _ _ i _ _ hr⟩
  · unfold recL
    rw [List.getElem?_append_right (by simp), List.getElem?_append_right (by simp [hl, hh])]; simp [hl, hh]
  · have := range_row hr [.int .i64 r.kind, .int .u32 (r.ses : Int), .int .u32 (r.seq : Int), .int .u32 (r.quo : Int)] (bytesV r.hint) ([.slice s.p r.blob.length s.c] ++ (r.blkA s).toList) (by simp [recA, recL])
    rw [idA_toList]; exact this
  · intro j v hv
    refine hb j v ?_
    rw [RecD.blkA, blkA_toList, List.append_assoc]
    rw [idA_toList] at hv
    rw [List.getElem?_append_left (List.getElem?_eq_some_iff.1 hv).1]; exact hv

/-! ### are two the same? -/
def RecD.same (a b : RecD) : Bool := a.kind == b.kind && (a.ses == b.ses) && (a.seq == b.seq) && (a.quo == b.quo) && (a.hint == b.hint) && (a.blob == b.blob) && sameB a.blk b.blk
theorem eqH (w : World) (a b : List UInt8) (ha : a.length = 16) (hb : b.length = 16) : (Op.equalIn 10000 40 (.agg (idA a)) (.agg (idA b))).run Tryd.prog w = .ok (a == b) w :=
  run_equal_ids w 9998 Tryd.underlying40 Tryd.underlying5 (by kernel_rfl) (by kernel_rfl) (by kernel_rfl) a b ha hb
set_option maxRecDepth 100000 in
set_option maxHeartbeats 3200000 in
theorem rsame_any (a b : RecD) (s s2 : RS) (w : World) (hA : RecAt w a s) (hB : RecAt w b s2) :
    Calls Tryd.prog 24 #[.agg (recA a s), .agg (recA b s2)] w fun e w' => e = .returned (.bool (a.same b)) ∧ Below w.heap.size w w' := by
  have H2 := two_allocs w (.cells (recA a s) 42) (.cells (recA b s2) 42)
  have hA2 := hA.below H2.2.2.2
  have hB2 := hB.below H2.2.2.2
  have ra := rec_cells hA.wf H2.1
  have rb := rec_cells hB.wf H2.2.1
  obtain ⟨a0, a1, a2, a3, a4, _, _, _, _⟩ := ra
  obtain ⟨b0, b1, b2, b3, b4, _, _, _, _⟩ := rb
  have HRA := Lib.hid (rec_cells hA.wf H2.1)
  have HRB := Lib.hid (rec_cells hB.wf H2.2.1)
  have HA := Lib.hid hA2
  have HB := Lib.hid hB2
  have HAH := Lib.hid hA.wf.hint
  have HBH := Lib.hid hB.wf.hint
  have HBL := Lib.hid H2.2.2.2
  have hq := fun w => eqH w _ _ hA.wf.hint hB.wf.hint
  clear H2 hA hB hA2 hB2
  by_cases h0 : a.kind = b.kind
  · have t0 : (a.kind == b.kind) = true := by rw [beq_iff_eq]; exact h0
    by_cases h1 : a.ses = b.ses
    · have t1 : ((a.ses : Int) == (b.ses : Int)) = true := by rw [beq_iff_eq]; omega
      have n1 : (a.ses == b.ses) = true := by rw [beq_iff_eq]; omega
      by_cases h2 : a.seq = b.seq
      · have t2 : ((a.seq : Int) == (b.seq : Int)) = true := by rw [beq_iff_eq]; omega
        have n2 : (a.seq == b.seq) = true := by rw [beq_iff_eq]; omega
        by_cases h3 : a.quo = b.quo
        · have t3 : ((a.quo : Int) == (b.quo : Int)) = true := by rw [beq_iff_eq]; omega
          have n3 : (a.quo == b.quo) = true := by rw [beq_iff_eq]; omega
          by_cases h4 : a.hint = b.hint
          · have t4 : (a.hint == b.hint) = true := by rw [beq_iff_eq]; exact h4
            by_cases h5 : a.blob = b.blob
            · have t5 : (a.blob == b.blob) = true := by rw [beq_iff_eq]; exact h5
              have HRES : Hid (a.same b = sameB a.blk b.blk) := by show _ = _; unfold RecD.same; rw [t0, n1, n2, n3, t4, t5]; rfl
              clear h0 h1 h2 h3 h4 h5 n1 n2 n3
              go_enter Tryd.func24, Tryd.ntmps24
              go_upto_region 1 with fail
              generalize (w.alloc (.cells (recA a s) 42)).alloc (.cells (recA b s2) 42) = w2 at *
              have hcv := run_conv (P := Tryd.prog) 29 9 5 Tryd.underlying29 Tryd.underlying5 Tryd.underlying9 HA.out.blob
              have hcv2 := run_conv (P := Tryd.prog) 29 9 5 Tryd.underlying29 Tryd.underlying5 Tryd.underlying9 HB.out.blob
              go_wp2_with (first
                | ((with_reducible refine wpAt 33 ?_); refine wpList_unguard (by rfl) ?_; refine wpList_load_mid rfl 40 _ rfl w.heap.size 4 rfl (idA a.hint).toList _ HRA.out.rh Tryd.underlying40 rfl (by rw [Array.length_toList]; exact sizeH _ HAH.out) ?_)
                | ((with_reducible refine wpAt 35 ?_); refine wpList_unguard (by rfl) ?_; refine wpList_load_mid rfl 40 _ rfl (w.heap.size + 1) 4 rfl (idA b.hint).toList _ HRB.out.rh Tryd.underlying40 rfl (by rw [Array.length_toList]; exact sizeH _ HBH.out) ?_)
                | ((with_reducible refine wpAt 49 ?_); refine wpList_unguard (by rfl) ?_; refine wpList_load_mid rfl 26 _ rfl w.heap.size 21 rfl (a.blkA s).toList _ HRA.out.rb Tryd.underlying26 rfl (by rw [Array.length_toList, infoBlk _ rfl, rblk_size HA.out.wf]) ?_)
                | ((with_reducible refine wpAt 51 ?_); refine wpList_unguard (by rfl) ?_; refine wpList_load_mid rfl 26 _ rfl (w.heap.size + 1) 21 rfl (b.blkA s2).toList _ HRB.out.rb Tryd.underlying26 rfl (by rw [Array.length_toList, infoBlk _ rfl, rblk_size HB.out.wf]) ?_))
              try rw [Array.toArray_toList, Array.toArray_toList]
              refine (rSame_any _ _ _ _ _ _ _ _ _ _ _ HA.out.blkAt HB.out.blkAt).mono ?_
              rintro e w3 ⟨rfl, hb3⟩
              have HB3 := Lib.hid (HBL.out.trans (hb3.mono HBL.out.size))
              clear hb3
              go_wp2_with fail
              go_ret
              exact ⟨bret HRES.out.symm, HB3.out⟩
            · have t5 : (a.blob == b.blob) = false := by rw [beq_eq_false_iff_ne]; exact h5
              have HRES : Hid (a.same b = false) := by show _ = _; unfold RecD.same; rw [t5]; simp
              clear h0 h1 h2 h3 h4 h5 n1 n2 n3
              go_enter Tryd.func24, Tryd.ntmps24
              go_upto_region 1 with fail
              generalize (w.alloc (.cells (recA a s) 42)).alloc (.cells (recA b s2) 42) = w2 at *
              have hcv := run_conv (P := Tryd.prog) 29 9 5 Tryd.underlying29 Tryd.underlying5 Tryd.underlying9 HA.out.blob
              have hcv2 := run_conv (P := Tryd.prog) 29 9 5 Tryd.underlying29 Tryd.underlying5 Tryd.underlying9 HB.out.blob
              go_wp2_with (first
                | ((with_reducible refine wpAt 33 ?_); refine wpList_unguard (by rfl) ?_; refine wpList_load_mid rfl 40 _ rfl w.heap.size 4 rfl (idA a.hint).toList _ HRA.out.rh Tryd.underlying40 rfl (by rw [Array.length_toList]; exact sizeH _ HAH.out) ?_)
                | ((with_reducible refine wpAt 35 ?_); refine wpList_unguard (by rfl) ?_; refine wpList_load_mid rfl 40 _ rfl (w.heap.size + 1) 4 rfl (idA b.hint).toList _ HRB.out.rh Tryd.underlying40 rfl (by rw [Array.length_toList]; exact sizeH _ HBH.out) ?_)
                | ((with_reducible refine wpAt 49 ?_); refine wpList_unguard (by rfl) ?_; refine wpList_load_mid rfl 26 _ rfl w.heap.size 21 rfl (a.blkA s).toList _ HRA.out.rb Tryd.underlying26 rfl (by rw [Array.length_toList, infoBlk _ rfl, rblk_size HA.out.wf]) ?_)
                | ((with_reducible refine wpAt 51 ?_); refine wpList_unguard (by rfl) ?_; refine wpList_load_mid rfl 26 _ rfl (w.heap.size + 1) 21 rfl (b.blkA s2).toList _ HRB.out.rb Tryd.underlying26 rfl (by rw [Array.length_toList, infoBlk _ rfl, rblk_size HB.out.wf]) ?_))
              go_ret
              exact ⟨bret HRES.out.symm, HBL.out⟩
          · have t4 : (a.hint == b.hint) = false := by rw [beq_eq_false_iff_ne]; exact h4
            have HRES : Hid (a.same b = false) := by show _ = _; unfold RecD.same; rw [t4]; simp
            clear h0 h1 h2 h3 h4 n1 n2 n3
            go_enter Tryd.func24, Tryd.ntmps24
            go_upto_region 1 with fail
            generalize (w.alloc (.cells (recA a s) 42)).alloc (.cells (recA b s2) 42) = w2 at *
            have hcv := run_conv (P := Tryd.prog) 29 9 5 Tryd.underlying29 Tryd.underlying5 Tryd.underlying9 HA.out.blob
            have hcv2 := run_conv (P := Tryd.prog) 29 9 5 Tryd.underlying29 Tryd.underlying5 Tryd.underlying9 HB.out.blob
            go_wp2_with (first
              | ((with_reducible refine wpAt 33 ?_); refine wpList_unguard (by rfl) ?_; refine wpList_load_mid rfl 40 _ rfl w.heap.size 4 rfl (idA a.hint).toList _ HRA.out.rh Tryd.underlying40 rfl (by rw [Array.length_toList]; exact sizeH _ HAH.out) ?_)
              | ((with_reducible refine wpAt 35 ?_); refine wpList_unguard (by rfl) ?_; refine wpList_load_mid rfl 40 _ rfl (w.heap.size + 1) 4 rfl (idA b.hint).toList _ HRB.out.rh Tryd.underlying40 rfl (by rw [Array.length_toList]; exact sizeH _ HBH.out) ?_)
              | ((with_reducible refine wpAt 49 ?_); refine wpList_unguard (by rfl) ?_; refine wpList_load_mid rfl 26 _ rfl w.heap.size 21 rfl (a.blkA s).toList _ HRA.out.rb Tryd.underlying26 rfl (by rw [Array.length_toList, infoBlk _ rfl, rblk_size HA.out.wf]) ?_)
              | ((with_reducible refine wpAt 51 ?_); refine wpList_unguard (by rfl) ?_; refine wpList_load_mid rfl 26 _ rfl (w.heap.size + 1) 21 rfl (b.blkA s2).toList _ HRB.out.rb Tryd.underlying26 rfl (by rw [Array.length_toList, infoBlk _ rfl, rblk_size HB.out.wf]) ?_))
            go_ret
            exact ⟨bret HRES.out.symm, HBL.out⟩
        · have t3 : ((a.quo : Int) == (b.quo : Int)) = false := by rw [beq_eq_false_iff_ne]; omega
          have HRES : Hid (a.same b = false) := by show _ = _; unfold RecD.same; rw [show (a.quo == b.quo) = false by rw [beq_eq_false_iff_ne]; omega]; simp
          clear h0 h1 h2 h3 n1 n2
          go_enter Tryd.func24, Tryd.ntmps24
          go_upto_region 1 with fail
          generalize (w.alloc (.cells (recA a s) 42)).alloc (.cells (recA b s2) 42) = w2 at *
          have hcv := run_conv (P := Tryd.prog) 29 9 5 Tryd.underlying29 Tryd.underlying5 Tryd.underlying9 HA.out.blob
          have hcv2 := run_conv (P := Tryd.prog) 29 9 5 Tryd.underlying29 Tryd.underlying5 Tryd.underlying9 HB.out.blob
          go_wp2_with (first
            | ((with_reducible refine wpAt 33 ?_); refine wpList_unguard (by rfl) ?_; refine wpList_load_mid rfl 40 _ rfl w.heap.size 4 rfl (idA a.hint).toList _ HRA.out.rh Tryd.underlying40 rfl (by rw [Array.length_toList]; exact sizeH _ HAH.out) ?_)
            | ((with_reducible refine wpAt 35 ?_); refine wpList_unguard (by rfl) ?_; refine wpList_load_mid rfl 40 _ rfl (w.heap.size + 1) 4 rfl (idA b.hint).toList _ HRB.out.rh Tryd.underlying40 rfl (by rw [Array.length_toList]; exact sizeH _ HBH.out) ?_)
            | ((with_reducible refine wpAt 49 ?_); refine wpList_unguard (by rfl) ?_; refine wpList_load_mid rfl 26 _ rfl w.heap.size 21 rfl (a.blkA s).toList _ HRA.out.rb Tryd.underlying26 rfl (by rw [Array.length_toList, infoBlk _ rfl, rblk_size HA.out.wf]) ?_)
            | ((with_reducible refine wpAt 51 ?_); refine wpList_unguard (by rfl) ?_; refine wpList_load_mid rfl 26 _ rfl (w.heap.size + 1) 21 rfl (b.blkA s2).toList _ HRB.out.rb Tryd.underlying26 rfl (by rw [Array.length_toList, infoBlk _ rfl, rblk_size HB.out.wf]) ?_))
          go_ret
          exact ⟨bret HRES.out.symm, HBL.out⟩
      · have t2 : ((a.seq : Int) == (b.seq : Int)) = false := by rw [beq_eq_false_iff_ne]; omega
        have HRES : Hid (a.same b = false) := by show _ = _; unfold RecD.same; rw [show (a.seq == b.seq) = false by rw [beq_eq_false_iff_ne]; omega]; simp
        clear h0 h1 h2 n1
        go_enter Tryd.func24, Tryd.ntmps24
        go_upto_region 1 with fail
        generalize (w.alloc (.cells (recA a s) 42)).alloc (.cells (recA b s2) 42) = w2 at *
        have hcv := run_conv (P := Tryd.prog) 29 9 5 Tryd.underlying29 Tryd.underlying5 Tryd.underlying9 HA.out.blob
        have hcv2 := run_conv (P := Tryd.prog) 29 9 5 Tryd.underlying29 Tryd.underlying5 Tryd.underlying9 HB.out.blob
        go_wp2_with (first
          | ((with_reducible refine wpAt 33 ?_); refine wpList_unguard (by rfl) ?_; refine wpList_load_mid rfl 40 _ rfl w.heap.size 4 rfl (idA a.hint).toList _ HRA.out.rh Tryd.underlying40 rfl (by rw [Array.length_toList]; exact sizeH _ HAH.out) ?_)
          | ((with_reducible refine wpAt 35 ?_); refine wpList_unguard (by rfl) ?_; refine wpList_load_mid rfl 40 _ rfl (w.heap.size + 1) 4 rfl (idA b.hint).toList _ HRB.out.rh Tryd.underlying40 rfl (by rw [Array.length_toList]; exact sizeH _ HBH.out) ?_)
          | ((with_reducible refine wpAt 49 ?_); refine wpList_unguard (by rfl) ?_; refine wpList_load_mid rfl 26 _ rfl w.heap.size 21 rfl (a.blkA s).toList _ HRA.out.rb Tryd.underlying26 rfl (by rw [Array.length_toList, infoBlk _ rfl, rblk_size HA.out.wf]) ?_)
          | ((with_reducible refine wpAt 51 ?_); refine wpList_unguard (by rfl) ?_; refine wpList_load_mid rfl 26 _ rfl (w.heap.size + 1) 21 rfl (b.blkA s2).toList _ HRB.out.rb Tryd.underlying26 rfl (by rw [Array.length_toList, infoBlk _ rfl, rblk_size HB.out.wf]) ?_))
        go_ret
        exact ⟨bret HRES.out.symm, HBL.out⟩
    · have t1 : ((a.ses : Int) == (b.ses : Int)) = false := by rw [beq_eq_false_iff_ne]; omega
      have HRES : Hid (a.same b = false) := by show _ = _; unfold RecD.same; rw [show (a.ses == b.ses) = false by rw [beq_eq_false_iff_ne]; omega]; simp
      clear h0 h1
      go_enter Tryd.func24, Tryd.ntmps24
      go_upto_region 1 with fail
      generalize (w.alloc (.cells (recA a s) 42)).alloc (.cells (recA b s2) 42) = w2 at *
      have hcv := run_conv (P := Tryd.prog) 29 9 5 Tryd.underlying29 Tryd.underlying5 Tryd.underlying9 HA.out.blob
      have hcv2 := run_conv (P := Tryd.prog) 29 9 5 Tryd.underlying29 Tryd.underlying5 Tryd.underlying9 HB.out.blob
      go_wp2_with (first
        | ((with_reducible refine wpAt 33 ?_); refine wpList_unguard (by rfl) ?_; refine wpList_load_mid rfl 40 _ rfl w.heap.size 4 rfl (idA a.hint).toList _ HRA.out.rh Tryd.underlying40 rfl (by rw [Array.length_toList]; exact sizeH _ HAH.out) ?_)
        | ((with_reducible refine wpAt 35 ?_); refine wpList_unguard (by rfl) ?_; refine wpList_load_mid rfl 40 _ rfl (w.heap.size + 1) 4 rfl (idA b.hint).toList _ HRB.out.rh Tryd.underlying40 rfl (by rw [Array.length_toList]; exact sizeH _ HBH.out) ?_)
        | ((with_reducible refine wpAt 49 ?_); refine wpList_unguard (by rfl) ?_; refine wpList_load_mid rfl 26 _ rfl w.heap.size 21 rfl (a.blkA s).toList _ HRA.out.rb Tryd.underlying26 rfl (by rw [Array.length_toList, infoBlk _ rfl, rblk_size HA.out.wf]) ?_)
        | ((with_reducible refine wpAt 51 ?_); refine wpList_unguard (by rfl) ?_; refine wpList_load_mid rfl 26 _ rfl (w.heap.size + 1) 21 rfl (b.blkA s2).toList _ HRB.out.rb Tryd.underlying26 rfl (by rw [Array.length_toList, infoBlk _ rfl, rblk_size HB.out.wf]) ?_))
      go_ret
      exact ⟨bret HRES.out.symm, HBL.out⟩
  · have t0 : (a.kind == b.kind) = false := by rw [beq_eq_false_iff_ne]; exact h0
    have HRES : Hid (a.same b = false) := by show _ = _; unfold RecD.same; rw [t0]; simp
    clear h0
    go_enter Tryd.func24, Tryd.ntmps24
    go_upto_region 1 with fail
    generalize (w.alloc (.cells (recA a s) 42)).alloc (.cells (recA b s2) 42) = w2 at *
    have hcv := run_conv (P := Tryd.prog) 29 9 5 Tryd.underlying29 Tryd.underlying5 Tryd.underlying9 HA.out.blob
    have hcv2 := run_conv (P := Tryd.prog) 29 9 5 Tryd.underlying29 Tryd.underlying5 Tryd.underlying9 HB.out.blob
    go_wp2_with (first
      | ((with_reducible refine wpAt 33 ?_); refine wpList_unguard (by rfl) ?_; refine wpList_load_mid rfl 40 _ rfl w.heap.size 4 rfl (idA a.hint).toList _ HRA.out.rh Tryd.underlying40 rfl (by rw [Array.length_toList]; exact sizeH _ HAH.out) ?_)
      | ((with_reducible refine wpAt 35 ?_); refine wpList_unguard (by rfl) ?_; refine wpList_load_mid rfl 40 _ rfl (w.heap.size + 1) 4 rfl (idA b.hint).toList _ HRB.out.rh Tryd.underlying40 rfl (by rw [Array.length_toList]; exact sizeH _ HBH.out) ?_)
      | ((with_reducible refine wpAt 49 ?_); refine wpList_unguard (by rfl) ?_; refine wpList_load_mid rfl 26 _ rfl w.heap.size 21 rfl (a.blkA s).toList _ HRA.out.rb Tryd.underlying26 rfl (by rw [Array.length_toList, infoBlk _ rfl, rblk_size HA.out.wf]) ?_)
      | ((with_reducible refine wpAt 51 ?_); refine wpList_unguard (by rfl) ?_; refine wpList_load_mid rfl 26 _ rfl (w.heap.size + 1) 21 rfl (b.blkA s2).toList _ HRB.out.rb Tryd.underlying26 rfl (by rw [Array.length_toList, infoBlk _ rfl, rblk_size HB.out.wf]) ?_))
    go_ret
    exact ⟨bret HRES.out.symm, HBL.out⟩
set_option maxRecDepth 100000 in
set_option maxHeartbeats 3200000 in
theorem same_any (a b : RecD) (s s2 : RS) (w : World) (hA : RecAt w a s) (hB : RecAt w b s2) :
    Calls Tryd.prog 27 #[.agg (recA a s), .agg (recA b s2)] w fun e w' => e = .returned (.bool (a.same b)) ∧ Below w.heap.size w w' := by
  have H2 := two_allocs w (.cells (recA a s) 42) (.cells (recA b s2) 42)
  have hA2 := hA.below H2.2.2.2
  have hB2 := hB.below H2.2.2.2
  have ra := rec_cells hA.wf H2.1
  have rb := rec_cells hB.wf H2.2.1
  obtain ⟨a0, a1, a2, a3, a4, _, _, _, _⟩ := ra
  obtain ⟨b0, b1, b2, b3, b4, _, _, _, _⟩ := rb
  have HRA := Lib.hid (rec_cells hA.wf H2.1)
  have HRB := Lib.hid (rec_cells hB.wf H2.2.1)
  have HA := Lib.hid hA2
  have HB := Lib.hid hB2
  have HAH := Lib.hid hA.wf.hint
  have HBH := Lib.hid hB.wf.hint
  have HBL := Lib.hid H2.2.2.2
  have hq := fun w => eqH w _ _ hA.wf.hint hB.wf.hint
  clear H2 hA hB hA2 hB2
  by_cases h0 : a.kind = b.kind
  · have t0 : (a.kind == b.kind) = true := by rw [beq_iff_eq]; exact h0
    by_cases h1 : a.ses = b.ses
    · have t1 : ((a.ses : Int) == (b.ses : Int)) = true := by rw [beq_iff_eq]; omega
      have n1 : (a.ses == b.ses) = true := by rw [beq_iff_eq]; omega
      by_cases h2 : a.seq = b.seq
      · have t2 : ((a.seq : Int) == (b.seq : Int)) = true := by rw [beq_iff_eq]; omega
        have n2 : (a.seq == b.seq) = true := by rw [beq_iff_eq]; omega
        by_cases h3 : a.quo = b.quo
        · have t3 : ((a.quo : Int) == (b.quo : Int)) = true := by rw [beq_iff_eq]; omega
          have n3 : (a.quo == b.quo) = true := by rw [beq_iff_eq]; omega
          by_cases h4 : a.hint = b.hint
          · have t4 : (a.hint == b.hint) = true := by rw [beq_iff_eq]; exact h4
            by_cases h5 : a.blob = b.blob
            · have t5 : (a.blob == b.blob) = true := by rw [beq_iff_eq]; exact h5
              have HRES : Hid (a.same b = sameB a.blk b.blk) := by show _ = _; unfold RecD.same; rw [t0, n1, n2, n3, t4, t5]; rfl
              clear h0 h1 h2 h3 h4 h5 n1 n2 n3
              go_enter Tryd.func27, Tryd.ntmps27
              go_upto_region 1 with fail
              generalize (w.alloc (.cells (recA a s) 42)).alloc (.cells (recA b s2) 42) = w2 at *
              have hcv := run_conv (P := Tryd.prog) 29 9 5 Tryd.underlying29 Tryd.underlying5 Tryd.underlying9 HA.out.blob
              have hcv2 := run_conv (P := Tryd.prog) 29 9 5 Tryd.underlying29 Tryd.underlying5 Tryd.underlying9 HB.out.blob
              go_wp2_with (first
                | ((with_reducible refine wpAt 33 ?_); refine wpList_unguard (by rfl) ?_; refine wpList_load_mid rfl 40 _ rfl w.heap.size 4 rfl (idA a.hint).toList _ HRA.out.rh Tryd.underlying40 rfl (by rw [Array.length_toList]; exact sizeH _ HAH.out) ?_)
                | ((with_reducible refine wpAt 35 ?_); refine wpList_unguard (by rfl) ?_; refine wpList_load_mid rfl 40 _ rfl (w.heap.size + 1) 4 rfl (idA b.hint).toList _ HRB.out.rh Tryd.underlying40 rfl (by rw [Array.length_toList]; exact sizeH _ HBH.out) ?_)
                | ((with_reducible refine wpAt 49 ?_); refine wpList_unguard (by rfl) ?_; refine wpList_load_mid rfl 26 _ rfl w.heap.size 21 rfl (a.blkA s).toList _ HRA.out.rb Tryd.underlying26 rfl (by rw [Array.length_toList, infoBlk _ rfl, rblk_size HA.out.wf]) ?_)
                | ((with_reducible refine wpAt 51 ?_); refine wpList_unguard (by rfl) ?_; refine wpList_load_mid rfl 26 _ rfl (w.heap.size + 1) 21 rfl (b.blkA s2).toList _ HRB.out.rb Tryd.underlying26 rfl (by rw [Array.length_toList, infoBlk _ rfl, rblk_size HB.out.wf]) ?_))
              try rw [Array.toArray_toList, Array.toArray_toList]
              refine (Blk.same_any _ _ _ _ _ _ _ _ _ _ _ HA.out.blkAt HB.out.blkAt).mono ?_
              rintro e w3 ⟨rfl, hb3⟩
              have HB3 := Lib.hid (HBL.out.trans (hb3.mono HBL.out.size))
              clear hb3
              go_wp2_with fail
              go_ret
              exact ⟨bret HRES.out.symm, HB3.out⟩
            · have t5 : (a.blob == b.blob) = false := by rw [beq_eq_false_iff_ne]; exact h5
              have HRES : Hid (a.same b = false) := by show _ = _; unfold RecD.same; rw [t5]; simp
              clear h0 h1 h2 h3 h4 h5 n1 n2 n3
              go_enter Tryd.func27, Tryd.ntmps27
              go_upto_region 1 with fail
              generalize (w.alloc (.cells (recA a s) 42)).alloc (.cells (recA b s2) 42) = w2 at *
              have hcv := run_conv (P := Tryd.prog) 29 9 5 Tryd.underlying29 Tryd.underlying5 Tryd.underlying9 HA.out.blob
              have hcv2 := run_conv (P := Tryd.prog) 29 9 5 Tryd.underlying29 Tryd.underlying5 Tryd.underlying9 HB.out.blob
              go_wp2_with (first
                | ((with_reducible refine wpAt 33 ?_); refine wpList_unguard (by rfl) ?_; refine wpList_load_mid rfl 40 _ rfl w.heap.size 4 rfl (idA a.hint).toList _ HRA.out.rh Tryd.underlying40 rfl (by rw [Array.length_toList]; exact sizeH _ HAH.out) ?_)
                | ((with_reducible refine wpAt 35 ?_); refine wpList_unguard (by rfl) ?_; refine wpList_load_mid rfl 40 _ rfl (w.heap.size + 1) 4 rfl (idA b.hint).toList _ HRB.out.rh Tryd.underlying40 rfl (by rw [Array.length_toList]; exact sizeH _ HBH.out) ?_)
                | ((with_reducible refine wpAt 49 ?_); refine wpList_unguard (by rfl) ?_; refine wpList_load_mid rfl 26 _ rfl w.heap.size 21 rfl (a.blkA s).toList _ HRA.out.rb Tryd.underlying26 rfl (by rw [Array.length_toList, infoBlk _ rfl, rblk_size HA.out.wf]) ?_)
                | ((with_reducible refine wpAt 51 ?_); refine wpList_unguard (by rfl) ?_; refine wpList_load_mid rfl 26 _ rfl (w.heap.size + 1) 21 rfl (b.blkA s2).toList _ HRB.out.rb Tryd.underlying26 rfl (by rw [Array.length_toList, infoBlk _ rfl, rblk_size HB.out.wf]) ?_))
              go_ret
              exact ⟨bret HRES.out.symm, HBL.out⟩
          · have t4 : (a.hint == b.hint) = false := by rw [beq_eq_false_iff_ne]; exact h4
            have HRES : Hid (a.same b = false) := by show _ = _; unfold RecD.same; rw [t4]; simp
            clear h0 h1 h2 h3 h4 n1 n2 n3
            go_enter Tryd.func27, Tryd.ntmps27
            go_upto_region 1 with fail
            generalize (w.alloc (.cells (recA a s) 42)).alloc (.cells (recA b s2) 42) = w2 at *
            have hcv := run_conv (P := Tryd.prog) 29 9 5 Tryd.underlying29 Tryd.underlying5 Tryd.underlying9 HA.out.blob
            have hcv2 := run_conv (P := Tryd.prog) 29 9 5 Tryd.underlying29 Tryd.underlying5 Tryd.underlying9 HB.out.blob
            go_wp2_with (first
              | ((with_reducible refine wpAt 33 ?_); refine wpList_unguard (by rfl) ?_; refine wpList_load_mid rfl 40 _ rfl w.heap.size 4 rfl (idA a.hint).toList _ HRA.out.rh Tryd.underlying40 rfl (by rw [Array.length_toList]; exact sizeH _ HAH.out) ?_)
              | ((with_reducible refine wpAt 35 ?_); refine wpList_unguard (by rfl) ?_; refine wpList_load_mid rfl 40 _ rfl (w.heap.size + 1) 4 rfl (idA b.hint).toList _ HRB.out.rh Tryd.underlying40 rfl (by rw [Array.length_toList]; exact sizeH _ HBH.out) ?_)
              | ((with_reducible refine wpAt 49 ?_); refine wpList_unguard (by rfl) ?_; refine wpList_load_mid rfl 26 _ rfl w.heap.size 21 rfl (a.blkA s).toList _ HRA.out.rb Tryd.underlying26 rfl (by rw [Array.length_toList, infoBlk _ rfl, rblk_size HA.out.wf]) ?_)
              | ((with_reducible refine wpAt 51 ?_); refine wpList_unguard (by rfl) ?_; refine wpList_load_mid rfl 26 _ rfl (w.heap.size + 1) 21 rfl (b.blkA s2).toList _ HRB.out.rb Tryd.underlying26 rfl (by rw [Array.length_toList, infoBlk _ rfl, rblk_size HB.out.wf]) ?_))
            go_ret
            exact ⟨bret HRES.out.symm, HBL.out⟩
        · have t3 : ((a.quo : Int) == (b.quo : Int)) = false := by rw [beq_eq_false_iff_ne]; omega
          have HRES : Hid (a.same b = false) := by show _ = _; unfold RecD.same; rw [show (a.quo == b.quo) = false by rw [beq_eq_false_iff_ne]; omega]; simp
          clear h0 h1 h2 h3 n1 n2
          go_enter Tryd.func27, Tryd.ntmps27
          go_upto_region 1 with fail
          generalize (w.alloc (.cells (recA a s) 42)).alloc (.cells (recA b s2) 42) = w2 at *
          have hcv := run_conv (P := Tryd.prog) 29 9 5 Tryd.underlying29 Tryd.underlying5 Tryd.underlying9 HA.out.blob
          have hcv2 := run_conv (P := Tryd.prog) 29 9 5 Tryd.underlying29 Tryd.underlying5 Tryd.underlying9 HB.out.blob
          go_wp2_with (first
            | ((with_reducible refine wpAt 33 ?_); refine wpList_unguard (by rfl) ?_; refine wpList_load_mid rfl 40 _ rfl w.heap.size 4 rfl (idA a.hint).toList _ HRA.out.rh Tryd.underlying40 rfl (by rw [Array.length_toList]; exact sizeH _ HAH.out) ?_)
            | ((with_reducible refine wpAt 35 ?_); refine wpList_unguard (by rfl) ?_; refine wpList_load_mid rfl 40 _ rfl (w.heap.size + 1) 4 rfl (idA b.hint).toList _ HRB.out.rh Tryd.underlying40 rfl (by rw [Array.length_toList]; exact sizeH _ HBH.out) ?_)
            | ((with_reducible refine wpAt 49 ?_); refine wpList_unguard (by rfl) ?_; refine wpList_load_mid rfl 26 _ rfl w.heap.size 21 rfl (a.blkA s).toList _ HRA.out.rb Tryd.underlying26 rfl (by rw [Array.length_toList, infoBlk _ rfl, rblk_size HA.out.wf]) ?_)
            | ((with_reducible refine wpAt 51 ?_); refine wpList_unguard (by rfl) ?_; refine wpList_load_mid rfl 26 _ rfl (w.heap.size + 1) 21 rfl (b.blkA s2).toList _ HRB.out.rb Tryd.underlying26 rfl (by rw [Array.length_toList, infoBlk _ rfl, rblk_size HB.out.wf]) ?_))
          go_ret
          exact ⟨bret HRES.out.symm, HBL.out⟩
      · have t2 : ((a.seq : Int) == (b.seq : Int)) = false := by rw [beq_eq_false_iff_ne]; omega
        have HRES : Hid (a.same b = false) := by show _ = _; unfold RecD.same; rw [show (a.seq == b.seq) = false by rw [beq_eq_false_iff_ne]; omega]; simp
        clear h0 h1 h2 n1
        go_enter Tryd.func27, Tryd.ntmps27
        go_upto_region 1 with fail
        generalize (w.alloc (.cells (recA a s) 42)).alloc (.cells (recA b s2) 42) = w2 at *
        have hcv := run_conv (P := Tryd.prog) 29 9 5 Tryd.underlying29 Tryd.underlying5 Tryd.underlying9 HA.out.blob
        have hcv2 := run_conv (P := Tryd.prog) 29 9 5 Tryd.underlying29 Tryd.underlying5 Tryd.underlying9 HB.out.blob
        go_wp2_with (first
          | ((with_reducible refine wpAt 33 ?_); refine wpList_unguard (by rfl) ?_; refine wpList_load_mid rfl 40 _ rfl w.heap.size 4 rfl (idA a.hint).toList _ HRA.out.rh Tryd.underlying40 rfl (by rw [Array.length_toList]; exact sizeH _ HAH.out) ?_)
          | ((with_reducible refine wpAt 35 ?_); refine wpList_unguard (by rfl) ?_; refine wpList_load_mid rfl 40 _ rfl (w.heap.size + 1) 4 rfl (idA b.hint).toList _ HRB.out.rh Tryd.underlying40 rfl (by rw [Array.length_toList]; exact sizeH _ HBH.out) ?_)
          | ((with_reducible refine wpAt 49 ?_); refine wpList_unguard (by rfl) ?_; refine wpList_load_mid rfl 26 _ rfl w.heap.size 21 rfl (a.blkA s).toList _ HRA.out.rb Tryd.underlying26 rfl (by rw [Array.length_toList, infoBlk _ rfl, rblk_size HA.out.wf]) ?_)
          | ((with_reducible refine wpAt 51 ?_); refine wpList_unguard (by rfl) ?_; refine wpList_load_mid rfl 26 _ rfl (w.heap.size + 1) 21 rfl (b.blkA s2).toList _ HRB.out.rb Tryd.underlying26 rfl (by rw [Array.length_toList, infoBlk _ rfl, rblk_size HB.out.wf]) ?_))
        go_ret
        exact ⟨bret HRES.out.symm, HBL.out⟩
    · have t1 : ((a.ses : Int) == (b.ses : Int)) = false := by rw [beq_eq_false_iff_ne]; omega
      have HRES : Hid (a.same b = false) := by show _ = _; unfold RecD.same; rw [show (a.ses == b.ses) = false by rw [beq_eq_false_iff_ne]; omega]; simp
      clear h0 h1
      go_enter Tryd.func27, Tryd.ntmps27
      go_upto_region 1 with fail
      generalize (w.alloc (.cells (recA a s) 42)).alloc (.cells (recA b s2) 42) = w2 at *
      have hcv := run_conv (P := Tryd.prog) 29 9 5 Tryd.underlying29 Tryd.underlying5 Tryd.underlying9 HA.out.blob
      have hcv2 := run_conv (P := Tryd.prog) 29 9 5 Tryd.underlying29 Tryd.underlying5 Tryd.underlying9 HB.out.blob
      go_wp2_with (first
        | ((with_reducible refine wpAt 33 ?_); refine wpList_unguard (by rfl) ?_; refine wpList_load_mid rfl 40 _ rfl w.heap.size 4 rfl (idA a.hint).toList _ HRA.out.rh Tryd.underlying40 rfl (by rw [Array.length_toList]; exact sizeH _ HAH.out) ?_)
        | ((with_reducible refine wpAt 35 ?_); refine wpList_unguard (by rfl) ?_; refine wpList_load_mid rfl 40 _ rfl (w.heap.size + 1) 4 rfl (idA b.hint).toList _ HRB.out.rh Tryd.underlying40 rfl (by rw [Array.length_toList]; exact sizeH _ HBH.out) ?_)
        | ((with_reducible refine wpAt 49 ?_); refine wpList_unguard (by rfl) ?_; refine wpList_load_mid rfl 26 _ rfl w.heap.size 21 rfl (a.blkA s).toList _ HRA.out.rb Tryd.underlying26 rfl (by rw [Array.length_toList, infoBlk _ rfl, rblk_size HA.out.wf]) ?_)
        | ((with_reducible refine wpAt 51 ?_); refine wpList_unguard (by rfl) ?_; refine wpList_load_mid rfl 26 _ rfl (w.heap.size + 1) 21 rfl (b.blkA s2).toList _ HRB.out.rb Tryd.underlying26 rfl (by rw [Array.length_toList, infoBlk _ rfl, rblk_size HB.out.wf]) ?_))
      go_ret
      exact ⟨bret HRES.out.symm, HBL.out⟩
  · have t0 : (a.kind == b.kind) = false := by rw [beq_eq_false_iff_ne]; exact h0
    have HRES : Hid (a.same b = false) := by show _ = _; unfold RecD.same; rw [t0]; simp
    clear h0
    go_enter Tryd.func27, Tryd.ntmps27
    go_upto_region 1 with fail
    generalize (w.alloc (.cells (recA a s) 42)).alloc (.cells (recA b s2) 42) = w2 at *
    have hcv := run_conv (P := Tryd.prog) 29 9 5 Tryd.underlying29 Tryd.underlying5 Tryd.underlying9 HA.out.blob
    have hcv2 := run_conv (P := Tryd.prog) 29 9 5 Tryd.underlying29 Tryd.underlying5 Tryd.underlying9 HB.out.blob
    go_wp2_with (first
      | ((with_reducible refine wpAt 33 ?_); refine wpList_unguard (by rfl) ?_; refine wpList_load_mid rfl 40 _ rfl w.heap.size 4 rfl (idA a.hint).toList _ HRA.out.rh Tryd.underlying40 rfl (by rw [Array.length_toList]; exact sizeH _ HAH.out) ?_)
      | ((with_reducible refine wpAt 35 ?_); refine wpList_unguard (by rfl) ?_; refine wpList_load_mid rfl 40 _ rfl (w.heap.size + 1) 4 rfl (idA b.hint).toList _ HRB.out.rh Tryd.underlying40 rfl (by rw [Array.length_toList]; exact sizeH _ HBH.out) ?_)
      | ((with_reducible refine wpAt 49 ?_); refine wpList_unguard (by rfl) ?_; refine wpList_load_mid rfl 26 _ rfl w.heap.size 21 rfl (a.blkA s).toList _ HRA.out.rb Tryd.underlying26 rfl (by rw [Array.length_toList, infoBlk _ rfl, rblk_size HA.out.wf]) ?_)
      | ((with_reducible refine wpAt 51 ?_); refine wpList_unguard (by rfl) ?_; refine wpList_load_mid rfl 26 _ rfl (w.heap.size + 1) 21 rfl (b.blkA s2).toList _ HRB.out.rb Tryd.underlying26 rfl (by rw [Array.length_toList, infoBlk _ rfl, rblk_size HB.out.wf]) ?_))
    go_ret
    exact ⟨bret HRES.out.symm, HBL.out⟩
end Go.Proofs.YtdaigkcbmdcbcaaDoor.Rec

namespace Go.Mir
open Go.ChangeShapes Go.WideShapes Go.ChangeAt Go.RowKit

theorem u8_of_list (zs : List Int) (h : ∀ n ∈ zs, (Lit.int .u8 n).wf = true) : ∃ l : List UInt8, zs = l.map (fun b => (b.toNat : Int)) := by
  induction zs with
  | nil => exact ⟨[], rfl⟩
  | cons z zs ih =>
    obtain ⟨l, rfl⟩ := ih (fun n hn => h n (by simp [hn]))
    have hz := h z (by simp)
    have hb : 0 ≤ z ∧ z ≤ 255 := by simpa [Lit.wf, IntKind.min, IntKind.max, IntKind.signed, IntKind.bits] using hz
    refine ⟨UInt8.ofNat z.toNat :: l, ?_⟩
    have : (UInt8.ofNat z.toNat).toNat = z.toNat := by
      rw [UInt8.toNat_ofNat']; exact Nat.mod_eq_of_lt (by omega)
    simp [this]; omega

/-- a []byte that came in -/
theorem open_bs {P : Program} {W : World} {H : Type} {enc : TypeId × Value → H} {t e base : Nat} {v : Value} {d : DataW H} {ps : List MemPlace} (ht : P.underlying t = some (.slice e)) (he : P.underlying e = some (.int .u8)) (hc : P.cellsOf e = 1)
    (hval : Value.okWide P W .any base t v) (h : DataW.Trod enc P W 0 (fun _ => true) true t v d ps) : ∃ p n c l, v = .slice p n c ∧ Bs W p n c l := by
  obtain ⟨a, n, c, rfl⟩ := okWide_slice ht hval
  obtain ⟨fuel, hf⟩ := h
  rcases open_ints ht he hc hf with ⟨hcs, _⟩ | ⟨x, l, c', zs, hcs, _, hl, hm, hz, _, hcell, hwz⟩
  · simp [Value.cells] at hcs
    obtain ⟨rfl, rfl, rfl⟩ := hcs
    exact ⟨_, _, _, [], rfl, Sl.nil _ _⟩
  · simp [Value.cells] at hcs
    obtain ⟨rfl, rfl, rfl⟩ := hcs
    obtain ⟨bs, rfl⟩ := u8_of_list zs hwz
    have hbl : bs.length = c := by simpa using hz
    refine ⟨_, _, _, bs.take n, rfl, ⟨?_, hl, by simpa [maxLen] using hm, fun h => (by cases h), fun a ha j u hu => ?_⟩⟩
    · rw [bytesV_length, List.length_take]; omega
    · obtain rfl := Option.some.inj ha
      have hj : j < n := by
        have := (List.getElem?_eq_some_iff.1 hu).1
        rw [bytesV_length, List.length_take] at this; omega
      have hc0 := hcell j (by simp; omega)
      rw [hc0, ← hu]
      simp [bytesV, hj, show j < bs.length by omega]

/-- a uint32 that came in, as a word -/
theorem u32_word {a : Int} (h : (Lit.int .u32 a).wf = true) : ∃ x : BitVec 32, a = (x.toNat : Int) := by
  have hb : 0 ≤ a ∧ a ≤ 4294967295 := by simpa [Lit.wf, IntKind.min, IntKind.max, IntKind.signed, IntKind.bits] using h
  refine ⟨BitVec.ofNat 32 a.toNat, ?_⟩
  rw [BitVec.toNat_ofNat, Nat.mod_eq_of_lt (by omega)]; omega
theorem u16_nat {a : Int} (h : (Lit.int .u16 a).wf = true) : ∃ x : Nat, a = (x : Int) ∧ x < 65536 := by
  have hb : 0 ≤ a ∧ a ≤ 65535 := by simpa [Lit.wf, IntKind.min, IntKind.max, IntKind.signed, IntKind.bits] using h
  exact ⟨a.toNat, by omega, by omega⟩
theorem u64_nat {a : Int} (h : (Lit.int .u64 a).wf = true) : ∃ x : Nat, a = (x : Int) ∧ x < 18446744073709551616 := by
  have hb : 0 ≤ a ∧ a ≤ 18446744073709551615 := by simpa [Lit.wf, IntKind.min, IntKind.max, IntKind.signed, IntKind.bits] using h
  exact ⟨a.toNat, by omega, by omega⟩
theorem i64_bd {a : Int} (h : (Lit.int .i64 a).wf = true) : -9223372036854775808 ≤ a ∧ a ≤ 9223372036854775807 := by
  simpa [Lit.wf, IntKind.min, IntKind.max, IntKind.signed, IntKind.bits] using h

/-- an array of numbers that came in, by its cells -/
theorem trod_nums {P : Program} {W : World} {H : Type} {enc : TypeId × Value → H} {base : Nat} {spare : Nat → Bool} {held : Bool} {fuel t n e : Nat} {k : IntKind} {cs : List Value} {x : DataW H × List MemPlace}
    (ht : P.underlying t = some (.array n e)) (he : P.underlying e = some (.int k)) (hc : P.cellsOf e = 1) (hct : P.cellsOf t = n) (h : DataW.trod enc P W base spare held fuel t cs = some x) :
    ∃ zs : List Int, cs = zs.map (Value.int k) ∧ zs.length = n ∧ ∀ z ∈ zs, (Lit.int k z).wf = true := by
  obtain ⟨xs, m, rfl, _, hl, hxl, hx⟩ := DataW.trod_array ht h
  rw [hct] at hl
  have key : ∀ i, i < n → ∃ z, cs[i]? = some (.int k z) ∧ (Lit.int k z).wf = true := by
    intro i hi
    have h1 := hx i hi
    rw [hc, Nat.mul_one] at h1
    have h2 : xs[i]? = some xs[i] := List.getElem?_eq_getElem (by omega)
    rw [h2] at h1
    obtain ⟨z, hz, _, hw⟩ := DataW.trod_int he h1
    refine ⟨z, ?_, hw⟩
    have h3 := congrArg (·[0]?) hz
    simpa using h3
  refine ⟨cs.map intOf, ?_, by simp [hl], ?_⟩
  · apply List.ext_getElem?
    intro i
    by_cases hi : i < n
    · obtain ⟨z, hz, _⟩ := key i hi
      simp [hz, intOf]
    · rw [List.getElem?_eq_none (by omega), List.getElem?_eq_none (by simp; omega)]
  · intro z hz
    rw [List.mem_map] at hz
    obtain ⟨v, hv, rfl⟩ := hz
    obtain ⟨i, hi, rfl⟩ := List.mem_iff_getElem.1 hv
    obtain ⟨z, hz, hw⟩ := key i (by omega)
    rw [List.getElem?_eq_getElem hi] at hz
    rw [Option.some.inj hz]; exact hw
theorem okWide_arr {P : Program} {W : World} {r : Reach} {base t n e : Nat} {v : Value} (ht : P.underlying t = some (.array n e)) (h : Value.okWide P W r base t v) : ∃ cs, v = .agg cs := by
  unfold Value.okWide at h
  rw [ht] at h
  obtain ⟨cs, hv, _⟩ := h
  exact ⟨cs, hv⟩
/-- an array of numbers that came in by value -/
theorem open_nums {P : Program} {W : World} {H : Type} {enc : TypeId × Value → H} {base t n e : Nat} {k : IntKind} {v : Value} {d : DataW H} {ps : List MemPlace}
    (ht : P.underlying t = some (.array n e)) (he : P.underlying e = some (.int k)) (hc : P.cellsOf e = 1) (hct : P.cellsOf t = n)
    (hval : Value.okWide P W .any base t v) (h : DataW.Trod enc P W 0 (fun _ => true) true t v d ps) : ∃ zs : List Int, v = .agg (zs.map (Value.int k)).toArray ∧ zs.length = n ∧ ∀ z ∈ zs, (Lit.int k z).wf = true := by
  obtain ⟨cs, rfl⟩ := okWide_arr ht hval
  obtain ⟨fuel, hf⟩ := h
  obtain ⟨zs, h1, h2, h3⟩ := trod_nums ht he hc hct hf
  refine ⟨zs, ?_, h2, h3⟩
  congr 1
  rw [← h1]; simp [Value.cells]

/-- how many elements a slice's datum has -/
def dlen {H : Type} : DataW H → Nat
  | .slice elems _ => elems.length
  | _ => 0

/-- a []byte by its cell -/
theorem trod_bs {P : Program} {W : World} {H : Type} {enc : TypeId × Value → H} {base fuel t e : Nat} {held : Bool} {cs : List Value} {x : DataW H × List MemPlace}
    (ht : P.underlying t = some (.slice e)) (he : P.underlying e = some (.int .u8)) (hc : P.cellsOf e = 1) (h : DataW.trod enc P W base (fun _ => true) held fuel t cs = some x) :
    ∃ p n c l, cs = [.slice p n c] ∧ Bs W p n c l ∧ dlen x.1 = n := by
  rcases Deep.open_slice1 ht hc h with ⟨rfl, rfl⟩ | ⟨a, len, cap, m, k, V, D, Pl, rfl, hb, hl, hm, hmm, rfl, hx⟩
  · exact ⟨_, _, _, [], rfl, Sl.nil _ _, rfl⟩
  · simp only [if_true] at hmm
    subst hmm
    have key : ∀ i, i < m → ∃ b : UInt8, V i = .int .u8 (b.toNat : Int) := by
      intro i hi
      obtain ⟨z, hz, _, hw⟩ := DataW.trod_int he (hx i hi).2
      obtain ⟨l, hl⟩ := u8_of_list [z] (by simpa using hw)
      match l, hl with
      | [b], hl => exact ⟨b, by simp at hz hl; rw [hz, hl]⟩
    refine ⟨_, _, _, (List.range len).map (fun i => UInt8.ofNat (intOf (V i)).toNat), rfl, ⟨?_, hl, by simpa [maxLen] using hm, fun h => (by cases h), fun a' ha j u hu => ?_⟩, by simp [dlen]⟩
    · simp [bytesV]
    · obtain rfl := Option.some.inj ha
      have hj : j < len := by
        have := (List.getElem?_eq_some_iff.1 hu).1
        simpa [bytesV] using this
      rw [(hx j (by omega)).1, ← hu]
      obtain ⟨b, hb⟩ := key j (by omega)
      rw [hb]
      simp [bytesV, hj, hb, intOf]

/-- a [][]byte that came in -/
theorem open_pts {P : Program} {W : World} {H : Type} {enc : TypeId × Value → H} {t e q base : Nat} {v : Value} {d : DataW H} {ps : List MemPlace} (ht : P.underlying t = some (.slice e)) (he : P.underlying e = some (.slice q)) (hq : P.underlying q = some (.int .u8)) (hc : P.cellsOf e = 1) (hcq : P.cellsOf q = 1)
    (hval : Value.okWide P W .any base t v) (h : DataW.Trod enc P W 0 (fun _ => true) true t v d ps) :
    ∃ p n c ls, v = .slice p n c ∧ Pts W p n c ls ∧ ((d = .nil ∧ ls = []) ∨ ∃ elems spare, d = .slice elems spare ∧ elems.map dlen = ls.map List.length) := by
  obtain ⟨a, n, c, rfl⟩ := okWide_slice ht hval
  obtain ⟨fuel, hf⟩ := h
  rcases Deep.open_slice1 ht hc hf with ⟨hcs, hx⟩ | ⟨a', len, cap, m, k, V, D, Pl, hcs, hb, hl, hm, hmm, hx, hv⟩
  · simp [Value.cells] at hcs
    obtain ⟨rfl, rfl, rfl⟩ := hcs
    exact ⟨_, _, _, [], rfl, Pts.made0 _, .inl ⟨(Prod.ext_iff.1 hx).1, rfl⟩⟩
  · simp [Value.cells] at hcs
    obtain ⟨rfl, rfl, rfl⟩ := hcs
    simp only [if_true] at hmm
    subst hmm
    have key : ∀ i, i < m → ∃ l : List UInt8, ∃ q m' k', V i = .slice q m' k' ∧ Bs W q m' k' l ∧ dlen (D i) = l.length := by
      intro i hi
      obtain ⟨q', n', c', l, h1, h2, h3⟩ := trod_bs he hq hcq (hv i hi).2
      exact ⟨l, q', n', c', by simpa using h1, h2, by rw [h3, h2.length]⟩
    obtain ⟨ls, hls, hlk⟩ : ∃ ls : List (List UInt8), ls.length = n ∧ ∀ i (h : i < ls.length), ∃ q m' k', V i = .slice q m' k' ∧ Bs W q m' k' ls[i] ∧ dlen (D i) = ls[i].length := by
      have : ∀ j, j ≤ n → ∃ ls : List (List UInt8), ls.length = j ∧ ∀ i (h : i < ls.length), ∃ q m' k', V i = .slice q m' k' ∧ Bs W q m' k' ls[i] ∧ dlen (D i) = ls[i].length := by
        intro j
        induction j with
        | zero => intro _; exact ⟨[], rfl, fun i h => by simp at h⟩
        | succ j ih =>
          intro hj
          obtain ⟨ls, h1, h2⟩ := ih (by omega)
          obtain ⟨l, hl⟩ := key j (by omega)
          refine ⟨ls ++ [l], by simp [h1], fun i hi => ?_⟩
          by_cases hij : i < j
          · rw [List.getElem_append_left (by omega)]; exact h2 i (by omega)
          · have : i = j := by simp [h1] at hi; omega
            subst this
            rw [List.getElem_append_right (by omega)]
            simpa [h1] using hl
      exact this n (Nat.le_refl _)
    refine ⟨_, _, _, ls, rfl, ⟨hls, hl, by simpa [maxLen] using hm, fun h => (by cases h), fun a ha j hj => ?_⟩, .inr ⟨_, _, (Prod.ext_iff.1 hx).1, ?_⟩⟩
    · obtain rfl := Option.some.inj ha
      obtain ⟨q', m', k', h1, h2, h3⟩ := hlk j hj
      exact ⟨q', m', k', by rw [(hv j (by omega)).1, h1], h2⟩
    · apply List.ext_getElem
      · simp [hls]
      · intro i h1 h2
        obtain ⟨q', m', k', h3, h4, h5⟩ := hlk i (by simpa using h2)
        simpa using h5

theorem addr_add_add (a : Addr) (i j : Nat) : (a.add i).add j = a.add (i + j) := by
  unfold Addr.add
  by_cases hj : j = 0
  · simp [hj]
  · by_cases hi : i = 0
    · simp [hi, hj]
    · simp [hi, hj, show ¬ (i + j = 0) by omega, Nat.add_assoc]
theorem flatMap_length {α β : Type} (f : α → List β) (m : Nat) (l : List α) (h : ∀ x ∈ l, (f x).length = m) : (l.flatMap f).length = l.length * m := by
  induction l with
  | nil => simp
  | cons x l ih =>
    rw [List.flatMap_cons, List.length_append, h x (by simp), ih (fun y hy => h y (by simp [hy])), List.length_cons, Nat.add_mul]; omega
theorem build_list {α : Type} (n : Nat) (R : Nat → α → Prop) (h : ∀ i, i < n → ∃ x, R i x) : ∃ l : List α, l.length = n ∧ ∀ i (hi : i < l.length), R i l[i] := by
  induction n with
  | zero => exact ⟨[], rfl, fun i hi => by simp at hi⟩
  | succ n ih =>
    obtain ⟨l, h1, h2⟩ := ih (fun i hi => h i (by omega))
    obtain ⟨x, hx⟩ := h n (by omega)
    refine ⟨l ++ [x], by simp [h1], fun i hi => ?_⟩
    by_cases hin : i < n
    · rw [List.getElem_append_left (by omega)]; exact h2 i (by omega)
    · have : i = n := by simp [h1] at hi; omega
      subst this
      rw [List.getElem_append_right (by omega)]
      simpa [h1] using hx

/-- a slice of arrays of bytes, by its cell -/
theorem trod_is {P : Program} {W : World} {H : Type} {enc : TypeId × Value → H} {base fuel t e u n : Nat} {held : Bool} {cs : List Value} {x : DataW H × List MemPlace}
    (ht : P.underlying t = some (.slice e)) (he : P.underlying e = some (.array n u)) (hu : P.underlying u = some (.int .u8)) (hcu : P.cellsOf u = 1) (hce : P.cellsOf e = n) (hn : 0 < n) (h : DataW.trod enc P W base (fun _ => true) held fuel t cs = some x) :
    ∃ p len c ids, cs = [.slice p len c] ∧ Is W p len c n ids ∧ dlen x.1 = len := by
  rcases Deep.open_slice ht h with ⟨rfl, rfl⟩ | ⟨a, len, cap, m, k, D, Pl, rfl, hb, hl, hm, hmm, rfl, hx⟩
  · exact ⟨_, _, _, [], rfl, ⟨Sl.nil _ _, fun _ h => by simp at h, rfl⟩, rfl⟩
  · simp only [if_true] at hmm
    subst hmm
    rw [hce] at hx
    obtain ⟨ids, hil, hids⟩ := build_list (α := List UInt8) len (fun i b => b.length = n ∧ ∀ j (hj : j < b.length), W.cell? (a.add (i * n + j)) = some (.int .u8 (b[j].toNat : Int))) (fun i hi => by
      obtain ⟨cs', h1, h2⟩ := hx i (by omega)
      obtain ⟨zs, rfl, hz, hw⟩ := trod_nums he hu hcu hce h2
      obtain ⟨b, rfl⟩ := u8_of_list zs hw
      obtain ⟨_, _, h3⟩ := World.cells?_some h1
      have hbl : b.length = n := by simpa using hz
      refine ⟨b, hbl, fun j hj => ?_⟩
      rw [← addr_add_add, h3 j (by omega)]
      simp [hj])
    have heach : ∀ y ∈ ids, y.length = n := by
      intro y hy
      obtain ⟨i, hi, rfl⟩ := List.mem_iff_getElem.1 hy
      exact (hids i hi).1
    have hfl : ∀ y ∈ ids, (bytesV y).length = n := fun y hy => by rw [bytesV_length, heach y hy]
    refine ⟨_, _, _, ids, rfl, ⟨⟨by rw [flatMap_length bytesV n ids hfl, hil], hl, by simpa [maxLen] using hm, fun h => (by cases h), fun a' ha j v hv => ?_⟩, heach, hil⟩, by simp [dlen]⟩
    obtain rfl := Option.some.inj ha
    have hj : j < ids.length * n := by
      have := (List.getElem?_eq_some_iff.1 hv).1
      rwa [flatMap_length bytesV n ids hfl] at this
    have hdm : j / n * n + j % n = j := by rw [Nat.mul_comm]; exact Nat.div_add_mod j n
    have hq : j / n < ids.length := (Nat.div_lt_iff_lt_mul hn).2 hj
    have hr : j % n < n := Nat.mod_lt _ hn
    have h4 := getElem?_flatMap bytesV n ids hfl (j / n) (j % n) hq hr
    rw [hdm, hv] at h4
    have h5 := (hids (j / n) hq).2 (j % n) (by rw [(hids _ hq).1]; exact hr)
    rw [hdm] at h5
    rw [h5, h4, bytesV_get _ _ (by rw [(hids _ hq).1]; exact hr)]

end Go.Mir

namespace Go.Mir
open Go.RowKit

theorem setCells_row (b : Nat) (t : TypeId) : ∀ (vs : List Value) (o : Nat) (w : World) (A : Array Value), w.heap[b]? = some (.cells A t (0, 0)) → o + vs.length ≤ A.size →
    ∃ A', (w.setCells b o vs).heap[b]? = some (.cells A' t (0, 0)) ∧ A'.size = A.size ∧ ∀ i, A'[i]? = if o ≤ i ∧ i < o + vs.length then vs[i - o]? else A[i]?
  | [], o, w, A, h, hs => ⟨A, h, rfl, fun i => by rw [if_neg (by simp <;> omega)]⟩
  | v :: r, o, w, A, h, hs => by
    have h1 := Go.heap_setCell_same w b o A t v h
    simp only [List.length_cons] at hs
    obtain ⟨A', h2, h3, h4⟩ := setCells_row b t r (o + 1) _ _ h1 (by simp; omega)
    refine ⟨A', h2, by rw [h3]; simp, fun i => ?_⟩
    rw [h4 i, Array.getElem?_setIfInBounds]
    by_cases hi : o + 1 ≤ i ∧ i < o + 1 + r.length
    · rw [if_pos hi, if_pos (by simp; omega)]
      rw [show i - o = (i - (o + 1)) + 1 by omega, List.getElem?_cons_succ]
    · rw [if_neg hi]
      by_cases ho : o = i
      · subst ho
        rw [if_pos rfl, if_pos (by omega), if_pos (by simp)]; simp
      · rw [if_neg ho, if_neg (by simp; omega)]
theorem setCells_below {B b : Nat} {w0 : World} (hB : B ≤ b) : ∀ (vs : List Value) (o : Nat) (w : World), Below B w0 w → Below B w0 (w.setCells b o vs)
  | [], _, _, h => h
  | v :: r, o, w, h => setCells_below hB r (o + 1) _ (h.setCell hB v)

/-- a struct copied whole into a new block -/
theorem alloc_stored (w : World) (Z : Array Value) (t : TypeId) (cs : List Value) (b : Nat) (hb : b = w.heap.size) (h : Z.size = cs.length) :
    ((w.alloc (.cells Z t)).setCells b 0 cs).heap[b]? = some (.cells cs.toArray t (0, 0)) ∧ Below w.heap.size w ((w.alloc (.cells Z t)).setCells b 0 cs) := by
  subst hb
  obtain ⟨A', h1, h2, h3⟩ := setCells_row w.heap.size t cs 0 (w.alloc (.cells Z t)) Z (heap_alloc_last _ _) (by omega)
  refine ⟨?_, setCells_below (Nat.le_refl _) _ _ _ (Below.allocs _ _)⟩
  rw [h1]
  have : A' = cs.toArray := by
    apply Array.ext_getElem?
    intro i
    rw [h3 i]
    by_cases hi : i < cs.length
    · rw [if_pos (by omega)]; simp
    · rw [if_neg (by omega), Array.getElem?_eq_none (by omega), Array.getElem?_eq_none (by simp; omega)]
  rw [this]
theorem there_alloc_new (w : World) (Z : Array Value) (t : TypeId) (n : Nat) (h : Z.size = n) : (w.alloc (.cells Z t)).there w.heap.size 0 n := fun j hj => by
  have h1 : (w.alloc (.cells Z t)).heap[w.heap.size]? = some (.cells Z t (0, 0)) := heap_alloc_last _ _
  refine ⟨?_, frozen_of_row _ _ _ _ _ h1⟩
  rw [cell_of_row _ _ _ _ _ _ h1]
  simp; omega

/-- a slice of structs, each of 'size' cells -/
structure Rs (w : World) (p : Option Addr) (n c size : Nat) (rows : List (List Value)) : Prop where
  sl : Sl w p n c size rows.flatten
  each : ∀ r ∈ rows, r.length = size
  count : rows.length = n
theorem Rs.below {w w' : World} {p : Option Addr} {n c size : Nat} {rows : List (List Value)} (h : Rs w p n c size rows) (hb : Below w.heap.size w w') : Rs w' p n c size rows := ⟨h.sl.below hb, h.each, h.count⟩
theorem Rs.row {w : World} {b o n c size : Nat} {rows : List (List Value)} (h : Rs w (some ⟨b, o, none⟩) n c size rows) (i : Nat) (hi : i < rows.length) : w.rangeAt b (o + i * size) rows[i] := fun j v hv => by
  have hj : j < size := by
    have := (List.getElem?_eq_some_iff.1 hv).1
    rwa [h.each _ (List.getElem_mem hi)] at this
  rw [Nat.add_assoc]
  refine h.sl.at ?_
  have := getElem?_flatMap (fun x : List Value => x) size rows h.each i j hi hj
  rw [show rows.flatten = rows.flatMap (fun x => x) by simp [List.flatMap_id'], this]; exact hv

/-- a slice of structs that came in -/
theorem trod_rows {P : Program} {W : World} {H : Type} {enc : TypeId × Value → H} {base fuel t e size : Nat} {held : Bool} {cs : List Value} {x : DataW H × List MemPlace} {α : Type} (R : α → List Value → DataW H → Prop)
    (ht : P.underlying t = some (.slice e)) (hce : P.cellsOf e = size) (hs : 0 < size)
    (one : ∀ m cs' y, DataW.trod enc P W base (fun _ => true) held m e cs' = some y → ∃ a, R a cs' y.1) (h : DataW.trod enc P W base (fun _ => true) held fuel t cs = some x) :
    ∃ p n c, ∃ L : List (List Value × α), cs = [.slice p n c] ∧ Rs W p n c size (L.map (·.1)) ∧ dlen x.1 = n ∧
      ((x.1 = .nil ∧ L = []) ∨ ∃ elems spare, x.1 = .slice elems spare ∧ elems.length = L.length ∧ ∀ i (h1 : i < elems.length) (h2 : i < L.length), R L[i].2 L[i].1 elems[i]) := by
  rcases Deep.open_slice ht h with ⟨rfl, rfl⟩ | ⟨a, len, cap, m, k, D, Pl, rfl, hb, hl, hm, hmm, rfl, hx⟩
  · exact ⟨_, _, _, [], rfl, ⟨Sl.nil _ _, fun _ h => by simp at h, rfl⟩, rfl, .inl ⟨rfl, rfl⟩⟩
  · simp only [if_true] at hmm
    subst hmm
    rw [hce] at hx
    obtain ⟨L, hL, hLs⟩ := build_list (α := List Value × α) len (fun i y => y.1.length = size ∧ R y.2 y.1 (D i) ∧ ∀ j (hj : j < y.1.length), W.cell? (a.add (i * size + j)) = some y.1[j]) (fun i hi => by
      obtain ⟨cs', h1, h2⟩ := hx i (by omega)
      obtain ⟨u, hu⟩ := one _ _ _ h2
      obtain ⟨_, h4, h3⟩ := World.cells?_some h1
      refine ⟨(cs', u), h4, hu, fun j hj => ?_⟩
      rw [← addr_add_add, h3 j (by rw [← h4]; exact hj)]
      simp [hj])
    have heach : ∀ r ∈ L.map (·.1), r.length = size := by
      intro r hr
      obtain ⟨y, hy, rfl⟩ := List.mem_map.1 hr
      obtain ⟨i, hi, rfl⟩ := List.mem_iff_getElem.1 hy
      exact (hLs i hi).1
    refine ⟨_, _, _, L, rfl, ⟨⟨?_, hl, by simpa [maxLen] using hm, fun h => (by cases h), fun a' ha j v hv => ?_⟩, heach, by simpa using hL⟩, by simp [dlen], .inr ⟨_, _, rfl, by simp [hL], fun i h1 h2 => ?_⟩⟩
    · have := flatMap_length (fun x : List Value => x) size (L.map (·.1)) heach
      rw [List.flatMap_id'] at this
      rw [this, List.length_map, hL]
    · obtain rfl := Option.some.inj ha
      have hfl := flatMap_length (fun x : List Value => x) size (L.map (·.1)) heach
      rw [List.flatMap_id', List.length_map] at hfl
      have hj : j < L.length * size := by
        have := (List.getElem?_eq_some_iff.1 hv).1
        rwa [hfl] at this
      have hdm : j / size * size + j % size = j := by rw [Nat.mul_comm]; exact Nat.div_add_mod j size
      have hq : j / size < L.length := (Nat.div_lt_iff_lt_mul hs).2 hj
      have hr : j % size < size := Nat.mod_lt _ hs
      have h4 := getElem?_flatMap (fun x : List Value => x) size (L.map (·.1)) heach (j / size) (j % size) (by simpa using hq) hr
      rw [hdm, List.flatMap_id', hv] at h4
      have h5 := (hLs (j / size) hq).2.2 (j % size) (by rw [(hLs _ hq).1]; exact hr)
      rw [hdm] at h5
      rw [h5, h4, List.getElem?_eq_getElem (by simp; rw [(hLs _ hq).1]; exact hr)]
      simp
    · have := (hLs i h2).2.1
      simpa using this

end Go.Mir

namespace Go.Proofs.YtdaigkcbmdcbcaaDoor.Rec
open Go.RowKit Go.Mir Go.Mir.Parts Wr Cod Blk

def RecD.only (r : RecD) : RecD :=
  if r.kind = 2 then ⟨2, r.ses, r.seq, 0, r.hint, r.blob, .zero⟩ else if r.kind = 4 then ⟨4, r.ses, 0, 0, z16, [], .zero⟩ else if r.kind = 1 then ⟨1, r.ses, 0, r.quo, z16, [], .zero⟩
  else if r.kind = 5 then ⟨5, 0, 0, 0, z16, [], r.blk⟩ else if r.kind = 6 then ⟨6, 0, 0, 0, z16, [], ⟨r.blk.hash, zeros, []⟩⟩ else ⟨r.kind, 0, 0, 0, z16, [], .zero⟩
def RecP (r : RecD) (w : World) (e : Ending) (w' : World) : Prop := ∃ s, e = .returned (.agg (recA r s)) ∧ RecAt w' r s ∧ Below w.heap.size w w'
theorem tail3 {P : Program} {ops : Array Oper} {Q : Exit → Act → World → Prop} {l : List Oper} {i j k : Nat} {a : Act} {w : World} {o o' o'' : Oper} (ho : nthO l i = some o) (ho' : nthO l j = some o') (ho'' : nthO l k = some o'') (h : wpList P ops Q [o, o', o''] a w) : wpList P ops Q (tailOps l [i, j, k]) a w := by
  simp only [tailOps, ho, ho', ho'']; exact h
theorem build_rk (k : Int) : Tryd.prog.built 42 [(0, .int .i64 k)] = some (recA ⟨k, 0, 0, 0, z16, [], .zero⟩ RS.none) := by kernel_rfl
theorem kind_wf {k : Int} (h : -9223372036854775808 ≤ k ∧ k ≤ 9223372036854775807) : RecD.wf ⟨k, 0, 0, 0, z16, [], .zero⟩ := ⟨h, by show 0 < _; omega, by show 0 < _; omega, by show 0 < _; omega, rfl, Blk.zero_wf⟩
theorem turns_setCells {S : Nat → Prop} {w0 : World} {b : Nat} (hS : S b) : ∀ (vs : List Value) (o : Nat) (w : World), Turns S w0 w → Turns S w0 (w.setCells b o vs)
  | [], _, _, h => h
  | v :: r, o, _, h => turns_setCells hS r (o + 1) _ (h.setCell (p := ⟨b, o, none⟩) (fun _ => hS) v)
/-! ### a record's row, as it is filled -/
theorem rset1 (r : RecD) (s : RS) (n : Nat) : (recA r s).setIfInBounds 1 (.int .u32 (n : Int)) = recA { r with ses := n } s := rfl
theorem rset2 (r : RecD) (s : RS) (n : Nat) : (recA r s).setIfInBounds 2 (.int .u32 (n : Int)) = recA { r with seq := n } s := rfl
theorem rset3 (r : RecD) (s : RS) (n : Nat) : (recA r s).setIfInBounds 3 (.int .u32 (n : Int)) = recA { r with quo := n } s := rfl
theorem rset20 {r : RecD} (hh : r.hint.length = 16) (s : RS) (b : List UInt8) (p' : Option Addr) (c' : Nat) : (recA r s).setIfInBounds 20 (.slice p' b.length c') = recA { r with blob := b } { s with p := p', c := c' } := by
  unfold recA recL
  rw [List.setIfInBounds_toArray]
  congr 1
  have hl := bytesV_length r.hint
  rw [List.set_append_right _ _ (by simp), List.set_append_right _ _ (by simp [hl, hh])]
  simp [hl, hh]
  rfl
theorem put_at {A A' : Array Value} (X Y Y' Z : List Value) (o : Nat) (ho : o = X.length) (hy : Y.length = Y'.length) (hA : A.toList = X ++ (Y ++ Z)) (h3 : ∀ i, A'[i]? = if o ≤ i ∧ i < o + Y'.length then Y'[i - o]? else A[i]?) : A'.toList = X ++ (Y' ++ Z) := by
  subst ho
  apply List.ext_getElem?
  intro i
  rw [Array.getElem?_toList, h3 i, ← Array.getElem?_toList, hA]
  by_cases h1 : X.length ≤ i ∧ i < X.length + Y'.length
  · rw [if_pos h1, List.getElem?_append_right h1.1, List.getElem?_append_left (by omega)]
  · rw [if_neg h1]
    rcases Nat.lt_or_ge i X.length with h5 | h5
    · rw [List.getElem?_append_left h5, List.getElem?_append_left h5]
    · rw [List.getElem?_append_right h5, List.getElem?_append_right h5, List.getElem?_append_right (by omega), List.getElem?_append_right (by omega), hy]
theorem rsetH {r : RecD} (hh : r.hint.length = 16) (s : RS) (h' : List UInt8) (hl' : h'.length = 16) {A' : Array Value} (h3 : ∀ i, A'[i]? = if 4 ≤ i ∧ i < 4 + (idA h').toList.length then (idA h').toList[i - 4]? else (recA r s)[i]?) : A' = recA { r with hint := h' } s := by
  apply Array.toList_inj.1
  rw [idA_toList] at h3
  exact put_at (A := recA r s) [.int .i64 r.kind, .int .u32 (r.ses : Int), .int .u32 (r.seq : Int), .int .u32 (r.quo : Int)] (bytesV r.hint) (bytesV h') _ 4 rfl (by rw [bytesV_length, bytesV_length, hh, hl']) rfl h3
theorem rsetB {r : RecD} (hw : r.wf) (s : RS) (b : BlkD) (hb : b.wf) (q' : Option Addr) (d' : Nat) {A' : Array Value} (h3 : ∀ i, A'[i]? = if 21 ≤ i ∧ i < 21 + (Go.Mir.blkA b.hash b.par q' b.txs.length d').toList.length then (Go.Mir.blkA b.hash b.par q' b.txs.length d').toList[i - 21]? else (recA r s)[i]?) : A' = recA { r with blk := b } { s with q := q', d := d' } := by
  apply Array.toList_inj.1
  have := put_at (A := recA r s) ([.int .i64 r.kind, .int .u32 (r.ses : Int), .int .u32 (r.seq : Int), .int .u32 (r.quo : Int)] ++ (bytesV r.hint ++ [.slice s.p r.blob.length s.c])) (r.blkA s).toList (Go.Mir.blkA b.hash b.par q' b.txs.length d').toList [] 21 (by simp [bytesV_length, hw.hint]) (by rw [Array.length_toList, Array.length_toList, rblk_size hw, blk_size hb.hlen hb.plen]) (by simp [recA, recL]) h3
  rw [this]
  simp [recA, recL, RecD.blkA]
theorem rsetI {r : RecD} (hw : r.wf) (s : RS) (h' : List UInt8) (hl' : h'.length = 32) {A' : Array Value} (h3 : ∀ i, A'[i]? = if 21 ≤ i ∧ i < 21 + (idA h').toList.length then (idA h').toList[i - 21]? else (recA r s)[i]?) : A' = recA { r with blk := ⟨h', r.blk.par, r.blk.txs⟩ } s := by
  apply Array.toList_inj.1
  rw [idA_toList] at h3
  have := put_at (A := recA r s) ([.int .i64 r.kind, .int .u32 (r.ses : Int), .int .u32 (r.seq : Int), .int .u32 (r.quo : Int)] ++ (bytesV r.hint ++ [.slice s.p r.blob.length s.c])) (bytesV r.blk.hash) (bytesV h') (bytesV r.blk.par ++ [Value.slice s.q r.blk.txs.length s.d]) 21 (by simp [bytesV_length, hw.hint]) (by rw [bytesV_length, bytesV_length, hw.blk.hlen, hl']) (by simp [recA, recL, RecD.blkA, blkA_toList]) h3
  rw [this]
  simp [recA, recL, RecD.blkA, blkA_toList]
/-- a record's row, in a world that is turned there alone -/
structure RW (w0 : World) (g : Nat) (r : RecD) (s : RS) (x : World) : Prop where
  row : x.heap[g]? = some (.cells (recA r s) 42 (0, 0))
  wf : r.wf
  turn : Turns (fun k => k = g) w0 x
theorem RW.cells {w0 x : World} {g : Nat} {r : RecD} {s : RS} (h : RW w0 g r s x) : Cells x g r s := rec_cells h.wf h.row
theorem RW.set {w0 x : World} {g : Nat} {r : RecD} {s : RS} (h : RW w0 g r s x) (i : Nat) (v : Value) {r' : RecD} {s' : RS} (hv : (recA r s).setIfInBounds i v = recA r' s') (hw : r'.wf) : RW w0 g r' s' (x.setCell ⟨g, i, none⟩ v) :=
  ⟨by rw [heap_setCell_same _ _ _ _ _ _ h.row, hv], hw, h.turn.setCell (p := ⟨g, i, none⟩) (fun _ => rfl) v⟩
theorem RW.ses {w0 x : World} {g : Nat} {r : RecD} {s : RS} (h : RW w0 g r s x) (n : Nat) (hn : n < 4294967296) : RW w0 g { r with ses := n } s (x.setCell ⟨g, 1, none⟩ (.int .u32 (n : Int))) := h.set 1 _ (rset1 _ _ _) ⟨h.wf.kindB, hn, h.wf.seq, h.wf.quo, h.wf.hint, h.wf.blk⟩
theorem RW.seq {w0 x : World} {g : Nat} {r : RecD} {s : RS} (h : RW w0 g r s x) (n : Nat) (hn : n < 4294967296) : RW w0 g { r with seq := n } s (x.setCell ⟨g, 2, none⟩ (.int .u32 (n : Int))) := h.set 2 _ (rset2 _ _ _) ⟨h.wf.kindB, h.wf.ses, hn, h.wf.quo, h.wf.hint, h.wf.blk⟩
theorem RW.quo {w0 x : World} {g : Nat} {r : RecD} {s : RS} (h : RW w0 g r s x) (n : Nat) (hn : n < 4294967296) : RW w0 g { r with quo := n } s (x.setCell ⟨g, 3, none⟩ (.int .u32 (n : Int))) := h.set 3 _ (rset3 _ _ _) ⟨h.wf.kindB, h.wf.ses, h.wf.seq, hn, h.wf.hint, h.wf.blk⟩
theorem RW.blob {w0 x : World} {g : Nat} {r : RecD} {s : RS} (h : RW w0 g r s x) (b : List UInt8) (p' : Option Addr) (c' : Nat) : RW w0 g { r with blob := b } { s with p := p', c := c' } (x.setCell ⟨g, 20, none⟩ (.slice p' b.length c')) := h.set 20 _ (rset20 h.wf.hint _ _ _ _) ⟨h.wf.kindB, h.wf.ses, h.wf.seq, h.wf.quo, h.wf.hint, h.wf.blk⟩
theorem RW.hint {w0 x : World} {g : Nat} {r : RecD} {s : RS} (h : RW w0 g r s x) (h' : List UInt8) (hl' : h'.length = 16) : RW w0 g { r with hint := h' } s (x.setCells g 4 (idA h').toList) := by
  have ht := turns_setCells (S := fun k => k = g) rfl (idA h').toList 4 x h.turn
  obtain ⟨A', h1, h2, h3⟩ := setCells_row g _ (idA h').toList 4 x _ h.row (by rw [recA_size h.wf, Array.length_toList, idA_size]; omega)
  rw [rsetH h.wf.hint s h' hl' h3] at h1
  exact ⟨h1, ⟨h.wf.kindB, h.wf.ses, h.wf.seq, h.wf.quo, hl', h.wf.blk⟩, ht⟩
theorem RW.block {w0 x : World} {g : Nat} {r : RecD} {s : RS} (h : RW w0 g r s x) (b : BlkD) (hb : b.wf) (q' : Option Addr) (d' : Nat) : RW w0 g { r with blk := b } { s with q := q', d := d' } (x.setCells g 21 (Go.Mir.blkA b.hash b.par q' b.txs.length d').toList) := by
  have ht := turns_setCells (S := fun k => k = g) rfl (Go.Mir.blkA b.hash b.par q' b.txs.length d').toList 21 x h.turn
  obtain ⟨A', h1, h2, h3⟩ := setCells_row g _ (Go.Mir.blkA b.hash b.par q' b.txs.length d').toList 21 x _ h.row (by rw [recA_size h.wf, Array.length_toList, blk_size hb.hlen hb.plen]; omega)
  rw [rsetB h.wf s b hb q' d' h3] at h1
  exact ⟨h1, ⟨h.wf.kindB, h.wf.ses, h.wf.seq, h.wf.quo, h.wf.hint, hb⟩, ht⟩
theorem RW.hash {w0 x : World} {g : Nat} {r : RecD} {s : RS} (h : RW w0 g r s x) (h' : List UInt8) (hl' : h'.length = 32) : RW w0 g { r with blk := ⟨h', r.blk.par, r.blk.txs⟩ } s (x.setCells g 21 (idA h').toList) := by
  have ht := turns_setCells (S := fun k => k = g) rfl (idA h').toList 21 x h.turn
  obtain ⟨A', h1, h2, h3⟩ := setCells_row g _ (idA h').toList 21 x _ h.row (by rw [recA_size h.wf, Array.length_toList, idA_size]; omega)
  rw [rsetI h.wf s h' hl' h3] at h1
  exact ⟨h1, ⟨h.wf.kindB, h.wf.ses, h.wf.seq, h.wf.quo, h.wf.hint, ⟨hl', h.wf.blk.plen, h.wf.blk.each⟩⟩, ht⟩
/-- whole arrays can be put there -/
theorem RW.thereH {w0 x : World} {g : Nat} {r : RecD} {s : RS} (h : RW w0 g r s x) (o m : Nat) (hm : o + m ≤ 86) : x.there g o m := fun j hj => by
  refine ⟨?_, frozen_of_row _ _ _ _ _ h.row⟩
  rw [cell_of_row _ _ _ _ _ _ h.row, Array.getElem?_eq_getElem (by rw [recA_size h.wf]; omega)]
  rfl
end Go.Proofs.YtdaigkcbmdcbcaaDoor.Rec
