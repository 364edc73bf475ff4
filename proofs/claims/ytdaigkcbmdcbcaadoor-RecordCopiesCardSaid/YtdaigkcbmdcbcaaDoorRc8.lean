/- PARTS, JOINED: RECORDS: rest. Conditions: the laid cell of errors.errorType; at most 2^40 bytes. RECORDS: Decode. Conditions: the laid cell of errors.errorType; at most 2^40 bytes. LAYER 17: the statement's own words: alive, Few. Conditions: the laid cell of errors.errorType. BLOCKS: the reference's Bytes, Encode. Conditions: none. RECORDS: Copy. Conditions: sizes that fit. LAYER 17: RecordCopies: are two records the same; a copy is the same, and apart. Conditions: the laid cell of errors.errorType. A BLOCK THAT CAME IN. Conditions: none. RECORDS that came in. Conditions: none. -/
import Derived.Test.YtdaigkcbmdcbcaaDoorRc1
import Derived.Test.YtdaigkcbmdcbcaaDoorRc2
import Derived.Test.YtdaigkcbmdcbcaaDoorRc3
import Derived.Test.YtdaigkcbmdcbcaaDoorRc4
import Derived.Test.YtdaigkcbmdcbcaaDoorRc5
import Derived.Test.YtdaigkcbmdcbcaaDoorRc6
import Derived.Test.YtdaigkcbmdcbcaaDoorRc7
import Derived.Test.YtdaigkcbmdcbcaaDoorRows
import Derived.Deep.Strs
namespace Go.Proofs.YtdaigkcbmdcbcaaDoor.Rec
open Go.RowKit Go.Mir Go.Mir.Parts Wr Cod Rdr Blk

/-- a reader, and a record's row that is filled -/
structure DWR (w : World) (base rb mb : Nat) (s : RD) (r : RecD) (t : RS) (x : World) : Prop where
  rd : RAt x base rb s
  r0 : x.heap[w.heap.size]? = some (.cells (recA RecD.zero RS.none) 42 (0, 0))
  r1 : x.heap[mb]? = some (.cells (recA r t) 42 (0, 0))
  low : Below w.heap.size w x
  ne : mb ≠ rb ∧ w.heap.size < rb ∧ w.heap.size < mb
  wf : r.wf
theorem DWR.left {w x y : World} {base rb mb : Nat} {s s' : RD} {r : RecD} {t : RS} (H : DWR w base rb mb s r t x) (hl : LeftR base rb s' x y) : DWR w base rb mb s' r t y :=
  ⟨hl.there, hl.turn.keep H.r0 (by have := H.ne; omega), hl.turn.keep H.r1 (by have := H.ne; omega), H.low.trans (hl.turn.below H.low.size (fun i hi => by have := H.ne; omega)), H.ne, H.wf⟩
theorem DWR.below {w x y : World} {base rb mb : Nat} {s : RD} {r : RecD} {t : RS} (H : DWR w base rb mb s r t x) (hb : Below x.heap.size x y) : DWR w base rb mb s r t y :=
  ⟨H.rd.below hb, Below.keepOld hb H.r0, Below.keepOld hb H.r1, H.low.trans (hb.mono H.low.size), H.ne, H.wf⟩
theorem DWR.kind {w x : World} {base rb mb : Nat} {s : RD} {r : RecD} {t : RS} (H : DWR w base rb mb s r t x) : ∀ k M ty fr, x.heap[k]? = some (.cells M ty fr) → (ty = 5 ∨ ty = 94 ∨ ty = 85) → ¬ k = mb := fun k M ty fr hk h2 h3 => by
  subst h3
  rw [H.r1] at hk
  injection hk with e1
  injection e1 with _ e2
  subst e2
  revert h2
  decide
theorem DWR.rw {w x : World} {base rb mb : Nat} {s : RD} {r : RecD} {t : RS} (H : DWR w base rb mb s r t x) : RW x mb r t x := ⟨H.r1, H.wf, Turns.refl _ _⟩
theorem DWR.put {w x y : World} {base rb mb : Nat} {s : RD} {r r' : RecD} {t t' : RS} (H : DWR w base rb mb s r t x) (h : RW x mb r' t' y) : DWR w base rb mb s r' t' y :=
  ⟨H.rd.touch h.turn H.kind, h.turn.keep H.r0 (by have := H.ne; omega), h.row, H.low.trans (h.turn.below H.low.size (fun i hi => by have := H.ne; omega)), H.ne, h.wf⟩
theorem DWR.lts {w x : World} {base rb mb : Nat} {s : RD} {r : RecD} {t : RS} (H : DWR w base rb mb s r t x) : mb < x.heap.size ∧ rb < x.heap.size := by
  obtain ⟨v, bv, h⟩ := H.rd
  exact ⟨(Array.getElem?_eq_some_iff.1 H.r1).1, h.lt⟩
/-- its slices, apart from the answer's row -/
structure SlOk (w : World) (r : RecD) (t : RS) (y : World) : Prop where
  blob : Bs y t.p r.blob.length t.c r.blob
  ids : Is y t.q r.blk.txs.length t.d 32 r.blk.txs
  lp : ∀ a, t.p = some a → w.heap.size < a.block
  lq : ∀ a, t.q = some a → w.heap.size < a.block
theorem SlOk.nil (w : World) {r : RecD} (hb : r.blob = []) (ht : r.blk.txs = []) (y : World) : SlOk w r RS.none y := by
  refine ⟨?_, ?_, fun a h => (nomatch h), fun a h => (nomatch h)⟩
  · rw [hb]; exact Sl.nil _ _
  · rw [ht]; exact Is.nil _ _
theorem is_touch {S : Nat → Prop} {x y : World} {q : Option Addr} {n c : Nat} {l : List (List UInt8)} (h : Is x q n c 32 l) (ht : Turns S x y) (hq : ∀ a, q = some a → a.block < x.heap.size → ¬ S a.block) : Is y q n c 32 l := ⟨h.sl.touch ht hq, h.each, h.count⟩
theorem SlOk.touch {S : Nat → Prop} {w x y : World} {r : RecD} {t : RS} (h : SlOk w r t x) (ht : Turns S x y) (hS : ∀ k, w.heap.size < k → k < x.heap.size → ¬ S k) : SlOk w r t y :=
  ⟨Sl.touch h.blob ht (fun a ha hl => hS _ (h.lp a ha) hl), is_touch h.ids ht (fun a ha hl => hS _ (h.lq a ha) hl), h.lp, h.lq⟩
theorem decB_bd (b : List UInt8) : -9223372036854775808 ≤ (decB b).2 ∧ (decB b).2 ≤ 9223372036854775807 := by
  unfold decB
  split
  · exact ⟨by decide, by decide⟩
  split
  · exact ⟨by decide, by decide⟩
  split
  · exact ⟨by decide, by decide⟩
  split
  · exact ⟨by decide, by decide⟩
  split
  · exact ⟨(by decide : (-9223372036854775808 : Int) ≤ 0), (by decide : (0 : Int) ≤ 9223372036854775807)⟩
  · exact ⟨by decide, by decide⟩
def RestP (w : World) (base rb mb : Nat) (r : RecD) (s : RD) (e : Ending) (y : World) : Prop := e = .returned (.tuple #[]) ∧ ∃ t, DWR w base rb mb s r t y ∧ SlOk w r t y
set_option maxRecDepth 100000 in
set_option maxHeartbeats 6400000 in
theorem rest_any {w : World} {base rb mb : Nat} {s1 : RD} {k : Nat} (x : World) (H : DWR w base rb mb s1 ⟨(k : Int), 0, 0, 0, z16, [], .zero⟩ RS.none x) (hk : k < 256) (hE : EType w) (hl : s1.l.length ≤ 1099511627776) :
    Calls Tryd.prog 48 #[.pointer (some ⟨rb, 0, none⟩), .pointer (some ⟨mb, 0, none⟩)] x (RestP w base rb mb (restP s1 k).1 (restP s1 k).2) := by
  have HDW := Lib.hid H
  have HE := Lib.hid hE
  have hz := zeroB
  have hmf : ∀ (fn : Fn) (first cap : Array Value) (w : World), (Instr.makeFunc fn first cap).run Tryd.prog w = .ok (.func fn first cap) w := fun _ _ _ _ => rfl
  clear H hE
  have HN4 : ∀ (s : RD), Hid (∀ (w : World), RAt w base rb s → Calls Tryd.prog 47 #[.pointer (some ⟨rb, 0, none⟩), .int .i64 4] w (NumP base rb s 4 w)) := fun s w h => Rdr.num_any w h 4 (by omega)
  have HN1 : ∀ (s : RD), Hid (∀ (w : World), RAt w base rb s → Calls Tryd.prog 47 #[.pointer (some ⟨rb, 0, none⟩), .int .i64 1] w (NumP base rb s 1 w)) := fun s w h => Rdr.num_any w h 1 (by omega)
  have hp4 : ∀ s : RD, s.numV 4 < 4294967296 := fun s => by have := numV_pow s 4 (by omega); simpa using this
  have hp1 : ∀ s : RD, s.numV 1 < 256 := fun s => by have := numV_pow s 1 (by omega); simpa using this
  unfold restP
  by_cases h1 : k = 1
  · have t1 : ((k : Int) == 1) = true := by rw [beq_iff_eq]; omega
    rw [if_pos h1]
    have hv1 := hp4 s1
    have hv2 := hp1 (s1.numS 4)
    have HA1 := HN4 s1
    have HA2 := HN1 (s1.numS 4)
    unfold NumP at HA1 HA2
    generalize (s1.numS 4).numS 1 = s3 at *
    generalize (s1.numS 4).numV 1 = n2 at *
    generalize s1.numS 4 = s2 at *
    generalize s1.numV 4 = n1 at *
    have hw1 : IntKind.u32.wrap (n1 : Int) = (n1 : Int) := by rw [IntKind.wrap_u32]; omega
    have hw2 : IntKind.u32.wrap (n2 : Int) = (n2 : Int) := by rw [IntKind.wrap_u32]; omega
    have HK1 : Hid ((k : Int) = 1) := by show _ = _; omega
    have HV : Hid (n1 < 4294967296 ∧ n2 < 4294967296) := ⟨hv1, by omega⟩
    clear h1 hk hl HN4 HN1 hp4 hp1 hv1 hv2
    go_enter Tryd.func48, Tryd.ntmps48
    obtain ⟨a0, _, _, _, _, _, _, _, _⟩ := HDW.out.rw.cells
    go_wp2_with fail
    refine (HA1.out _ HDW.out.rd).mono ?_
    rintro e x2 ⟨rfl, hl2⟩
    have hdw := HDW.out.left hl2
    clear HDW hl2 a0
    have HDW := Lib.hid hdw
    clear hdw
    go_wp2_with fail
    refine (HA2.out _ HDW.out.rd).mono ?_
    rintro e x3 ⟨rfl, hl3⟩
    have hdw := HDW.out.left hl3
    clear HDW hl3
    have hq1 := hdw.rw.ses n1 HV.out.1
    have hq2 := hq1.quo n2 HV.out.2
    have b1 := hdw.rw.cells.c1
    have f1 := hdw.rw.cells.fr 1
    have b3 := hq1.cells.c3
    have f3 := hq1.cells.fr 3
    have hdw2 := hdw.put hq2
    clear hdw hq1 hq2
    rw [HK1.out] at hdw2
    have HDW := Lib.hid hdw2
    clear hdw2
    go_wp2_with fail
    go_end0
    exact ⟨rfl, _, HDW.out, SlOk.nil w rfl rfl _⟩
  have t1 : ((k : Int) == 1) = false := by rw [beq_eq_false_iff_ne]; omega
  rw [if_neg h1]
  by_cases h2 : k = 2
  · have t2 : ((k : Int) == 2) = true := by rw [beq_iff_eq]; omega
    rw [if_pos h2]
    unfold upP
    have hv1 := hp4 s1
    have hv2 := hp4 (s1.numS 4)
    have HA1 := HN4 s1
    have HA2 := HN4 (s1.numS 4)
    have HH : Hid (∀ (w : World), RAt w base rb ((s1.numS 4).numS 4) → Calls Tryd.prog 61 #[.pointer (some ⟨rb, 0, none⟩)] w (IdP base rb ((s1.numS 4).numS 4) 16 w)) := fun w h => Rdr.hint_any w h
    have HHL : Hid ((((s1.numS 4).numS 4).idV 16).length = 16) := idV_len _ _
    have HLF : Hid (∀ (w : World), RAt w base rb (((s1.numS 4).numS 4).takeS 16 true) → Calls Tryd.prog 56 #[.pointer (some ⟨rb, 0, none⟩)] w (fun e w' => e = .returned (.int .i64 (lf (((s1.numS 4).numS 4).takeS 16 true) : Int)) ∧ Below w.heap.size w w')) := fun w h => Rdr.left_any w h
    have hmn : mn (((s1.numS 4).numS 4).takeS 16 true) = min (lf (((s1.numS 4).numS 4).takeS 16 true)) 600 := rfl
    have HBY : Hid (∀ (w : World), RAt w base rb (((s1.numS 4).numS 4).takeS 16 true) → Calls Tryd.prog 62 #[.pointer (some ⟨rb, 0, none⟩), .int .i64 (mn (((s1.numS 4).numS 4).takeS 16 true) : Int)] w (BytesP base rb (((s1.numS 4).numS 4).takeS 16 true) (mn (((s1.numS 4).numS 4).takeS 16 true) : Int) w)) := fun w h => Rdr.bytes_any w h _ (by rw [hmn]; omega)
    unfold NumP at HA1 HA2
    unfold IdP at HH
    unfold BytesP at HBY
    simp only [show (((16 : Nat) : Int)) = 16 from rfl] at HH
    generalize mn (((s1.numS 4).numS 4).takeS 16 true) = m at *
    generalize lf (((s1.numS 4).numS 4).takeS 16 true) = lfn at *
    generalize (((s1.numS 4).numS 4).takeS 16 true).takeS (m : Int) true = s5 at *
    generalize (((s1.numS 4).numS 4).takeS 16 true).takeB (m : Int) true = B at *
    generalize ((s1.numS 4).numS 4).takeS 16 true = s4 at *
    generalize ((s1.numS 4).numS 4).idV 16 = hh at *
    generalize (s1.numS 4).numS 4 = s3 at *
    generalize (s1.numS 4).numV 4 = n2 at *
    generalize s1.numS 4 = s2 at *
    generalize s1.numV 4 = n1 at *
    have hw1 : IntKind.u32.wrap (n1 : Int) = (n1 : Int) := by rw [IntKind.wrap_u32]; omega
    have hw2 : IntKind.u32.wrap (n2 : Int) = (n2 : Int) := by rw [IntKind.wrap_u32]; omega
    have HK1 : Hid ((k : Int) = 2) := by show _ = _; omega
    have HV : Hid (n1 < 4294967296 ∧ n2 < 4294967296) := ⟨hv1, hv2⟩
    have hmi : (if (600 : Int) < (lfn : Int) then (600 : Int) else (lfn : Int)) = (m : Int) := by split <;> omega
    have hmi2 : (if 600 < lfn then (600 : Int) else (lfn : Int)) = (m : Int) := by split <;> omega
    clear h1 h2 hk hl HN4 HN1 hp4 hp1 hv1 hv2 hmn
    go_enter Tryd.func48, Tryd.ntmps48
    obtain ⟨a0, _, _, _, _, _, _, _, _⟩ := HDW.out.rw.cells
    go_wp2_with fail
    refine (HA1.out _ HDW.out.rd).mono ?_
    rintro e x2 ⟨rfl, hl2⟩
    have hdw := HDW.out.left hl2
    clear HDW hl2 a0
    have HDW := Lib.hid hdw
    clear hdw
    go_wp2_with fail
    refine (HA2.out _ HDW.out.rd).mono ?_
    rintro e x3 ⟨rfl, hl3⟩
    have hdw := HDW.out.left hl3
    clear HDW hl3
    have HDW := Lib.hid hdw
    clear hdw
    go_wp2_with fail
    refine (HH.out _ HDW.out.rd).mono ?_
    rintro e x4 ⟨rfl, hl4⟩
    have hdw := HDW.out.left hl4
    clear HDW hl4
    have hq1 := hdw.rw.ses n1 HV.out.1
    have hq2 := hq1.seq n2 HV.out.2
    have hq3 := hq2.hint hh HHL.out
    have b1 := hdw.rw.cells.c1
    have f1 := hdw.rw.cells.fr 1
    have b2 := hq1.cells.c2
    have f2 := hq1.cells.fr 2
    have HTH := Lib.hid (hq2.thereH 4 (idA hh).size (by rw [idA_size, HHL.out]; omega))
    have hdw2 := hdw.put hq3
    clear hdw hq1 hq2 hq3
    rw [HK1.out] at hdw2
    have HDW := Lib.hid hdw2
    clear hdw2
    go_upto_region 7 with (refine wpList_store_mid rfl 40 _ _ rfl mb 4 (idA hh) rfl rfl HTH.out (sizeH _ HHL.out) (idA_one _) ?_)
    simp only [Act.put]
    generalize ((x4.setCell ⟨mb, 1, none⟩ (.int .u32 (n1 : Int))).setCell ⟨mb, 2, none⟩ (.int .u32 (n2 : Int))).setCells mb 4 (idA hh).toList = x5 at *
    clear b1 f1 b2 f2 HTH
    go_wp2_with fail
    refine (HLF.out _ HDW.out.rd).mono ?_
    rintro e x6 ⟨rfl, hb6⟩
    have hdw := HDW.out.below hb6
    clear HDW hb6
    have HDW := Lib.hid hdw
    clear hdw
    go_wp2_with fail
    refine (HBY.out _ HDW.out.rd).mono ?_
    rintro e x7 ⟨pb, cb, rfl, ho7, hl7⟩
    have hlt := HDW.out.lts
    have hdw := HDW.out.left hl7
    have hq := hdw.rw.blob B pb cb
    have b20 := hdw.rw.cells.c20
    have f20 := hdw.rw.cells.fr 20
    have hdw2 := hdw.put hq
    have ho8 := own_touch ho7 hq.turn (fun i hi e => by have := (ho7.lt i hi).1; omega)
    have HLO : Hid (∀ i, (Value.slice pb B.length cb).ownBlock = some i → w.heap.size < i) := fun i hi => by have := (ho7.lt i hi).1; have := HDW.out.ne; omega
    clear HDW hdw hq hl7 ho7 hlt
    have HDW := Lib.hid hdw2
    have HO8 := Lib.hid ho8
    clear hdw2 ho8
    go_wp2_with fail
    go_end0
    obtain ⟨p', c', e9, hs⟩ := own_sl HO8.out
    cases e9
    exact ⟨rfl, _, HDW.out, hs, Is.nil _ _, fun a ha => by subst ha; exact HLO.out _ (by simp [Value.ownBlock]), fun a h => (nomatch h)⟩
  have t2 : ((k : Int) == 2) = false := by rw [beq_eq_false_iff_ne]; omega
  rw [if_neg h2]
  by_cases h4 : k = 4
  · have t4 : ((k : Int) == 4) = true := by rw [beq_iff_eq]; omega
    rw [if_pos h4]
    have hv1 := hp4 s1
    have HA1 := HN4 s1
    unfold NumP at HA1
    generalize s1.numS 4 = s2 at *
    generalize s1.numV 4 = n1 at *
    have hw1 : IntKind.u32.wrap (n1 : Int) = (n1 : Int) := by rw [IntKind.wrap_u32]; omega
    have HK1 : Hid ((k : Int) = 4) := by show _ = _; omega
    have HV : Hid (n1 < 4294967296) := hv1
    clear h1 h2 h4 hk hl HN4 HN1 hp4 hp1 hv1
    go_enter Tryd.func48, Tryd.ntmps48
    obtain ⟨a0, _, _, _, _, _, _, _, _⟩ := HDW.out.rw.cells
    go_wp2_with fail
    refine (HA1.out _ HDW.out.rd).mono ?_
    rintro e x2 ⟨rfl, hl2⟩
    have hdw := HDW.out.left hl2
    clear HDW hl2 a0
    have hq1 := hdw.rw.ses n1 HV.out
    have b1 := hdw.rw.cells.c1
    have f1 := hdw.rw.cells.fr 1
    have hdw2 := hdw.put hq1
    clear hdw hq1
    rw [HK1.out] at hdw2
    have HDW := Lib.hid hdw2
    clear hdw2
    go_wp2_with fail
    go_end0
    exact ⟨rfl, _, HDW.out, SlOk.nil w rfl rfl _⟩
  have t4 : ((k : Int) == 4) = false := by rw [beq_eq_false_iff_ne]; omega
  rw [if_neg h4]
  by_cases h5 : k = 5
  · have t5 : ((k : Int) == 5) = true := by rw [beq_iff_eq]; omega
    rw [if_pos h5]
    have HLF : Hid (∀ (w : World), RAt w base rb s1 → Calls Tryd.prog 56 #[.pointer (some ⟨rb, 0, none⟩)] w (fun e w' => e = .returned (.int .i64 (lf s1 : Int)) ∧ Below w.heap.size w w')) := fun w h => Rdr.left_any w h
    have hlfb : lf s1 ≤ 1099511627776 := by unfold lf; omega
    have HBY : Hid (∀ (w : World), RAt w base rb s1 → Calls Tryd.prog 62 #[.pointer (some ⟨rb, 0, none⟩), .int .i64 (lf s1 : Int)] w (BytesP base rb s1 (lf s1 : Int) w)) := fun w h => Rdr.bytes_any w h _ (by omega)
    have hbl : (s1.takeB (lf s1 : Int) true).length ≤ 1099511627776 := by
      have := takeB_len s1 (lf s1 : Int) true
      rw [if_pos (by omega)] at this
      omega
    unfold BytesP at HBY
    generalize lf s1 = lfn at *
    generalize s1.takeS (lfn : Int) true = s2 at *
    generalize s1.takeB (lfn : Int) true = B at *
    have hfb : -9223372036854775808 ≤ (decB B).2 ∧ (decB B).2 ≤ 9223372036854775807 := decB_bd B
    have HDO : Hid (∀ p c x, EType x → Bs x p B.length c B → Calls Tryd.prog 14 #[.slice p B.length c] x (Blk.DecO (decB B).1 (decB B).2 x)) := fun p c x he hb => Blk.decode_own p B.length c B x he hb hbl
    have HWB : Hid ((decB B).1.wf) := Blk.dec_wf B
    generalize (decB B).1 = D at *
    generalize (decB B).2 = ev at *
    have HFA : Hid (∀ (w : World), RAt w base rb s2 → Calls Tryd.prog 57 #[.pointer (some ⟨rb, 0, none⟩), .int .i64 ev] w (fun e w' => e = .returned (.tuple #[]) ∧ LeftR base rb (s2.fail ev) w w')) := fun w h => Rdr.fail_any w h ev hfb
    generalize s2.fail ev = s3 at *
    have HK1 : Hid ((k : Int) = 5) := by show _ = _; omega
    clear h1 h2 h4 h5 hk hl HN4 HN1 hp4 hp1 hlfb hbl hfb
    go_enter Tryd.func48, Tryd.ntmps48
    obtain ⟨a0, _, _, _, _, _, _, _, _⟩ := HDW.out.rw.cells
    go_wp2_with fail
    refine (HLF.out _ HDW.out.rd).mono ?_
    rintro e x2 ⟨rfl, hb2⟩
    have hdw := HDW.out.below hb2
    clear HDW hb2 a0
    have HDW := Lib.hid hdw
    clear hdw
    go_wp2_with fail
    refine (HBY.out _ HDW.out.rd).mono ?_
    rintro e x3 ⟨pb, cb, rfl, ho3, hl3⟩
    obtain ⟨p', c', e9, hs⟩ := own_sl ho3
    cases e9
    have hdw := HDW.out.left hl3
    have HS3 := Lib.hid hs
    clear HDW hl3 ho3 hs
    have HDW := Lib.hid hdw
    have HE3 := Lib.hid (HE.out.below hdw.low HE.out.lt)
    clear hdw
    go_wp2_with fail
    refine (HDO.out _ _ _ HE3.out HS3.out).mono ?_
    rintro e x4 ⟨M, q, n, c, rfl, hbk, hloc, hb4⟩
    have hlt := HDW.out.lts
    have hdw := HDW.out.below hb4
    obtain rfl := hbk.ids.count
    have HLO : Hid (∀ a, q = some a → rb < a.block ∧ mb < a.block) := fun a ha => by have := hloc a ha; omega
    have HZ := Lib.hid hbk.size
    have HO := Lib.hid hbk.one
    have HAR := Lib.hid hbk.arr
    have HID := Lib.hid hbk.ids
    clear HDW hb4 hbk hloc hlt HS3 HE3
    have HDW := Lib.hid hdw
    clear hdw
    go_upto_region 12 with ((with_reducible refine wpStoreAt 5 ?_); refine wpList_store_row rfl 26 _ _ rfl x4.heap.size M rfl rfl 26 (blkA zeros zeros none 0 0) (heap_alloc_last _ _) (infoBlk _ HZ.out) (by rw [HZ.out]; rfl) HO.out ?_)
    try simp only [Act.put, List.setIfInBounds_toArray, List.set_cons_zero, List.set_cons_succ]
    have hr5 : ((x4.alloc (.cells (blkA zeros zeros none 0 0) 26)).setRow x4.heap.size M).heap[x4.heap.size]? = some (.cells M 26 (0, 0)) := setRow_heap _ _ _ _ _ _ (heap_alloc_last _ _)
    have hb5 : Below x4.heap.size x4 ((x4.alloc (.cells (blkA zeros zeros none 0 0) 26)).setRow x4.heap.size M) := below_setRow (Below.allocs _ _) (Nat.le_refl _) _
    generalize (x4.alloc (.cells (blkA zeros zeros none 0 0) 26)).setRow x4.heap.size M = x5 at *
    have hdw := HDW.out.below hb5
    have hid5 := HID.out.below hb5
    have HGB : Hid (rb < x4.heap.size ∧ mb < x4.heap.size) := ⟨HDW.out.lts.2, HDW.out.lts.1⟩
    clear HDW HID hb5
    have HDW := Lib.hid hdw
    have HID := Lib.hid hid5
    have HR5 := Lib.hid hr5
    clear hdw hid5 hr5
    generalize x4.heap.size = gb at *
    go_wp2_with fail
    refine (HFA.out _ HDW.out.rd).mono ?_
    rintro e x6 ⟨rfl, hl6⟩
    have hdw := HDW.out.left hl6
    have hid6 := is_touch HID.out hl6.turn (fun a ha _ e => by have := (HLO.out a ha).1; omega)
    have hr6 := hl6.turn.keep HR5.out (by have := HGB.out; omega)
    have hq := hdw.rw.block D HWB.out q c
    have HTH := Lib.hid (hdw.rw.thereH 21 M.size (by rw [HZ.out]; omega))
    rw [← HAR.out] at hq
    have hid7 := is_touch hid6 hq.turn (fun a ha _ e => by have := (HLO.out a ha).2; omega)
    have hdw2 := hdw.put hq
    clear HDW hdw hl6 hid6 HID HR5 hq
    rw [HK1.out] at hdw2
    have HDW := Lib.hid hdw2
    have HID := Lib.hid hid7
    have HR6 := Lib.hid hr6
    clear hdw2 hid7 hr6
    go_wp2_with (first
      | ((with_reducible refine wpAt 78 ?_); refine wpList_load_row rfl 26 _ rfl gb rfl 26 M (0, 0) _ HR6.out Tryd.underlying26 rfl (infoBlk _ HZ.out) ?_)
      | refine wpList_store_mid rfl 26 _ _ rfl mb 21 M rfl rfl HTH.out (infoBlk _ HZ.out) HO.out ?_)
    go_end0
    exact ⟨rfl, _, HDW.out, Sl.nil _ _, HID.out, fun a h => (nomatch h), fun a ha => by have := (HLO.out a ha).2; have := HDW.out.ne; omega⟩
  have t5 : ((k : Int) == 5) = false := by rw [beq_eq_false_iff_ne]; omega
  rw [if_neg h5]
  by_cases h6 : k = 6
  · have t6 : ((k : Int) == 6) = true := by rw [beq_iff_eq]; omega
    rw [if_pos h6]
    have HH : Hid (∀ (w : World), RAt w base rb s1 → Calls Tryd.prog 36 #[.pointer (some ⟨rb, 0, none⟩)] w (IdP base rb s1 32 w)) := fun w h => Rdr.id_any w h
    have HHL : Hid ((s1.idV 32).length = 32) := idV_len _ _
    unfold IdP at HH
    simp only [show (((32 : Nat) : Int)) = 32 from rfl] at HH
    generalize s1.takeS 32 true = s2 at *
    generalize s1.idV 32 = hh at *
    have HK1 : Hid ((k : Int) = 6) := by show _ = _; omega
    clear h1 h2 h4 h5 h6 hk hl HN4 HN1 hp4 hp1
    go_enter Tryd.func48, Tryd.ntmps48
    obtain ⟨a0, _, _, _, _, _, _, _, _⟩ := HDW.out.rw.cells
    go_wp2_with fail
    refine (HH.out _ HDW.out.rd).mono ?_
    rintro e x2 ⟨rfl, hl2⟩
    have hdw := HDW.out.left hl2
    clear HDW hl2 a0
    have hq := hdw.rw.hash hh HHL.out
    have HTH := Lib.hid (hdw.rw.thereH 21 (idA hh).size (by rw [idA_size, HHL.out]; omega))
    have hdw2 : DWR w base rb mb s2 ⟨(k : Int), 0, 0, 0, z16, [], ⟨hh, zeros, []⟩⟩ RS.none _ := hdw.put hq
    clear hdw hq
    rw [HK1.out] at hdw2
    have HDW := Lib.hid hdw2
    clear hdw2
    go_wp2_with (refine wpList_store_mid rfl 23 _ _ rfl mb 21 (idA hh) rfl rfl HTH.out (infoI _ (by rw [idA_size, HHL.out])) (idA_one _) ?_)
    go_end0
    exact ⟨rfl, _, HDW.out, SlOk.nil w rfl rfl _⟩
  have t6 : ((k : Int) == 6) = false := by rw [beq_eq_false_iff_ne]; omega
  rw [if_neg h6]
  have HFA : Hid (∀ (w : World), RAt w base rb s1 → Calls Tryd.prog 57 #[.pointer (some ⟨rb, 0, none⟩), .int .i64 4] w (fun e w' => e = .returned (.tuple #[]) ∧ LeftR base rb (s1.fail 4) w w')) := fun w h => Rdr.fail_any w h 4 (by omega)
  generalize s1.fail 4 = s2 at *
  clear h1 h2 h4 h5 h6 hk hl HN4 HN1 hp4 hp1
  go_enter Tryd.func48, Tryd.ntmps48
  obtain ⟨a0, _, _, _, _, _, _, _, _⟩ := HDW.out.rw.cells
  go_wp2_with fail
  refine (HFA.out _ HDW.out.rd).mono ?_
  rintro e x2 ⟨rfl, hl2⟩
  have hdw := HDW.out.left hl2
  clear HDW hl2 a0
  have HDW := Lib.hid hdw
  clear hdw
  go_wp2_with fail
  go_end0
  exact ⟨rfl, _, HDW.out, SlOk.nil w rfl rfl _⟩
end Go.Proofs.YtdaigkcbmdcbcaaDoor.Rec

namespace Go.Proofs.YtdaigkcbmdcbcaaDoor.Rec
open Go.RowKit Go.Mir Go.Mir.Parts Wr Cod Rdr Blk

def DecP (r : RecD) (ev : Int) (w : World) (e : Ending) (w' : World) : Prop := ∃ t, e = .returned (.tuple #[.agg (recA r t), .int .i64 ev]) ∧ RecAt w' r t ∧ Below w.heap.size w w'
theorem numS_l (s : RD) (n : Int) : (s.numS n).l = s.l := by
  unfold RD.numS RD.takeS
  split
  · rfl
  split
  · rfl
  split <;> rfl
set_option maxRecDepth 100000 in
set_option maxHeartbeats 3200000 in
theorem decode_any (p0 : Option Addr) (n0 c0 : Nat) (l : List UInt8) (w : World) (hE : EType w) (hB : Bs w p0 n0 c0 l) (hn : n0 ≤ 1099511627776) :
    Calls Tryd.prog 23 #[.slice p0 n0 c0] w (DecP (decR l).1 (decR l).2 w) := by
  rw [← dQ_dec]
  have hz := zeroR
  have HE := Lib.hid hE
  have hle := hB.le
  have hmax := hB.max
  have HZB : Hid (Below w.heap.size w (w.alloc (.cells (recA RecD.zero RS.none) 42))) := Below.allocs _ _
  have HZR : Hid ((w.alloc (.cells (recA RecD.zero RS.none) 42)).heap[w.heap.size]? = some (.cells (recA RecD.zero RS.none) 42 (0, 0))) := heap_alloc_last _ _
  have HZS : Hid ((w.alloc (.cells (recA RecD.zero RS.none) 42)).heap.size = w.heap.size + 1) := by show _ = _; simp
  have HBS := Lib.hid hB
  have hll : ((RD.new l).numS 1).l.length ≤ 1099511627776 := by
    have h1 : ((RD.new l).numS 1).l = l := numS_l _ _
    rw [h1, hB.length]; exact hn
  have HNUM : Hid (∀ (w : World) (base rb : Nat), RAt w base rb (RD.new l) → Calls Tryd.prog 47 #[.pointer (some ⟨rb, 0, none⟩), .int .i64 1] w (NumP base rb (RD.new l) 1 w)) := fun w base rb h => Rdr.num_any w h 1 (by omega)
  unfold NumP at HNUM
  have hV : (RD.new l).numV 1 < 256 := by
    have := numV_pow (RD.new l) 1 (by omega)
    simpa using this
  have HRS : Hid (∀ base rb mb x, DWR w base rb mb ((RD.new l).numS 1) ⟨((RD.new l).numV 1 : Int), 0, 0, 0, z16, [], .zero⟩ RS.none x → Calls Tryd.prog 48 #[.pointer (some ⟨rb, 0, none⟩), .pointer (some ⟨mb, 0, none⟩)] x (RestP w base rb mb (dP l).1 (dP l).2)) := fun base rb mb x h => rest_any x h hV hE hll
  unfold RestP at HRS
  have hQ0 : (dP l).2.done ≠ 0 → dQ l = (.zero, (dP l).2.done) := fun h => by unfold dQ; rw [if_pos h]
  have hQ1 : (dP l).2.done = 0 → (dP l).1.right = true → dQ l = ((dP l).1, 0) := fun h h' => by unfold dQ; rw [if_neg (by simp [h]), if_pos h']
  have hQ2 : (dP l).2.done = 0 → ¬ (dP l).1.right = true → dQ l = (.zero, 4) := fun h h' => by unfold dQ; rw [if_neg (by simp [h]), if_neg h']
  have HQ0 := Lib.hid hQ0
  have HQ1 := Lib.hid hQ1
  have HQ2 := Lib.hid hQ2
  clear hB hE hll hQ0 hQ1 hQ2
  generalize dQ l = Q at *
  generalize (dP l).1 = R at *
  generalize (dP l).2 = s2 at *
  generalize (RD.new l).numS 1 = s1 at *
  generalize (RD.new l).numV 1 = V at *
  have hVw : IntKind.i64.wrap (V : Int) = (V : Int) := IntWalk.i64_in _ (by omega)
  have HVB : Hid (V < 256) := hV
  clear hV
  obtain ⟨ev, hev⟩ : ∃ ev, s2.done = ev := ⟨_, rfl⟩
  have HDN := Lib.hid hev
  rw [hev] at HQ0 HQ1 HQ2
  clear hev
  by_cases h0 : ev = 0
  · have z1 : (ev == 0) = true := by rw [beq_iff_eq]; exact h0
    have z2 : (ev != 0) = false := by simp [h0]
    by_cases hr : R.right = true
    · have hq := HQ1.out h0 hr
      have HRT := Lib.hid hr
      clear h0 hr HQ0 HQ1 HQ2
      subst hq
      go_enter Tryd.func23, Tryd.ntmps23
      go_upto_region 1 with fail
      generalize w.alloc (.cells (recA RecD.zero RS.none) 42) = w1 at *
      go_wp2_with fail
      refine (Rdr.new_any w1 _ _ _ l (HBS.out.below HZB.out) (by omega)).mono ?_
      rintro e w2 ⟨rb, rfl, hr2, hb2⟩
      have HR2 := Lib.hid hr2
      have HB2 := Lib.hid hb2
      clear hr2 hb2
      go_wp2_with fail
      refine (HNUM.out _ _ _ HR2.out).mono ?_
      rintro e w3 ⟨rfl, hl3⟩
      have HL3 := Lib.hid hl3
      clear hl3
      go_upto_region 3 with (first
        | ((with_reducible refine wpAt 12 ?_); refine Rdr.wpList_build rfl 42 _ rfl [(0, .int .i64 (V : Int))] rfl _ (build_rk _) ?_)
        | ((with_reducible refine wpStoreAt 5 ?_); refine wpList_store_row rfl 42 _ _ rfl w3.heap.size (recA ⟨(V : Int), 0, 0, 0, z16, [], .zero⟩ RS.none) rfl rfl 42 (recA RecD.zero RS.none) (heap_alloc_last _ _) (sizeR _ rfl) rfl (recA_one _ _) ?_))
      simp only [Act.put]
      have hdw : DWR w w1.heap.size rb w3.heap.size s1 ⟨(V : Int), 0, 0, 0, z16, [], .zero⟩ RS.none ((w3.alloc (.cells (recA RecD.zero RS.none) 42)).setRow w3.heap.size (recA ⟨(V : Int), 0, 0, 0, z16, [], .zero⟩ RS.none)) := by
        have hb4 : Below w3.heap.size w3 ((w3.alloc (.cells (recA RecD.zero RS.none) 42)).setRow w3.heap.size (recA ⟨(V : Int), 0, 0, 0, z16, [], .zero⟩ RS.none)) := below_setRow (Below.allocs _ _) (Nat.le_refl _) _
        have hs1 := HZS.out
        have hs2 := HB2.out.size
        have hs3 := HL3.out.turn.size
        obtain ⟨v, bv, hr⟩ := HR2.out
        have hlow := hr.low
        have hlt := hr.lt
        have hb13 : Below w1.heap.size w1 w3 := HB2.out.trans (HL3.out.turn.below hs2 (fun i hi => by omega))
        have hb14 : Below w1.heap.size w1 _ := hb13.trans (hb4.mono hb13.size)
        exact ⟨HL3.out.there.below hb4, Below.keepOld hb14 HZR.out, setRow_heap _ _ _ _ _ _ (heap_alloc_last _ _), HZB.out.trans (hb14.mono (by omega)), ⟨by omega, by omega, by omega⟩, kind_wf (by have := HVB.out; omega)⟩
      generalize (w3.alloc (.cells (recA RecD.zero RS.none) 42)).setRow w3.heap.size (recA ⟨(V : Int), 0, 0, 0, z16, [], .zero⟩ RS.none) = w4 at *
      generalize w3.heap.size = mb at *
      have HDW := Lib.hid hdw
      clear hdw HL3 HR2 HB2
      go_wp2_with fail
      refine (HRS.out _ _ _ _ HDW.out).mono ?_
      rintro e w5 ⟨rfl, t, hdw, hsl⟩
      clear HDW
      have HDW := Lib.hid hdw
      have HSL := Lib.hid hsl
      clear hdw hsl
      have HE9 := Lib.hid (HE.out.below HDW.out.low HE.out.lt)
      go_wp2_with fail
      refine (Rdr.done_any _ HDW.out.rd HE9.out).mono ?_
      rintro e x9 ⟨rfl, hb9⟩
      rw [HDN.out]
      have hdw9 := HDW.out.below hb9
      have hsl9 := HSL.out.touch (Turns.of_below (S := fun _ => False) hb9) (fun _ _ _ h => h)
      clear hb9 HDW HE9 HSL
      have HDW := Lib.hid hdw9
      have HSL := Lib.hid hsl9
      clear hdw9 hsl9
      go_wp2_with ((with_reducible refine wpAt 20 ?_); refine wpList_unguard (by rfl) ?_; refine wpList_load_row rfl 42 _ rfl mb rfl 42 (recA R t) (0, 0) _ HDW.out.r1 Tryd.underlying42 rfl (sizeR _ (recA_size HDW.out.wf _)) ?_)
      refine (right_any R t _ ⟨HDW.out.wf, HSL.out.blob, HSL.out.ids⟩).mono ?_
      rintro e x10 ⟨rfl, hb10⟩
      rw [HRT.out]
      have hdw10 := HDW.out.below hb10
      have hsl10 := HSL.out.touch (Turns.of_below (S := fun _ => False) hb10) (fun _ _ _ h => h)
      clear hb10 HDW HSL
      have HDW := Lib.hid hdw10
      have HSL := Lib.hid hsl10
      clear hdw10 hsl10
      go_wp2_with (first
        | refine wpList_load_row rfl 42 _ rfl mb rfl 42 (recA R t) (0, 0) _ HDW.out.r1 Tryd.underlying42 rfl (sizeR _ (recA_size HDW.out.wf _)) ?_
        | refine wpList_store_row rfl 42 _ _ rfl w.heap.size (recA R t) rfl rfl 42 (recA RecD.zero RS.none) HDW.out.r0 (sizeR _ (recA_size HDW.out.wf _)) (by rw [recA_size HDW.out.wf]; rfl) (recA_one _ _) ?_)
      have HS := Lib.hid (setRow_heap _ _ _ (recA R t) _ _ HDW.out.r0)
      refine bodyPost_ret (Blk.results_cell_tmp2 rfl _ _ _ _ _ _ _ rfl HS.out Tryd.underlying42 rfl (sizeR _ (recA_size HDW.out.wf _))) rfl ?_
      have hfin := HSL.out.touch (turns_setRow _ w.heap.size (recA R t)) (fun k h1 _ e => by omega)
      exact ⟨t, rfl, ⟨HDW.out.wf, hfin.blob, hfin.ids⟩, below_setRow HDW.out.low (Nat.le_refl _) _⟩
    · have hq := HQ2.out h0 hr
      have HRT : Hid (R.right = false) := by cases h : R.right; rfl; exact absurd h hr
      clear h0 hr HQ0 HQ1 HQ2
      subst hq
      go_enter Tryd.func23, Tryd.ntmps23
      go_upto_region 1 with fail
      generalize w.alloc (.cells (recA RecD.zero RS.none) 42) = w1 at *
      go_wp2_with fail
      refine (Rdr.new_any w1 _ _ _ l (HBS.out.below HZB.out) (by omega)).mono ?_
      rintro e w2 ⟨rb, rfl, hr2, hb2⟩
      have HR2 := Lib.hid hr2
      have HB2 := Lib.hid hb2
      clear hr2 hb2
      go_wp2_with fail
      refine (HNUM.out _ _ _ HR2.out).mono ?_
      rintro e w3 ⟨rfl, hl3⟩
      have HL3 := Lib.hid hl3
      clear hl3
      go_upto_region 3 with (first
        | ((with_reducible refine wpAt 12 ?_); refine Rdr.wpList_build rfl 42 _ rfl [(0, .int .i64 (V : Int))] rfl _ (build_rk _) ?_)
        | ((with_reducible refine wpStoreAt 5 ?_); refine wpList_store_row rfl 42 _ _ rfl w3.heap.size (recA ⟨(V : Int), 0, 0, 0, z16, [], .zero⟩ RS.none) rfl rfl 42 (recA RecD.zero RS.none) (heap_alloc_last _ _) (sizeR _ rfl) rfl (recA_one _ _) ?_))
      simp only [Act.put]
      have hdw : DWR w w1.heap.size rb w3.heap.size s1 ⟨(V : Int), 0, 0, 0, z16, [], .zero⟩ RS.none ((w3.alloc (.cells (recA RecD.zero RS.none) 42)).setRow w3.heap.size (recA ⟨(V : Int), 0, 0, 0, z16, [], .zero⟩ RS.none)) := by
        have hb4 : Below w3.heap.size w3 ((w3.alloc (.cells (recA RecD.zero RS.none) 42)).setRow w3.heap.size (recA ⟨(V : Int), 0, 0, 0, z16, [], .zero⟩ RS.none)) := below_setRow (Below.allocs _ _) (Nat.le_refl _) _
        have hs1 := HZS.out
        have hs2 := HB2.out.size
        have hs3 := HL3.out.turn.size
        obtain ⟨v, bv, hr⟩ := HR2.out
        have hlow := hr.low
        have hlt := hr.lt
        have hb13 : Below w1.heap.size w1 w3 := HB2.out.trans (HL3.out.turn.below hs2 (fun i hi => by omega))
        have hb14 : Below w1.heap.size w1 _ := hb13.trans (hb4.mono hb13.size)
        exact ⟨HL3.out.there.below hb4, Below.keepOld hb14 HZR.out, setRow_heap _ _ _ _ _ _ (heap_alloc_last _ _), HZB.out.trans (hb14.mono (by omega)), ⟨by omega, by omega, by omega⟩, kind_wf (by have := HVB.out; omega)⟩
      generalize (w3.alloc (.cells (recA RecD.zero RS.none) 42)).setRow w3.heap.size (recA ⟨(V : Int), 0, 0, 0, z16, [], .zero⟩ RS.none) = w4 at *
      generalize w3.heap.size = mb at *
      have HDW := Lib.hid hdw
      clear hdw HL3 HR2 HB2
      go_wp2_with fail
      refine (HRS.out _ _ _ _ HDW.out).mono ?_
      rintro e w5 ⟨rfl, t, hdw, hsl⟩
      clear HDW
      have HDW := Lib.hid hdw
      have HSL := Lib.hid hsl
      clear hdw hsl
      have HE9 := Lib.hid (HE.out.below HDW.out.low HE.out.lt)
      go_wp2_with fail
      refine (Rdr.done_any _ HDW.out.rd HE9.out).mono ?_
      rintro e x9 ⟨rfl, hb9⟩
      rw [HDN.out]
      have hdw9 := HDW.out.below hb9
      have hsl9 := HSL.out.touch (Turns.of_below (S := fun _ => False) hb9) (fun _ _ _ h => h)
      clear hb9 HDW HE9 HSL
      have HDW := Lib.hid hdw9
      have HSL := Lib.hid hsl9
      clear hdw9 hsl9
      go_wp2_with ((with_reducible refine wpAt 20 ?_); refine wpList_unguard (by rfl) ?_; refine wpList_load_row rfl 42 _ rfl mb rfl 42 (recA R t) (0, 0) _ HDW.out.r1 Tryd.underlying42 rfl (sizeR _ (recA_size HDW.out.wf _)) ?_)
      refine (right_any R t _ ⟨HDW.out.wf, HSL.out.blob, HSL.out.ids⟩).mono ?_
      rintro e x10 ⟨rfl, hb10⟩
      rw [HRT.out]
      have hdw10 := HDW.out.below hb10
      have hsl10 := HSL.out.touch (Turns.of_below (S := fun _ => False) hb10) (fun _ _ _ h => h)
      clear hb10 HDW HSL
      have HDW := Lib.hid hdw10
      have HSL := Lib.hid hsl10
      clear hdw10 hsl10
      go_wp2_with (first
        | refine Rdr.wpList_build rfl 42 _ rfl [] rfl _ build_r0 ?_
        | refine wpList_store_row rfl 42 _ _ rfl w.heap.size (recA RecD.zero RS.none) rfl rfl 42 (recA RecD.zero RS.none) HDW.out.r0 (sizeR _ rfl) rfl (recA_one _ _) ?_)
      have HS := Lib.hid (setRow_heap _ _ _ (recA RecD.zero RS.none) _ _ HDW.out.r0)
      refine bodyPost_ret (Blk.results_cell_tmp2 rfl _ _ _ _ _ _ _ rfl HS.out Tryd.underlying42 rfl (sizeR _ rfl)) rfl ?_
      exact ⟨RS.none, rfl, zero_at _, below_setRow HDW.out.low (Nat.le_refl _) _⟩
  · have z1 : (ev == 0) = false := by rw [beq_eq_false_iff_ne]; exact h0
    have z2 : (ev != 0) = true := by simp [h0]
    have hq := HQ0.out h0
    clear h0 HQ0 HQ1 HQ2
    subst hq
    go_enter Tryd.func23, Tryd.ntmps23
    go_upto_region 1 with fail
    generalize w.alloc (.cells (recA RecD.zero RS.none) 42) = w1 at *
    go_wp2_with fail
    refine (Rdr.new_any w1 _ _ _ l (HBS.out.below HZB.out) (by omega)).mono ?_
    rintro e w2 ⟨rb, rfl, hr2, hb2⟩
    have HR2 := Lib.hid hr2
    have HB2 := Lib.hid hb2
    clear hr2 hb2
    go_wp2_with fail
    refine (HNUM.out _ _ _ HR2.out).mono ?_
    rintro e w3 ⟨rfl, hl3⟩
    have HL3 := Lib.hid hl3
    clear hl3
    go_upto_region 3 with (first
      | ((with_reducible refine wpAt 12 ?_); refine Rdr.wpList_build rfl 42 _ rfl [(0, .int .i64 (V : Int))] rfl _ (build_rk _) ?_)
      | ((with_reducible refine wpStoreAt 5 ?_); refine wpList_store_row rfl 42 _ _ rfl w3.heap.size (recA ⟨(V : Int), 0, 0, 0, z16, [], .zero⟩ RS.none) rfl rfl 42 (recA RecD.zero RS.none) (heap_alloc_last _ _) (sizeR _ rfl) rfl (recA_one _ _) ?_))
    simp only [Act.put]
    have hdw : DWR w w1.heap.size rb w3.heap.size s1 ⟨(V : Int), 0, 0, 0, z16, [], .zero⟩ RS.none ((w3.alloc (.cells (recA RecD.zero RS.none) 42)).setRow w3.heap.size (recA ⟨(V : Int), 0, 0, 0, z16, [], .zero⟩ RS.none)) := by
      have hb4 : Below w3.heap.size w3 ((w3.alloc (.cells (recA RecD.zero RS.none) 42)).setRow w3.heap.size (recA ⟨(V : Int), 0, 0, 0, z16, [], .zero⟩ RS.none)) := below_setRow (Below.allocs _ _) (Nat.le_refl _) _
      have hs1 := HZS.out
      have hs2 := HB2.out.size
      have hs3 := HL3.out.turn.size
      obtain ⟨v, bv, hr⟩ := HR2.out
      have hlow := hr.low
      have hlt := hr.lt
      have hb13 : Below w1.heap.size w1 w3 := HB2.out.trans (HL3.out.turn.below hs2 (fun i hi => by omega))
      have hb14 : Below w1.heap.size w1 _ := hb13.trans (hb4.mono hb13.size)
      exact ⟨HL3.out.there.below hb4, Below.keepOld hb14 HZR.out, setRow_heap _ _ _ _ _ _ (heap_alloc_last _ _), HZB.out.trans (hb14.mono (by omega)), ⟨by omega, by omega, by omega⟩, kind_wf (by have := HVB.out; omega)⟩
    generalize (w3.alloc (.cells (recA RecD.zero RS.none) 42)).setRow w3.heap.size (recA ⟨(V : Int), 0, 0, 0, z16, [], .zero⟩ RS.none) = w4 at *
    generalize w3.heap.size = mb at *
    have HDW := Lib.hid hdw
    clear hdw HL3 HR2 HB2
    go_wp2_with fail
    refine (HRS.out _ _ _ _ HDW.out).mono ?_
    rintro e w5 ⟨rfl, t, hdw, hsl⟩
    clear HDW
    have HDW := Lib.hid hdw
    have HSL := Lib.hid hsl
    clear hdw hsl
    have HE9 := Lib.hid (HE.out.below HDW.out.low HE.out.lt)
    go_wp2_with fail
    refine (Rdr.done_any _ HDW.out.rd HE9.out).mono ?_
    rintro e x9 ⟨rfl, hb9⟩
    rw [HDN.out]
    have hdw9 := HDW.out.below hb9
    have hsl9 := HSL.out.touch (Turns.of_below (S := fun _ => False) hb9) (fun _ _ _ h => h)
    clear hb9 HDW HE9 HSL
    have HDW := Lib.hid hdw9
    have HSL := Lib.hid hsl9
    clear hdw9 hsl9
    go_wp2_with (first
      | refine Rdr.wpList_build rfl 42 _ rfl [] rfl _ build_r0 ?_
      | refine wpList_store_row rfl 42 _ _ rfl w.heap.size (recA RecD.zero RS.none) rfl rfl 42 (recA RecD.zero RS.none) HDW.out.r0 (sizeR _ rfl) rfl (recA_one _ _) ?_)
    have HS := Lib.hid (setRow_heap _ _ _ (recA RecD.zero RS.none) _ _ HDW.out.r0)
    refine bodyPost_ret (Blk.results_cell_tmp2 rfl _ _ _ _ _ _ _ rfl HS.out Tryd.underlying42 rfl (sizeR _ rfl)) rfl ?_
    exact ⟨RS.none, rfl, zero_at _, below_setRow HDW.out.low (Nat.le_refl _) _⟩
end Go.Proofs.YtdaigkcbmdcbcaaDoor.Rec

namespace Go.Proofs.YtdaigkcbmdcbcaaDoor.Rec
open Go.RowKit Go.Mir Go.Mir.Parts Wr Cod Rdr Blk

theorem mul_few (r : RecD) (h : ¬ r.blob.length ≤ 2000) : (decide (r.blob.length ≤ 2000) && decide (r.blk.txs.length ≤ 100)) = false := by rw [decide_eq_false h]; rfl
set_option maxRecDepth 100000 in
set_option maxHeartbeats 1600000 in
theorem rfew_any (r : RecD) (s : RS) (w : World) (hR : RecAt w r s) :
    Calls Tryd.prog 17 #[.agg (recA r s)] w fun e w' => e = .returned (.bool (decide (r.blob.length ≤ 2000) && decide (r.blk.txs.length ≤ 100))) ∧ Below w.heap.size w w' := by
  have HROW : Hid ((w.alloc (.cells (recA r s) 42)).heap[w.heap.size]? = some (.cells (recA r s) 42 (0, 0))) := heap_alloc_last _ _
  have HB1 := Lib.hid (Below.allocs w (.cells (recA r s) 42))
  have HR1 := Lib.hid (hR.below HB1.out)
  have HW := Lib.hid hR.wf
  have hle := hR.blob.le
  have hmax := hR.blob.max
  clear hR
  have HC := Lib.hid (rec_cells HW.out HROW.out)
  obtain ⟨-, -, -, -, a20, -, -, -, -⟩ := HC.out
  by_cases hb : r.blob.length ≤ 2000
  · have hd : decide ((r.blob.length : Int) ≤ 2000) = true := decide_eq_true (by omega)
    have hd2 : decide (r.blob.length ≤ 2000) = true := decide_eq_true hb
    have HRES : Hid ((decide (r.blob.length ≤ 2000) && decide (r.blk.txs.length ≤ 100)) = decide (r.blk.txs.length ≤ 100)) := by show _ = _; rw [hd2]; rfl
    go_enter Tryd.func17, Tryd.ntmps17
    go_upto_region 1 with fail
    generalize w.alloc (.cells (recA r s) 42) = w1 at *
    go_wp2_with ((with_reducible refine wpAt 9 ?_); refine wpList_unguard (by rfl) ?_; refine wpList_load_mid rfl 26 _ rfl w.heap.size 21 rfl (r.blkA s).toList _ HC.out.rb Tryd.underlying26 rfl (by rw [Array.length_toList, infoBlk _ rfl, rblk_size HW.out]) ?_)
    try rw [Array.toArray_toList]
    refine (Blk.few_any _ _ _ _ _ _ HR1.out.blkAt).mono ?_
    rintro e w2 ⟨rfl, hb2⟩
    have HB2 := Lib.hid (HB1.out.trans (hb2.mono HB1.out.size))
    clear hb2
    go_wp2_with fail
    go_ret
    exact ⟨bret HRES.out.symm, HB2.out⟩
  · have hd : decide ((r.blob.length : Int) ≤ 2000) = false := decide_eq_false (by omega)
    have hd2 : decide (r.blob.length ≤ 2000) = false := decide_eq_false hb
    have HRES := Lib.hid (mul_few r hb)
    go_enter Tryd.func17, Tryd.ntmps17
    go_upto_region 1 with fail
    generalize w.alloc (.cells (recA r s) 42) = w1 at *
    go_wp2_with fail
    go_ret
    exact ⟨bret HRES.out.symm, HB1.out⟩
set_option maxRecDepth 100000 in
set_option maxHeartbeats 1600000 in
theorem alive17_any (w : World) (hE : EType w) :
    Calls Tryd.prog 18 #[] w fun e w' => e = .returned (.bool true) ∧ Below w.heap.size w w' := by
  have HE := Lib.hid hE
  obtain ⟨R, hR⟩ : ∃ R : RecD, R = ⟨4, 3, 0, 0, z16, [], .zero⟩ := ⟨_, rfl⟩
  obtain ⟨D, hD⟩ : ∃ D : RecD, D = ⟨1, 3, 0, 5, z16, [], .zero⟩ := ⟨_, rfl⟩
  have hbu : Tryd.prog.built 42 [(0, .int .i64 4), (1, .int .u32 3)] = some (recA R RS.none) := by rw [hR]; kernel_rfl
  have he1 : R.enc = ([4, 0, 0, 0, 3], 0) := by rw [hR]; kernel_rfl
  have hd1 : decR [1, 0, 0, 0, 3, 5] = (D, 0) := by rw [hD]; kernel_rfl
  have hRA : RecAt w R RS.none := by
    rw [hR]
    exact ⟨⟨by decide, by decide, by decide, by decide, rfl, Blk.zero_wf⟩, Sl.nil _ _, Is.nil _ _⟩
  have H1 := encode_any R RS.none w hRA
  unfold EncP at H1
  rw [he1] at H1
  have H1 := Lib.hid H1
  have H2 := fun w p c hE hB => decode_any p 6 c [1, 0, 0, 0, 3, 5] w hE hB (by omega)
  unfold DecP at H2
  rw [hd1] at H2
  have H2 := Lib.hid H2
  have HQ : Hid (D.quo = 5) := by show _ = _; rw [hD]
  have hz := zeroR
  clear hE he1 hd1 hRA hR hD
  go_enter Tryd.func18, Tryd.ntmps18
  go_wp2_with (refine Rdr.wpList_build rfl 42 _ rfl [(0, .int .i64 4), (1, .int .u32 3)] rfl _ hbu ?_)
  refine H1.out.mono ?_
  rintro e w1 ⟨p1, c1, rfl, hb1, hbl1⟩
  have HO1 : Hid (Bs w1 p1 5 c1 [4, 0, 0, 0, 3]) := hb1
  have HB1 := Lib.hid hbl1
  clear hb1 hbl1
  go_wp2_with fail
  have HA2 : Hid (Below w1.heap.size w1 (w1.alloc (.cells #[.int .u8 1, .int .u8 0, .int .u8 0, .int .u8 0, .int .u8 3, .int .u8 5] 5))) := Below.allocs _ _
  have HBB : Hid (Bs (w1.alloc (.cells #[.int .u8 1, .int .u8 0, .int .u8 0, .int .u8 0, .int .u8 3, .int .u8 5] 5)) (some ⟨w1.heap.size, 0, none⟩) 6 6 [1, 0, 0, 0, 3, 5]) := Bs.made _ _ _ _ _ _ rfl rfl (by omega)
  have HC2 := Lib.hid (HB1.out.trans (HA2.out.mono HB1.out.size))
  have HE2 := Lib.hid (HE.out.below HC2.out HE.out.lt)
  refine (H2.out _ _ _ HE2.out HBB.out).mono ?_
  rintro e w2 ⟨t2, rfl, hm2, hb2⟩
  have HB2 := Lib.hid (HC2.out.trans (hb2.mono HC2.out.size))
  have HO2 := Lib.hid (HO1.out.below (HA2.out.trans (hb2.mono HA2.out.size)))
  have HW2 := Lib.hid hm2.wf
  clear hm2 hb2
  go_upto_region 3 with ((with_reducible refine wpStoreAt 3 ?_); refine wpList_store_row rfl 42 _ _ rfl w2.heap.size (recA D t2) rfl rfl 42 (recA RecD.zero RS.none) (heap_alloc_last _ _) (sizeR _ (recA_size HW2.out _)) (by rw [recA_size HW2.out]; rfl) (recA_one _ _) ?_)
  try simp only [Act.put, List.setIfInBounds_toArray, List.set_cons_zero, List.set_cons_succ]
  have hr3 : ((w2.alloc (.cells (recA RecD.zero RS.none) 42)).setRow w2.heap.size (recA D t2)).heap[w2.heap.size]? = some (.cells (recA D t2) 42 (0, 0)) := setRow_heap _ _ _ _ _ _ (heap_alloc_last _ _)
  have hb3 : Below w2.heap.size w2 ((w2.alloc (.cells (recA RecD.zero RS.none) 42)).setRow w2.heap.size (recA D t2)) := below_setRow (Below.allocs _ _) (Nat.le_refl _) _
  generalize (w2.alloc (.cells (recA RecD.zero RS.none) 42)).setRow w2.heap.size (recA D t2) = w3 at *
  obtain ⟨-, -, -, a3, -, -, -, -, -⟩ := rec_cells HW2.out hr3
  rw [HQ.out] at a3
  have HB3 := Lib.hid (HB2.out.trans (hb3.mono HB2.out.size))
  have hcv := run_conv (P := Tryd.prog) 29 9 5 Tryd.underlying29 Tryd.underlying5 Tryd.underlying9 (HO2.out.below hb3)
  clear hr3 hb3
  go_wp2_with fail
  go_ret
  exact ⟨rfl, HB3.out⟩
end Go.Proofs.YtdaigkcbmdcbcaaDoor.Rec

namespace Go.Proofs.YtdaigkcbmdcbcaaDoor.Blk
open Go.RowKit Go.Mir Go.Mir.Parts Wr Cod

theorem info8b : (Tryd.prog.info? 5).map (fun i => (i.zero, i.size, i.bytes)) = some (some (.int .u8 0), 1, 1) := by kernel_rfl
theorem bs_of_range {x : World} {g o : Nat} {y : List UInt8} (hy : y.length = 32) (h : x.rangeAt g o (idA y).toList) : Bs x (some ⟨g, o, none⟩) 32 32 y :=
  ⟨by rw [bytesV_length, hy], Nat.le_refl _, by omega, fun h => (by cases h), fun a ha j u hu => by
    obtain rfl := Option.some.inj ha
    rw [add_none]
    refine h j u ?_
    rw [idA_toList]; exact hu⟩
theorem own_one (w : World) (base : Nat) (b : UInt8) (t : TypeId) (hb : base ≤ w.heap.size) : (w.alloc (.cells #[.int .u8 (b.toNat : Int)] t)).ownsRow base t 1 (.slice (some ⟨w.heap.size, 0, none⟩) 1 1) 1 (bytesV [b]) :=
  ⟨rfl, .inr ⟨w.heap.size, 1, _, rfl, hb, heap_alloc_last _ _, Nat.le_refl _, by simp [maxLen], rfl, rfl⟩⟩
def BytP (d : BlkD) (w : World) (e : Ending) (w' : World) : Prop := ∃ p c, e = .returned (.slice p (encL d).length c) ∧ w'.ownsRow w.heap.size 5 1 (.slice p (encL d).length c) (encL d).length (bytesV (encL d)) ∧ Below w.heap.size w w'
/-- what is put, so far -/
structure Put (w1 : World) (acc : List UInt8) (v : Value) (n : Nat) (x : World) : Prop where
  own : x.ownsRow w1.heap.size 5 1 v n (bytesV acc)
  low : Below w1.heap.size w1 x
theorem Put.len {w1 x : World} {acc : List UInt8} {v : Value} {n : Nat} (h : Put w1 acc v n x) : n = acc.length := by
  obtain ⟨p, c, rfl, hs⟩ := own_sl h.own
  exact (Bs.length (show Bs x p n c acc from hs)).symm
theorem Put.more {w1 x y : World} {acc b : List UInt8} {v v' : Value} {n n' : Nat} (h : Put w1 acc v n x) (ho : y.ownsRow w1.heap.size 5 1 v' n' (bytesV acc ++ bytesV b)) (hg : x.grownBy y v.ownBlock) : Put w1 (acc ++ b) v' n' y :=
  ⟨by rw [bytesV_append]; exact ho, h.low.grown hg h.low.size (fun k hk => (h.own.lt k hk).1)⟩
theorem Put.below {w1 x y : World} {acc : List UInt8} {v : Value} {n : Nat} (h : Put w1 acc v n x) (hb : Below x.heap.size x y) : Put w1 acc v n y :=
  ⟨own_touch h.own (Turns.of_below (S := fun _ => False) hb) (fun _ _ h => h), h.low.trans (hb.mono h.low.size)⟩
set_option maxRecDepth 100000 in
set_option maxHeartbeats 1600000 in
theorem rbytes_any (M : Array Value) (d : BlkD) (q : Option Addr) (n c : Nat) (w : World) (hM : BlkAt w M d q n c) (hn : n ≤ 32) :
    Calls Tryd.prog 34 #[.agg M] w (BytP d w) := by
  have HM := Lib.hid hM
  have hcap := hM.ids.sl.le
  have hmax := hM.ids.sl.max
  have HC : Hid (d.txs.length = n) := hM.ids.count
  have HH : Hid (d.hash.length = 32 ∧ d.par.length = 32) := ⟨hM.hlen, hM.plen⟩
  have HR0 : Hid ((w.alloc (.cells M 26)).heap[w.heap.size]? = some (.cells M 26 (0, 0))) := heap_alloc_last _ _
  have HB0 : Hid (Below w.heap.size w (w.alloc (.cells M 26))) := Below.allocs _ _
  have HS0 : Hid ((w.alloc (.cells M 26)).heap.size = w.heap.size + 1) := by show _ = _; simp
  have hsl : ∀ w' g o, (Instr.sliceAt 23 (.pointer (some ⟨g, o, none⟩)) none none none).run Tryd.prog w' = .ok (.slice (some ⟨g, o, none⟩) 32 32) w' := fun w' g o => by kernel_rfl
  clear hM
  go_enter Tryd.func34, Tryd.ntmps34
  go_upto_region 1 with fail
  generalize w.alloc (.cells M 26) = w1 at *
  have HRX : Hid (∀ x, Below w1.heap.size w1 x → x.heap[w.heap.size]? = some (.cells M 26 (0, 0))) := fun x hb => Below.keepOld hb HR0.out
  have HPU : Hid (Put w1 [] (.slice (some ⟨w1.heap.size, 0, none⟩) 0 0) 0 (w1.alloc (.cells #[] 5))) := ⟨⟨rfl, .inr ⟨w1.heap.size, 0, _, rfl, Nat.le_refl _, heap_alloc_last _ _, Nat.le_refl _, by simp [maxLen], rfl, rfl⟩⟩, Below.allocs _ _⟩
  have HSX := Lib.hid (bs_of_range HH.out.1 (HM.out.parts (HRX.out _ HPU.out.low)).1)
  skip
  have hlx := HSX.out.le
  have hmx := HSX.out.max
  go_wp2_with (at_builtin; refine wpList_append_nx rfl _ _ 29 rfl (base := w1.heap.size) Tryd.underlying29 info8b rfl (by omega) rfl HPU.out.own rfl HSX.out (bytesV_one _) ⟨by omega, by omega⟩ HPU.out.low.size ?_)
  intro p9 c9 x9 ho9 hg9 _ _
  have hp9 := HPU.out.more ho9 hg9
  clear HPU HSX hg9 hlx hmx ho9
  have HPU := Lib.hid hp9
  clear hp9
  have HSX := Lib.hid (bs_of_range HH.out.2 (HM.out.parts (HRX.out _ HPU.out.low)).2.1)
  skip
  have hlx := HSX.out.le
  have hmx := HSX.out.max
  go_wp2_with (at_builtin; refine wpList_append_nx rfl _ _ 29 rfl (base := w1.heap.size) Tryd.underlying29 info8b rfl (by omega) rfl HPU.out.own rfl HSX.out (bytesV_one _) ⟨by omega, by omega⟩ HPU.out.low.size ?_)
  intro p9 c9 x9 ho9 hg9 _ _
  have hp9 := HPU.out.more ho9 hg9
  clear HPU HSX hg9 hlx hmx ho9
  have HPU := Lib.hid hp9
  clear hp9
  go_upto_region 3 with fail
  have hc64 := (HM.out.parts (HRX.out _ HPU.out.low)).2.2
  have hnw : IntKind.u8.wrap (n : Int) = ((UInt8.ofNat n).toNat : Int) := by
    rw [UInt8.toNat_ofNat', IntKind.wrap_u8]
    omega
  obtain ⟨nb, hnb⟩ : ∃ nb, UInt8.ofNat n = nb := ⟨_, rfl⟩
  rw [hnb] at hnw
  have HNB : Hid (nb = UInt8.ofNat n) := hnb.symm
  clear hnb
  have hp3 := HPU.out.below (Below.allocs x9 (.cells #[.int .u8 (nb.toNat : Int)] 5))
  have HSX : Hid (Bs (x9.alloc (.cells #[.int .u8 (nb.toNat : Int)] 5)) (some ⟨x9.heap.size, 0, none⟩) 1 1 [nb]) := Bs.made _ _ _ _ _ _ rfl rfl (by omega)
  clear HPU
  have HPU := Lib.hid hp3
  clear hp3
  have hlx := HSX.out.le
  have hmx := HSX.out.max
  go_wp2_with (at_builtin; refine wpList_append_nx rfl _ _ 29 rfl (base := w1.heap.size) Tryd.underlying29 info8b rfl (by omega) rfl HPU.out.own rfl HSX.out (bytesV_one _) ⟨by omega, by omega⟩ HPU.out.low.size ?_)
  intro p9 c9 x9 ho9 hg9 _ _
  have hp9 := HPU.out.more ho9 hg9
  clear HPU HSX hg9 hlx hmx ho9
  have HPU := Lib.hid hp9
  clear hp9
  go_upto_region 4 with fail
  clear hc64 hnw
  have HAC : Hid ([] ++ d.hash ++ d.par ++ [nb] = d.hash ++ d.par ++ [nb]) := by show _ = _; simp
  rw [HAC.out] at HPU
  clear HAC
  have HFU : Hid ((d.hash ++ d.par ++ [nb]) ++ (d.txs.take n).flatten = encL d) := by
    show _ = _
    rw [List.take_of_length_le (by rw [HC.out]; omega), HNB.out, ← HC.out]; rfl
  have HAL : Hid ((d.hash ++ d.par ++ [nb]).length = 65) := by show _ = _; simp [HH.out.1, HH.out.2]
  generalize d.hash ++ d.par ++ [nb] = acc at *
  go_wp2_with fail
  go_loopw [3, 4] (fun v j wr => ∃ (k m : Nat) (p' : Option Addr) (c' : Nat), k ≤ n ∧ j = .int .i64 k ∧ v = .slice p' m c' ∧ m = 65 + 32 * k ∧ Put w1 (acc ++ (d.txs.take k).flatten) (.slice p' m c') m wr) (fun _ j _ => n - (intOf j).toNat)
  case atStart => exact ⟨0, _, _, _, by omega, rfl, rfl, rfl, by simpa using HPU.out⟩
  case round =>
    clear HPU
    obtain ⟨k, m, p', c', hk, rfl, rfl, hm, hpu⟩ := hrel
    have HPU := Lib.hid hpu
    have hc64 := (HM.out.parts (HRX.out _ hpu.low)).2.2
    clear hpu
    by_cases hlt : k < n
    · have hd : decide ((k : Int) < (n : Int)) = true := decide_eq_true (by omega)
      obtain ⟨b, o, hq⟩ := HM.out.ids.sl.addr (by omega) (by omega)
      have hlk : k < d.txs.length := by rw [HC.out]; exact hlt
      have HYL : Hid ((d.txs[k]'hlk).length = 32) := HM.out.ids.each _ (List.getElem_mem _)
      have hrg := (HM.out.ids.below (HB0.out.trans (HPU.out.low.mono (by have := HS0.out; omega))))
      have HTK : Hid ((d.txs.take (k + 1)).flatten = (d.txs.take k).flatten ++ d.txs[k]'hlk) := by
        show _ = _
        rw [take_snoc d.txs k hlk, List.flatten_append, List.flatten_cons, List.flatten_nil, List.append_nil]
      subst hq
      have HSX := Lib.hid (bs_of_range HYL.out (hrg.range (by omega) k hlk))
      clear hrg
      generalize d.txs[k]'hlk = y at *
      have HM2 : Hid (m = 65 + 32 * k) := hm
      clear hm
      go_wp2_with (at_builtin; refine wpList_append_nx rfl _ _ 29 rfl (base := w1.heap.size) Tryd.underlying29 info8b rfl (by omega) rfl HPU.out.own rfl HSX.out (bytesV_one _) ⟨by have := HM2.out; omega, by have := HM2.out; omega⟩ HPU.out.low.size ?_)
      intro p9 c9 x9 ho9 hg9 _ _
      have hp9 := HPU.out.more ho9 hg9
      clear HPU HSX hg9 ho9
      have HPU := Lib.hid hp9
      clear hp9
      go_wp2_with fail
      go_roundw
      case rel =>
        refine ⟨k + 1, m + 32, p9, c9, by omega, by go_num, rfl, by have := HM2.out; omega, ?_⟩
        rw [HTK.out, ← List.append_assoc]; exact HPU.out
      case measure => simp [intOf]; omega
    · have hd : decide ((k : Int) < (n : Int)) = false := decide_eq_false (by omega)
      obtain rfl : k = n := by omega
      rw [HFU.out] at HPU
      have HME : Hid (m = (encL d).length) := HPU.out.len
      clear hm
      go_wp2_with fail
      go_ret
      have h1 := HPU.out.own
      have h2 := HPU.out.low
      have hm := HME.out
      subst hm
      exact ⟨p', c', rfl, own_base h1 (fun i hi => by have := (h1.lt i hi).1; have := HS0.out; omega), HB0.out.trans (h2.mono (by have := HS0.out; omega))⟩
set_option maxRecDepth 100000 in
theorem rencode_any (M : Array Value) (d : BlkD) (q : Option Addr) (n c : Nat) (w : World) (hM : BlkAt w M d q n c) :
    Calls Tryd.prog 11 #[.agg M] w (EncP d w) := by
  have HM := Lib.hid hM
  have HMS := Lib.hid hM.size
  have H0 : Hid ((w.alloc (.cells M 26)).heap[w.heap.size]? = some (.cells M 26 (0, 0))) := heap_alloc_last _ _
  have HB0 := Lib.hid (Below.allocs w (.cells M 26))
  have HR := Lib.hid (rRight_any M d q n c _ (hM.below HB0.out))
  have HC : Hid (d.txs.length = n) := hM.ids.count
  clear hM
  by_cases hr : rightB d = true
  · have he : d.enc = (encL d, 0) := by unfold BlkD.enc; rw [if_pos hr]
    have HEE : Hid (∀ p c w', w'.ownsRow w.heap.size 5 1 (.slice p (encL d).length c) (encL d).length (bytesV (encL d)) → Below w.heap.size w w' → EncP d w (.returned (.tuple #[.slice p (encL d).length c, .int .i64 0])) w') := fun p c w' ho hb => by
      unfold EncP
      rw [he]
      obtain ⟨p', c', e9, hs⟩ := own_sl ho
      cases e9
      exact ⟨p, c, rfl, ho, hs, hb⟩
    have HN : Hid (n ≤ 32) := by have := right_le hr; have := HC.out; show _ ≤ _; omega
    rw [hr] at HR
    clear hr he
    go_enter Tryd.func11, Tryd.ntmps11
    go_wp2_with ((with_reducible refine wpAt 4 ?_); refine wpList_load_row rfl 26 _ rfl w.heap.size rfl 26 M (0, 0) _ H0.out Tryd.underlying26 rfl (infoBlk _ HMS.out) ?_)
    generalize w.alloc (.cells M 26) = w0 at *
    refine HR.out.mono ?_
    rintro e w1 ⟨rfl, hb1⟩
    have HR1 := Lib.hid (Below.keepOld hb1 H0.out)
    have HB1 := Lib.hid (HB0.out.trans (hb1.mono HB0.out.size))
    clear hb1
    go_wp2_with ((with_reducible refine wpAt 7 ?_); refine wpList_load_row rfl 26 _ rfl w.heap.size rfl 26 M (0, 0) _ HR1.out Tryd.underlying26 rfl (infoBlk _ HMS.out) ?_)
    refine (rbytes_any M d q n c _ (HM.out.below HB1.out) HN.out).mono ?_
    rintro e w2 ⟨p2, c2, rfl, ho2, hb2⟩
    have HO2 := Lib.hid (own_base (base' := w.heap.size) ho2 (fun k hk => by have := (ho2.lt k hk).1; have := HB1.out.size; omega))
    have HB2 := Lib.hid (HB1.out.trans (hb2.mono HB1.out.size))
    clear ho2 hb2
    go_wp2_with fail
    go_ret2
    exact HEE.out _ _ _ HO2.out HB2.out
  · have hf : rightB d = false := by cases h : rightB d; rfl; exact absurd h hr
    have he : d.enc = ([], 1) := by unfold BlkD.enc; rw [if_neg hr]
    have HEE : Hid (∀ w', Below w.heap.size w w' → EncP d w (.returned (.tuple #[.slice none 0 0, .int .i64 1])) w') := fun w' hb => by
      unfold EncP
      rw [he]
      exact ⟨none, 0, rfl, ⟨rfl, .inl ⟨rfl, rfl⟩⟩, Sl.nil _ _, hb⟩
    rw [hf] at HR
    clear hr he hf
    go_enter Tryd.func11, Tryd.ntmps11
    go_wp2_with ((with_reducible refine wpAt 4 ?_); refine wpList_load_row rfl 26 _ rfl w.heap.size rfl 26 M (0, 0) _ H0.out Tryd.underlying26 rfl (infoBlk _ HMS.out) ?_)
    generalize w.alloc (.cells M 26) = w0 at *
    refine HR.out.mono ?_
    rintro e w1 ⟨rfl, hb1⟩
    have HB1 := Lib.hid (HB0.out.trans (hb1.mono HB0.out.size))
    clear hb1
    go_wp2_with fail
    go_ret2
    exact HEE.out _ HB1.out
end Go.Proofs.YtdaigkcbmdcbcaaDoor.Blk

namespace Go.Proofs.YtdaigkcbmdcbcaaDoor.Rec
open Go.RowKit Go.Mir Go.Mir.Parts Wr Cod Rdr Blk

/-- a record whose slices are its own -/
structure Own (w : World) (base : Nat) (r : RecD) (s : RS) : Prop where
  blob : w.ownsRow base 5 1 (.slice s.p r.blob.length s.c) r.blob.length (bytesV r.blob)
  ids : w.ownsRow base 23 32 (.slice s.q r.blk.txs.length s.d) r.blk.txs.length (r.blk.txs.flatMap bytesV)
theorem Own.touch {S : Nat → Prop} {w w' : World} {base : Nat} {r : RecD} {s : RS} (h : Own w base r s) (ht : Turns S w w') (hS : ∀ k, base ≤ k → k < w.heap.size → ¬ S k) : Own w' base r s :=
  ⟨own_touch h.blob ht (fun k hk => hS k (h.blob.lt k hk).1 (h.blob.lt k hk).2), own_touch h.ids ht (fun k hk => hS k (h.ids.lt k hk).1 (h.ids.lt k hk).2)⟩
theorem Own.below {w w' : World} {base : Nat} {r : RecD} {s : RS} (h : Own w base r s) (hb : Below w.heap.size w w') : Own w' base r s :=
  h.touch (Turns.of_below (S := fun _ => False) hb) (fun _ _ _ h => h)
theorem Own.at {w : World} {base : Nat} {r : RecD} {s : RS} (h : Own w base r s) (hw : r.wf) : RecAt w r s := by
  obtain ⟨p1, c1, e1, h1⟩ := own_sl h.blob
  obtain ⟨p2, c2, e2, h2⟩ := own_sl h.ids
  cases e1
  cases e2
  exact ⟨hw, h1, ⟨h2, hw.blk.each, rfl⟩⟩
def CopyR (r : RecD) (w : World) (e : Ending) (w' : World) : Prop := ∃ s, e = .returned (.agg (recA r s)) ∧ Own w' w.heap.size r s ∧ Below w.heap.size w w'
set_option maxRecDepth 100000 in
set_option maxHeartbeats 1600000 in
theorem copy_any (r : RecD) (s : RS) (w : World) (hR : RecAt w r s) (hl : r.blob.length ≤ 140737488355328) (hn : r.blk.txs.length ≤ 1099511627776) :
    Calls Tryd.prog 26 #[.agg (recA r s)] w (CopyR r w) := by
  have hz := zeroR
  have H2 := Lib.hid (two_allocs w (.cells (recA r s) 42) (.cells (recA RecD.zero RS.none) 42))
  have HR := Lib.hid hR
  have HM := Lib.hid (hR.below H2.out.2.2.2)
  have HW := Lib.hid hR.wf
  have HNN := Lib.hid hn
  clear hR hn
  go_enter Tryd.func26, Tryd.ntmps26
  go_upto_region 1 with fail
  generalize (w.alloc (.cells (recA r s) 42)).alloc (.cells (recA RecD.zero RS.none) 42) = w2 at *
  obtain ⟨-, -, -, -, a20, -, -, -, fz⟩ := rec_cells HW.out H2.out.1
  have hle := HM.out.blob.le
  have hmax := HM.out.blob.max
  have HSZ : Hid (w.heap.size ≤ w2.heap.size) := H2.out.2.2.2.size
  go_wp2_with (at_builtin; refine wpList_append_nx rfl _ _ 29 rfl (base := w2.heap.size) Tryd.underlying29 info8b rfl (by omega) rfl (World.ownsRow_nil _ _ _ _) rfl HM.out.blob (bytesV_one _) ⟨by omega, by omega⟩ (Nat.le_refl _) ?_)
  intro p9 c9 w9 ho9 hg9 _ _
  have ho9 : w9.ownsRow w2.heap.size 5 1 (.slice p9 r.blob.length c9) r.blob.length (bytesV r.blob) := by simpa using ho9
  have hb9 : Below w2.heap.size w2 w9 := (Below.refl _ _).grown hg9 (Nat.le_refl _) (fun k hk => by simp [Value.ownBlock] at hk)
  have e0 := Below.keepOld hb9 H2.out.1
  have e1 := Below.keepOld hb9 H2.out.2.1
  clear a20 fz
  have hrw : RW w9 w.heap.size r s w9 := ⟨e0, HW.out, Turns.refl _ _⟩
  obtain ⟨-, -, -, -, a20, -, -, -, fz⟩ := hrw.cells
  have hq : RW w9 w.heap.size r ⟨p9, c9, s.q, s.d⟩ (w9.setCell ⟨w.heap.size, 20, none⟩ (.slice p9 r.blob.length c9)) := hrw.blob r.blob p9 c9
  have HO : Hid ((w9.setCell ⟨w.heap.size, 20, none⟩ (.slice p9 r.blob.length c9)).ownsRow w2.heap.size 5 1 (.slice p9 r.blob.length c9) r.blob.length (bytesV r.blob)) :=
    own_touch ho9 ((Turns.refl (fun k => k = w.heap.size) w9).setCell (p := ⟨w.heap.size, 20, none⟩) (fun _ => rfl) _) (fun k hk e => by have := (ho9.lt k hk).1; have := H2.out.2.2.1; omega)
  have HB : Hid (Below w.heap.size w (w9.setCell ⟨w.heap.size, 20, none⟩ (.slice p9 r.blob.length c9))) := (H2.out.2.2.2.trans (hb9.mono HSZ.out)).setCell (Nat.le_refl _) _
  have HE1 := Lib.hid (hq.turn.keep e1 (by omega))
  have HQ := Lib.hid hq
  have HS9 : Hid (w2.heap.size ≤ (w9.setCell ⟨w.heap.size, 20, none⟩ (.slice p9 r.blob.length c9)).heap.size) := Nat.le_trans hb9.size hq.turn.size
  clear ho9 hg9 hb9 e0 e1 hrw hq
  go_upto_region 2 with fail
  generalize w9.setCell ⟨w.heap.size, 20, none⟩ (.slice p9 r.blob.length c9) = x10 at *
  clear a20 fz
  have HBA : Hid (BlkAt x10 (r.blkA ⟨p9, c9, s.q, s.d⟩) r.blk s.q r.blk.txs.length s.d) := ⟨rfl, HW.out.blk.hlen, HW.out.blk.plen, (HR.out.below HB.out).ids⟩
  go_wp2_with ((with_reducible refine wpAt 8 ?_); refine wpList_load_mid rfl 26 _ rfl w.heap.size 21 rfl (r.blkA ⟨p9, c9, s.q, s.d⟩).toList _ HQ.out.cells.rb Tryd.underlying26 rfl (by rw [Array.length_toList, infoBlk _ rfl, rblk_size HW.out]) ?_)
  try rw [Array.toArray_toList]
  refine (Blk.copy_any _ _ _ _ _ _ HBA.out HNN.out).mono ?_
  rintro e x11 ⟨q11, d11, rfl, ho11, hb11⟩
  have hrw : RW x11 w.heap.size r ⟨p9, c9, s.q, s.d⟩ x11 := ⟨Below.keepOld hb11 HQ.out.row, HW.out, Turns.refl _ _⟩
  have hq : RW x11 w.heap.size r ⟨p9, c9, q11, d11⟩ _ := hrw.block r.blk HW.out.blk q11 d11
  obtain ⟨M, hM⟩ : ∃ M, M = blkA r.blk.hash r.blk.par q11 r.blk.txs.length d11 := ⟨_, rfl⟩
  have HZ : Hid (M.size = 65) := by show _ = _; rw [hM]; exact blk_size HW.out.blk.hlen HW.out.blk.plen _ _ _
  have HON : Hid (M.all (·.oneCell') = true) := by show _ = _; rw [hM]; exact blk_one _ _ _ _ _
  have HTH := Lib.hid (hrw.thereH 21 M.size (by rw [HZ.out]; omega))
  rw [← hM] at hq ⊢
  have HLT : Hid (w.heap.size + 2 ≤ x10.heap.size) := by show _ ≤ _; have h1 := HS9.out; have h2 := H2.out.2.2.1; omega
  have HE3 := Lib.hid (hq.turn.keep (Below.keepOld hb11 HE1.out) (by omega))
  have hbl : (x11.setCells w.heap.size 21 M.toList).ownsRow w2.heap.size 5 1 (.slice p9 r.blob.length c9) r.blob.length (bytesV r.blob) := own_touch (own_touch HO.out (Turns.of_below (S := fun _ => False) hb11) (fun _ _ h => h)) hq.turn (fun k hk e => by have := (HO.out.lt k hk).1; have := H2.out.2.2.1; omega)
  have hil := own_touch ho11 hq.turn (fun k hk e => by have := (ho11.lt k hk).1; have := HLT.out; omega)
  have HOW : Hid (Own (x11.setCells w.heap.size 21 M.toList) w2.heap.size r ⟨p9, c9, q11, d11⟩) := ⟨hbl, own_base hil (fun k hk => by have := (hil.lt k hk).1; have := HS9.out; omega)⟩
  have HB3 : Hid (Below w.heap.size w (x11.setCells w.heap.size 21 M.toList)) := (HB.out.trans (hb11.mono HB.out.size)).trans (hq.turn.below (HB.out.trans (hb11.mono HB.out.size)).size (fun i hi => by omega))
  have HQ3 := Lib.hid hq
  clear hrw hq hM hbl hil ho11 hb11 HQ HE1 HBA HO HB
  go_upto_region 3 with (refine wpList_store_mid rfl 26 _ _ rfl w.heap.size 21 M rfl rfl HTH.out (infoBlk _ HZ.out) HON.out ?_)
  try simp only [Act.put, List.setIfInBounds_toArray, List.set_cons_zero, List.set_cons_succ]
  clear HTH
  generalize x11.setCells w.heap.size 21 M.toList = x12 at *
  go_wp2_with (first
    | refine wpList_load_row rfl 42 _ rfl w.heap.size rfl 42 (recA r ⟨p9, c9, q11, d11⟩) (0, 0) _ HQ3.out.row Tryd.underlying42 rfl (sizeR _ (recA_size HW.out _)) ?_
    | refine wpList_store_row rfl 42 _ _ rfl (w.heap.size + 1) (recA r ⟨p9, c9, q11, d11⟩) rfl rfl 42 (recA RecD.zero RS.none) HE3.out (sizeR _ (recA_size HW.out _)) (by rw [recA_size HW.out]; rfl) (recA_one _ _) ?_)
  have HS := Lib.hid (setRow_heap _ _ _ (recA r ⟨p9, c9, q11, d11⟩) _ _ HE3.out)
  refine bodyPost_ret (results_cell_row rfl _ _ _ _ _ _ _ rfl HS.out Tryd.underlying42 rfl (sizeR _ (recA_size HW.out _))) rfl ?_
  have hfin := HOW.out.touch (turns_setRow x12 (w.heap.size + 1) (recA r ⟨p9, c9, q11, d11⟩)) (fun k h1 _ e => by have := H2.out.2.2.1; omega)
  exact ⟨_, rfl, ⟨own_base hfin.blob (fun k hk => by have := (hfin.blob.lt k hk).1; have := HSZ.out; omega), own_base hfin.ids (fun k hk => by have := (hfin.ids.lt k hk).1; have := HSZ.out; omega)⟩, below_setRow HB3.out (by omega) _⟩
end Go.Proofs.YtdaigkcbmdcbcaaDoor.Rec

namespace Go.Proofs.YtdaigkcbmdcbcaaDoor.Rec
open Go.RowKit Go.Mir Go.Mir.Parts Wr Cod Rdr Blk

theorem u8_add1 (v : UInt8) : ((v.toNat : Int) + 1) % 256 = ((v + 1).toNat : Int) := by
  rw [UInt8.toNat_add]; simp
theorem u8_wrap1 (v : UInt8) : IntKind.u8.wrap ((v.toNat : Int) + 1) = ((v + 1).toNat : Int) := by
  rw [UInt8.toNat_add]; simp [IntKind.wrap, IntKind.bits, IntKind.signed]
theorem bytesV_set1 (m : List UInt8) (j : Nat) (y : UInt8) : bytesV (m.set j y) = (bytesV m).set j (.int .u8 (y.toNat : Int)) := by simp [bytesV, List.map_set]
theorem flat_bytes (l : List (List UInt8)) : bytesV l.flatten = l.flatMap bytesV := by
  induction l with
  | nil => rfl
  | cons x l ih => rw [List.flatten_cons, bytesV_append, ih]; rfl
theorem own_apart {w : World} {b1 b2 e1 e2 z1 z2 n1 n2 : Nat} {v1 v2 : Value} {x1 x2 : List Value} (h1 : w.ownsRow b1 e1 z1 v1 n1 x1) (h2 : w.ownsRow b2 e2 z2 v2 n2 x2) (hne : e1 ≠ e2) (k : Nat) (hk1 : v1.ownBlock = some k) (hk2 : v2.ownBlock = some k) : False := by
  rcases h1.2 with ⟨rfl, _⟩ | ⟨g, cap, cur, rfl, _, hg, _⟩
  · simp [Value.ownBlock] at hk1
  · simp [Value.ownBlock] at hk1
    subst hk1
    rcases h2.2 with ⟨rfl, _⟩ | ⟨g2, cap2, cur2, rfl, _, hg2, _⟩
    · simp [Value.ownBlock] at hk2
    · simp [Value.ownBlock] at hk2
      subst hk2
      rw [hg] at hg2; cases hg2; exact hne rfl
theorem cell85 {w : World} {g : Nat} {r : RecD} {s : RS} (hw : r.wf) (hr : w.heap[g]? = some (.cells (recA r s) 42 (0, 0))) : w.cell? ⟨g, 85, none⟩ = some (.slice s.q r.blk.txs.length s.d) := by
  refine (rec_cells hw hr).rb 64 _ ?_
  rw [RecD.blkA, blkA_toList, List.getElem?_append_right (by simp [bytesV_length, hw.blk.hlen, hw.blk.plen])]
  simp [bytesV_length, hw.blk.hlen, hw.blk.plen]
/-- both records of the statement, in their boxes -/
structure LC (w0 x : World) (a b : RecD) (s s2 : RS) : Prop where
  r0 : x.heap[w0.heap.size]? = some (.cells (recA a s) 42 (0, 0))
  r1 : x.heap[w0.heap.size + 1]? = some (.cells (recA b s2) 42 (0, 0))
  low : Below w0.heap.size w0 x
theorem LC.next {w0 x y : World} {a b : RecD} {s s2 : RS} (h : LC w0 x a b s s2) (hb : Below x.heap.size x y) : LC w0 y a b s s2 :=
  ⟨Below.keepOld hb h.r0, Below.keepOld hb h.r1, h.low.trans (hb.mono h.low.size)⟩
theorem LC.lt {w0 x : World} {a b : RecD} {s s2 : RS} (h : LC w0 x a b s s2) : w0.heap.size + 1 < x.heap.size := (Array.getElem?_eq_some_iff.1 h.r1).1
theorem LC.turn {w0 x y : World} {a b : RecD} {s s2 : RS} {S : Nat → Prop} (h : LC w0 x a b s s2) (ht : Turns S x y) (hS : ∀ i, S i → w0.heap.size + 2 ≤ i) : LC w0 y a b s s2 :=
  ⟨ht.keep h.r0 (fun e => by have := hS _ e; omega), ht.keep h.r1 (fun e => by have := hS _ e; omega), h.low.trans (ht.below h.low.size (fun i hi => by have := hS i hi; omega))⟩
set_option maxRecDepth 100000 in
set_option maxHeartbeats 6400000 in
theorem law_copies (a b : RecD) (s s2 : RS) (w : World) (hE : EType w) (hA : RecAt w a s) (hB : RecAt w b s2) :
    Calls Tryd.prog 7 #[.agg (recA a s), .agg (recA b s2)] w fun e w' => e = .returned (.bool true) ∧ Below w.heap.size w w' := by
  have H2 := two_allocs w (.cells (recA a s) 42) (.cells (recA b s2) 42)
  have HL2 : Hid (LC w ((w.alloc (.cells (recA a s) 42)).alloc (.cells (recA b s2) 42)) a b s s2) := ⟨H2.1, H2.2.1, H2.2.2.2⟩
  have HA := Lib.hid hA
  have HB := Lib.hid hB
  have HWA := Lib.hid hA.wf
  have HWB := Lib.hid hB.wf
  have HE := Lib.hid hE
  have hz := zeroR
  clear hE hA hB H2
  obtain ⟨fa, hfa⟩ : ∃ fa, (decide (a.blob.length ≤ 2000) && decide (a.blk.txs.length ≤ 100)) = fa := ⟨_, rfl⟩
  obtain ⟨fb, hfb⟩ : ∃ fb, (decide (b.blob.length ≤ 2000) && decide (b.blk.txs.length ≤ 100)) = fb := ⟨_, rfl⟩
  have HFA := Lib.hid hfa
  have HFB := Lib.hid hfb
  clear hfb
  cases fa with
  | false =>
    clear hfa
    go_enter Tryd.func7, Tryd.ntmps7
    go_upto_region 1 with fail
    generalize (w.alloc (.cells (recA a s) 42)).alloc (.cells (recA b s2) 42) = w2 at *
    go_wp2_with ((with_reducible refine wpAt 9 ?_); refine wpList_load_row rfl 42 _ rfl w.heap.size rfl 42 (recA a s) (0, 0) _ HL2.out.r0 Tryd.underlying42 rfl (sizeR _ (recA_size HWA.out _)) ?_)
    refine (rfew_any a s _ (HA.out.below HL2.out.low)).mono ?_
    rintro e w3 ⟨rfl, hb3⟩
    rw [HFA.out]
    have HL3 := Lib.hid (HL2.out.next hb3)
    clear hb3
    have HE2 := Lib.hid (HE.out.below HL3.out.low HE.out.lt)
    go_wp2_with fail
    refine (alive17_any _ HE2.out).mono ?_
    rintro e w9 ⟨rfl, hb9⟩
    have HB9 : Hid (Below w.heap.size w w9) := Below.trans HL3.out.low (hb9.mono (Below.size HL3.out.low))
    clear hb9
    go_wp2_with fail
    go_ret
    exact ⟨rfl, HB9.out⟩
  | true =>
    rw [Bool.and_eq_true, decide_eq_true_eq, decide_eq_true_eq] at hfa
    obtain ⟨hfa1, hfa2⟩ := hfa
    cases fb with
    | false =>
      clear hfa1 hfa2
      go_enter Tryd.func7, Tryd.ntmps7
      go_upto_region 1 with fail
      generalize (w.alloc (.cells (recA a s) 42)).alloc (.cells (recA b s2) 42) = w2 at *
      go_wp2_with ((with_reducible refine wpAt 9 ?_); refine wpList_load_row rfl 42 _ rfl w.heap.size rfl 42 (recA a s) (0, 0) _ HL2.out.r0 Tryd.underlying42 rfl (sizeR _ (recA_size HWA.out _)) ?_)
      refine (rfew_any a s _ (HA.out.below HL2.out.low)).mono ?_
      rintro e w3 ⟨rfl, hb3⟩
      rw [HFA.out]
      have HL3 := Lib.hid (HL2.out.next hb3)
      clear hb3
      go_wp2_with ((with_reducible refine wpAt 13 ?_); refine wpList_unguard (by rfl) ?_; refine wpList_load_row rfl 42 _ rfl (w.heap.size + 1) rfl 42 (recA b s2) (0, 0) _ HL3.out.r1 Tryd.underlying42 rfl (sizeR _ (recA_size HWB.out _)) ?_)
      refine (rfew_any b s2 _ (HB.out.below HL3.out.low)).mono ?_
      rintro e w4 ⟨rfl, hb4⟩
      rw [HFB.out]
      have HL4 := Lib.hid (HL3.out.next hb4)
      clear hb4
      have HE2 := Lib.hid (HE.out.below HL4.out.low HE.out.lt)
      go_wp2_with fail
      refine (alive17_any _ HE2.out).mono ?_
      rintro e w9 ⟨rfl, hb9⟩
      have HB9 : Hid (Below w.heap.size w w9) := Below.trans HL4.out.low (hb9.mono (Below.size HL4.out.low))
      clear hb9
      go_wp2_with fail
      go_ret
      exact ⟨rfl, HB9.out⟩
    | true =>
      skip
      go_enter Tryd.func7, Tryd.ntmps7
      go_upto_region 1 with fail
      generalize (w.alloc (.cells (recA a s) 42)).alloc (.cells (recA b s2) 42) = w2 at *
      go_wp2_with ((with_reducible refine wpAt 9 ?_); refine wpList_load_row rfl 42 _ rfl w.heap.size rfl 42 (recA a s) (0, 0) _ HL2.out.r0 Tryd.underlying42 rfl (sizeR _ (recA_size HWA.out _)) ?_)
      refine (rfew_any a s _ (HA.out.below HL2.out.low)).mono ?_
      rintro e w3 ⟨rfl, hb3⟩
      rw [HFA.out]
      have HL3 := Lib.hid (HL2.out.next hb3)
      clear hb3
      go_wp2_with ((with_reducible refine wpAt 13 ?_); refine wpList_unguard (by rfl) ?_; refine wpList_load_row rfl 42 _ rfl (w.heap.size + 1) rfl 42 (recA b s2) (0, 0) _ HL3.out.r1 Tryd.underlying42 rfl (sizeR _ (recA_size HWB.out _)) ?_)
      refine (rfew_any b s2 _ (HB.out.below HL3.out.low)).mono ?_
      rintro e w4 ⟨rfl, hb4⟩
      rw [HFB.out]
      have HL4 := Lib.hid (HL3.out.next hb4)
      clear hb4
      go_wp2_with (refine wpList_load_row rfl 42 _ rfl w.heap.size rfl 42 (recA a s) (0, 0) _ HL4.out.r0 Tryd.underlying42 rfl (sizeR _ (recA_size HWA.out _)) ?_)
      refine (copy_any a s w4 (HA.out.below HL4.out.low) (by omega) (by omega)).mono ?_
      rintro e w5 ⟨sc, rfl, hoc, hb5⟩
      have HOC := Lib.hid hoc
      have HL5 := Lib.hid (HL4.out.next hb5)
      clear hoc hb5
      go_upto_region 4 with (refine wpList_store_row rfl 42 _ _ rfl w5.heap.size (recA a sc) rfl rfl 42 (recA RecD.zero RS.none) (heap_alloc_last _ _) (sizeR _ (recA_size HWA.out _)) (by rw [recA_size HWA.out]; rfl) (recA_one _ _) ?_)
      try simp only [Act.put, List.setIfInBounds_toArray, List.set_cons_zero, List.set_cons_succ]
      have hr6 : ((w5.alloc (.cells (recA RecD.zero RS.none) 42)).setRow w5.heap.size (recA a sc)).heap[w5.heap.size]? = some (.cells (recA a sc) 42 (0, 0)) := setRow_heap _ _ _ _ _ _ (heap_alloc_last _ _)
      have hb6 : Below w5.heap.size w5 ((w5.alloc (.cells (recA RecD.zero RS.none) 42)).setRow w5.heap.size (recA a sc)) := below_setRow (Below.allocs _ _) (Nat.le_refl _) _
      generalize (w5.alloc (.cells (recA RecD.zero RS.none) 42)).setRow w5.heap.size (recA a sc) = w6 at *
      have HR6 := Lib.hid hr6
      have HL6 := Lib.hid (HL5.out.next hb6)
      have HOC6 := Lib.hid (HOC.out.below hb6)
      clear hr6 hb6
      have HLA : Hid (∀ w', Below w6.heap.size w6 w' → w'.rangeAt w.heap.size 0 (recA a s).toList) := fun w' hb j v hv => by rw [cell_of_row _ _ _ _ _ _ (Below.keepOld hb HL6.out.r0), ← Array.getElem?_toList, Nat.zero_add]; exact hv
      have HLB : Hid (∀ w', Below w6.heap.size w6 w' → w'.rangeAt (w.heap.size + 1) 0 (recA b s2).toList) := fun w' hb j v hv => by rw [cell_of_row _ _ _ _ _ _ (Below.keepOld hb HL6.out.r1), ← Array.getElem?_toList, Nat.zero_add]; exact hv
      have HLC : Hid (∀ w', Below w6.heap.size w6 w' → w'.rangeAt w5.heap.size 0 (recA a sc).toList) := fun w' hb j v hv => by rw [cell_of_row _ _ _ _ _ _ (Below.keepOld hb HR6.out), ← Array.getElem?_toList, Nat.zero_add]; exact hv
      have HMA : Hid (∀ w', Below w6.heap.size w6 w' → RecAt w' a s) := fun w' hb => HA.out.below (HL6.out.next hb).low
      have HMB : Hid (∀ w', Below w6.heap.size w6 w' → RecAt w' b s2) := fun w' hb => HB.out.below (HL6.out.next hb).low
      have HMC : Hid (∀ w', Below w6.heap.size w6 w' → RecAt w' a sc) := fun w' hb => (HOC6.out.below hb).at HWA.out
      refine wp_region_eager [(0, true), (1, true), (3, true), (4, true), (2, false), (5, false), (6, true), (7, true), (8, true), (9, true), (10, false), (11, true), (12, true), (13, true), (14, true), (15, true), (16, false), (17, true), (18, true)] (by kernel_rfl) (by kernel_rfl) (eagerOpen rfl ?_)
      have hy0 : Below w6.heap.size w6 w6.drew := below_drew1 _ _
      repeat (first
        | ((with_reducible refine eagerLoadAt 2 ?_); refine wpEager_load (by rfl) 42 _ rfl w.heap.size 0 rfl (recA a s) _ (fun w' hb => HLA.out w' hb) Tryd.underlying42 rfl (sizeR _ (recA_size HWA.out _)) ?_; (try simp only [Act.put, List.setIfInBounds_toArray, List.set_cons_zero, List.set_cons_succ]); (try refine eagerOpen rfl ?_))
        | ((with_reducible refine eagerLoadAt 3 ?_); refine wpEager_load (by rfl) 42 _ rfl (w.heap.size + 1) 0 rfl (recA b s2) _ (fun w' hb => HLB.out w' hb) Tryd.underlying42 rfl (sizeR _ (recA_size HWB.out _)) ?_; (try simp only [Act.put, List.setIfInBounds_toArray, List.set_cons_zero, List.set_cons_succ]); (try refine eagerOpen rfl ?_))
        | ((with_reducible refine eagerLoadAt 5 ?_); refine wpEager_load (by rfl) 42 _ rfl w5.heap.size 0 rfl (recA a sc) _ (fun w' hb => HLC.out w' hb) Tryd.underlying42 rfl (sizeR _ (recA_size HWA.out _)) ?_; (try simp only [Act.put, List.setIfInBounds_toArray, List.set_cons_zero, List.set_cons_succ]); (try refine eagerOpen rfl ?_))
        | (first | (apply wpEager_take; (· rfl); (· (intro w' hb'; go_simp; try with_reducible rfl)); (try simp only [Act.put, List.setIfInBounds_toArray, List.set_cons_zero, List.set_cons_succ]); (try refine eagerOpen rfl ?_)) | (refine wpEager_skip (by rfl) ?_; (try simp only [Act.put, List.setIfInBounds_toArray, List.set_cons_zero, List.set_cons_succ]); (try refine eagerOpen rfl ?_)) | (refine wpEager_off (by rfl) ?_; (try simp only [Act.put, List.setIfInBounds_toArray, List.set_cons_zero, List.set_cons_succ]); (try refine eagerOpen rfl ?_))))
      (refine wpEager_op (by rfl) (fun K hK => ?_); go_simp; (refine (same_any a b s s2 _ (HMA.out _ hy0) (HMB.out _ hy0)).mono ?_; rintro e y1 ⟨rfl, hb⟩; have hy1 := hy0.trans hb; clear hb); refine Shut.out hK _ _ (by assumption) ?_; clear hK K; (try simp only [Act.put, List.setIfInBounds_toArray, List.set_cons_zero, List.set_cons_succ]); (try refine eagerOpen rfl ?_))
      (refine wpEager_op (by rfl) (fun K hK => ?_); go_simp; (refine (rsame_any a b s s2 _ (HMA.out _ hy1) (HMB.out _ hy1)).mono ?_; rintro e y2 ⟨rfl, hb⟩; have hy2 := hy1.trans (hb.mono hy1.size); clear hb); refine Shut.out hK _ _ (by assumption) ?_; clear hK K; (try simp only [Act.put, List.setIfInBounds_toArray, List.set_cons_zero, List.set_cons_succ]); (try refine eagerOpen rfl ?_))
      generalize a.same b = SAB at *
      repeat (first
        | ((with_reducible refine eagerLoadAt 2 ?_); refine wpEager_load (by rfl) 42 _ rfl w.heap.size 0 rfl (recA a s) _ (fun w' hb => HLA.out w' hb) Tryd.underlying42 rfl (sizeR _ (recA_size HWA.out _)) ?_; (try simp only [Act.put, List.setIfInBounds_toArray, List.set_cons_zero, List.set_cons_succ]); (try refine eagerOpen rfl ?_))
        | ((with_reducible refine eagerLoadAt 3 ?_); refine wpEager_load (by rfl) 42 _ rfl (w.heap.size + 1) 0 rfl (recA b s2) _ (fun w' hb => HLB.out w' hb) Tryd.underlying42 rfl (sizeR _ (recA_size HWB.out _)) ?_; (try simp only [Act.put, List.setIfInBounds_toArray, List.set_cons_zero, List.set_cons_succ]); (try refine eagerOpen rfl ?_))
        | ((with_reducible refine eagerLoadAt 5 ?_); refine wpEager_load (by rfl) 42 _ rfl w5.heap.size 0 rfl (recA a sc) _ (fun w' hb => HLC.out w' hb) Tryd.underlying42 rfl (sizeR _ (recA_size HWA.out _)) ?_; (try simp only [Act.put, List.setIfInBounds_toArray, List.set_cons_zero, List.set_cons_succ]); (try refine eagerOpen rfl ?_))
        | (first | (apply wpEager_take; (· rfl); (· (intro w' hb'; go_simp; try with_reducible rfl)); (try simp only [Act.put, List.setIfInBounds_toArray, List.set_cons_zero, List.set_cons_succ]); (try refine eagerOpen rfl ?_)) | (refine wpEager_skip (by rfl) ?_; (try simp only [Act.put, List.setIfInBounds_toArray, List.set_cons_zero, List.set_cons_succ]); (try refine eagerOpen rfl ?_)) | (refine wpEager_off (by rfl) ?_; (try simp only [Act.put, List.setIfInBounds_toArray, List.set_cons_zero, List.set_cons_succ]); (try refine eagerOpen rfl ?_))))
      (refine wpEager_op (by rfl) (fun K hK => ?_); go_simp; (refine (same_any a a s sc _ (HMA.out _ hy2) (HMC.out _ hy2)).mono ?_; rintro e y3 ⟨rfl, hb⟩; have hy3 := hy2.trans (hb.mono hy2.size); clear hb; rw [same_self]); refine Shut.out hK _ _ (by assumption) ?_; clear hK K; (try simp only [Act.put, List.setIfInBounds_toArray, List.set_cons_zero, List.set_cons_succ]); (try refine eagerOpen rfl ?_))
      repeat (first
        | ((with_reducible refine eagerLoadAt 2 ?_); refine wpEager_load (by rfl) 42 _ rfl w.heap.size 0 rfl (recA a s) _ (fun w' hb => HLA.out w' hb) Tryd.underlying42 rfl (sizeR _ (recA_size HWA.out _)) ?_; (try simp only [Act.put, List.setIfInBounds_toArray, List.set_cons_zero, List.set_cons_succ]); (try refine eagerOpen rfl ?_))
        | ((with_reducible refine eagerLoadAt 3 ?_); refine wpEager_load (by rfl) 42 _ rfl (w.heap.size + 1) 0 rfl (recA b s2) _ (fun w' hb => HLB.out w' hb) Tryd.underlying42 rfl (sizeR _ (recA_size HWB.out _)) ?_; (try simp only [Act.put, List.setIfInBounds_toArray, List.set_cons_zero, List.set_cons_succ]); (try refine eagerOpen rfl ?_))
        | ((with_reducible refine eagerLoadAt 5 ?_); refine wpEager_load (by rfl) 42 _ rfl w5.heap.size 0 rfl (recA a sc) _ (fun w' hb => HLC.out w' hb) Tryd.underlying42 rfl (sizeR _ (recA_size HWA.out _)) ?_; (try simp only [Act.put, List.setIfInBounds_toArray, List.set_cons_zero, List.set_cons_succ]); (try refine eagerOpen rfl ?_))
        | (first | (apply wpEager_take; (· rfl); (· (intro w' hb'; go_simp; try with_reducible rfl)); (try simp only [Act.put, List.setIfInBounds_toArray, List.set_cons_zero, List.set_cons_succ]); (try refine eagerOpen rfl ?_)) | (refine wpEager_skip (by rfl) ?_; (try simp only [Act.put, List.setIfInBounds_toArray, List.set_cons_zero, List.set_cons_succ]); (try refine eagerOpen rfl ?_)) | (refine wpEager_off (by rfl) ?_; (try simp only [Act.put, List.setIfInBounds_toArray, List.set_cons_zero, List.set_cons_succ]); (try refine eagerOpen rfl ?_))))
      (refine wpEager_op (by rfl) (fun K hK => ?_); go_simp; (refine (rsame_any a a s sc _ (HMA.out _ hy3) (HMC.out _ hy3)).mono ?_; rintro e y4 ⟨rfl, hb⟩; have hy4 := hy3.trans (hb.mono hy3.size); clear hb; rw [same_self]); refine Shut.out hK _ _ (by assumption) ?_; clear hK K; (try simp only [Act.put, List.setIfInBounds_toArray, List.set_cons_zero, List.set_cons_succ]); (try refine eagerOpen rfl ?_))
      repeat (first
        | ((with_reducible refine eagerLoadAt 2 ?_); refine wpEager_load (by rfl) 42 _ rfl w.heap.size 0 rfl (recA a s) _ (fun w' hb => HLA.out w' hb) Tryd.underlying42 rfl (sizeR _ (recA_size HWA.out _)) ?_; (try simp only [Act.put, List.setIfInBounds_toArray, List.set_cons_zero, List.set_cons_succ]); (try refine eagerOpen rfl ?_))
        | ((with_reducible refine eagerLoadAt 3 ?_); refine wpEager_load (by rfl) 42 _ rfl (w.heap.size + 1) 0 rfl (recA b s2) _ (fun w' hb => HLB.out w' hb) Tryd.underlying42 rfl (sizeR _ (recA_size HWB.out _)) ?_; (try simp only [Act.put, List.setIfInBounds_toArray, List.set_cons_zero, List.set_cons_succ]); (try refine eagerOpen rfl ?_))
        | ((with_reducible refine eagerLoadAt 5 ?_); refine wpEager_load (by rfl) 42 _ rfl w5.heap.size 0 rfl (recA a sc) _ (fun w' hb => HLC.out w' hb) Tryd.underlying42 rfl (sizeR _ (recA_size HWA.out _)) ?_; (try simp only [Act.put, List.setIfInBounds_toArray, List.set_cons_zero, List.set_cons_succ]); (try refine eagerOpen rfl ?_))
        | (first | (apply wpEager_take; (· rfl); (· (intro w' hb'; go_simp; try with_reducible rfl)); (try simp only [Act.put, List.setIfInBounds_toArray, List.set_cons_zero, List.set_cons_succ]); (try refine eagerOpen rfl ?_)) | (refine wpEager_skip (by rfl) ?_; (try simp only [Act.put, List.setIfInBounds_toArray, List.set_cons_zero, List.set_cons_succ]); (try refine eagerOpen rfl ?_)) | (refine wpEager_off (by rfl) ?_; (try simp only [Act.put, List.setIfInBounds_toArray, List.set_cons_zero, List.set_cons_succ]); (try refine eagerOpen rfl ?_))))
      refine eagerEnd ?_
      have HL7 := Lib.hid (HL6.out.next hy4)
      have HR7 := Lib.hid (Below.keepOld hy4 HR6.out)
      have HOC7 := Lib.hid (HOC6.out.below hy4)
      have HZ56 : Hid (w5.heap.size < y4.heap.size) := (Array.getElem?_eq_some_iff.1 HR7.out).1
      clear hy0 hy1 hy2 hy3 hy4 HLA HLB HLC HMA HMB HMC HOC6 HL6 HR6
      go_wp2_with (refine wpList_load_row rfl 42 _ rfl w.heap.size rfl 42 (recA a s) (0, 0) _ HL7.out.r0 Tryd.underlying42 rfl (sizeR _ (recA_size HWA.out _)) ?_)
      refine (copy_any a s y4 (HA.out.below HL7.out.low) (by omega) (by omega)).mono ?_
      rintro e w8 ⟨sd, rfl, hod, hb8⟩
      have HOD := Lib.hid hod
      have HL8 := Lib.hid (HL7.out.next hb8)
      have HR8 := Lib.hid (Below.keepOld hb8 HR7.out)
      have HOC8 := Lib.hid (HOC7.out.below hb8)
      have HZ78 := Lib.hid hb8.size
      clear hod hb8
      go_upto_region 7 with (refine wpList_store_row rfl 42 _ _ rfl w8.heap.size (recA a sd) rfl rfl 42 (recA RecD.zero RS.none) (heap_alloc_last _ _) (sizeR _ (recA_size HWA.out _)) (by rw [recA_size HWA.out]; rfl) (recA_one _ _) ?_)
      try simp only [Act.put, List.setIfInBounds_toArray, List.set_cons_zero, List.set_cons_succ]
      have hr9 : ((w8.alloc (.cells (recA RecD.zero RS.none) 42)).setRow w8.heap.size (recA a sd)).heap[w8.heap.size]? = some (.cells (recA a sd) 42 (0, 0)) := setRow_heap _ _ _ _ _ _ (heap_alloc_last _ _)
      have hb9 : Below w8.heap.size w8 ((w8.alloc (.cells (recA RecD.zero RS.none) 42)).setRow w8.heap.size (recA a sd)) := below_setRow (Below.allocs _ _) (Nat.le_refl _) _
      generalize (w8.alloc (.cells (recA RecD.zero RS.none) 42)).setRow w8.heap.size (recA a sd) = w9 at *
      have HRD := Lib.hid hr9
      have HL9 := Lib.hid (HL8.out.next hb9)
      have HRC := Lib.hid (Below.keepOld hb9 HR8.out)
      have HOC9 := Lib.hid (HOC8.out.below hb9)
      have HOD9 := Lib.hid (HOD.out.below hb9)
      have HSP : Hid (∀ k, (Value.slice sc.p a.blob.length sc.c).ownBlock = some k → w4.heap.size ≤ k ∧ k < w5.heap.size) := HOC.out.blob.lt
      have HSQ : Hid (∀ k, (Value.slice sc.q a.blk.txs.length sc.d).ownBlock = some k → w4.heap.size ≤ k ∧ k < w5.heap.size) := HOC.out.ids.lt
      have HZ4 : Hid (w.heap.size + 2 ≤ w4.heap.size) := HL4.out.lt
      clear hr9 hb9 HR8 HOC8 HL8 HR7 HOC7 HL7 HL5 HOC
      obtain ⟨-, -, -, -, a20, -, -, -, -⟩ := rec_cells HWA.out HRC.out
      go_wp2_with fail
      clear a20
      go_loopw [7, 44] (fun _ j wr => ∃ (k : Nat) (l : List UInt8), k ≤ a.blob.length ∧ j = .int .i64 k ∧ l.length = a.blob.length ∧ wr.ownsRow w4.heap.size 5 1 (.slice sc.p a.blob.length sc.c) a.blob.length (bytesV l) ∧ Turns (fun i => (Value.slice sc.p a.blob.length sc.c).ownBlock = some i) w9 wr) (fun _ j _ => a.blob.length - (intOf j).toNat)
      case atStart => exact ⟨0, a.blob, by omega, rfl, rfl, HOC9.out.blob, Turns.refl _ _⟩
      case round =>
        obtain ⟨k, l, hk, rfl, hll, hown, htu⟩ := hrel
        have HOWR := Lib.hid hown
        have HTU := Lib.hid htu
        have HLL := Lib.hid hll
        clear hown htu hll
        have hrowc := HTU.out.keep HRC.out (fun e => by have := (HSP.out _ e).2; omega)
        have HROWC := Lib.hid hrowc
        obtain ⟨-, -, -, -, d4, -, -, -, -⟩ := rec_cells HWA.out hrowc
        clear hrowc
        by_cases hlt : k < a.blob.length
        · have hdk : decide ((k : Int) < (a.blob.length : Int)) = true := decide_eq_true (by omega)
          obtain ⟨g, cap, hp9, _, hcap1, hcap2⟩ := own_some HOWR.out (fun e => by have e2 := (Value.slice.inj e).2.1; omega)
          obtain ⟨hp9, -, hp8⟩ := Value.slice.inj hp9
          have HBK := Lib.hid (HSP.out g (by rw [hp9]; rfl))
          rw [hp9] at d4 HOWR
          have hj : k < l.length := by rw [HLL.out]; omega
          have hcell : wr.cell? ⟨g, k, none⟩ = some (.int .u8 ((l[k]'hj).toNat : Int)) := by
            have := HOWR.out.cellAt k (by omega)
            rw [this, bytesV_get _ _ hj]
          have hfz := HOWR.out.frozenAt k
          have HSTO : Hid ((wr.setCell ⟨g, k, none⟩ (.int .u8 ((((l[k]'hj).toNat : Int) + 1) % 256))).ownsRow w4.heap.size 5 1 (.slice sc.p a.blob.length sc.c) a.blob.length (bytesV (l.set k ((l[k]'hj) + 1)))) := by
            rw [u8_add1, bytesV_set1, hp9]
            exact (HOWR.out.stored k _).1
          have HSB : Hid ((Value.slice sc.p a.blob.length sc.c).ownBlock = some g) := by rw [hp9]; rfl
          generalize l[k]'hj = y at *
          have hyl : y.toNat < 256 := y.toNat_lt
          clear hp9 hp8
          go_wp2_with fail
          go_roundw
          case rel => exact ⟨k + 1, _, by omega, by go_num, by rw [List.length_set]; exact HLL.out, HSTO.out, HTU.out.setCell (p := ⟨g, k, none⟩) (fun _ => HSB.out) _⟩
          case measure => simp [intOf]; omega
        · have hdk : decide ((k : Int) < (a.blob.length : Int)) = false := decide_eq_false (by omega)
          have HLR := Lib.hid (HL9.out.turn HTU.out (fun i hi => by have := (HSP.out i hi).1; have := HZ4.out; omega))
          have HRDR := Lib.hid (HTU.out.keep HRD.out (fun e => by have := (HSP.out _ e).2; have := HZ56.out; have := HZ78.out; omega))
          have HODR := Lib.hid (HOD9.out.touch HTU.out (fun i h1 _ e => by have := (HSP.out i e).2; have := HZ56.out; omega))
          have HIDR := Lib.hid (own_touch HOC9.out.ids HTU.out (fun i h1 e => own_apart HOC9.out.blob HOC9.out.ids (by decide) i e h1))
          clear HTU HOWR HLL d4 HOC9 HOD9 HL9 HRD HRC
          have e4 := cell85 HWA.out HROWC.out
          go_wp2_with fail
          clear e4
          obtain ⟨n, hn⟩ : ∃ n, n = a.blk.txs.length := ⟨_, rfl⟩
          rw [← hn] at HIDR HSQ hfa2 ⊢
          have HNN := Lib.hid hn
          obtain ⟨v1, hv1⟩ : ∃ v1, v1 = wr := ⟨_, rfl⟩
          subst hv1
          have HIR : Hid (v1.ownsRow w4.heap.size 23 32 (.slice sc.q n sc.d) n (bytesV a.blk.txs.flatten)) := by
            rw [flat_bytes]; exact HIDR.out
          clear hn HIDR
          go_loopw [8, 59] (fun _ j wr => ∃ (k2 : Nat) (l2 : List UInt8), k2 ≤ n ∧ j = .int .i64 k2 ∧ l2.length = n * 32 ∧ wr.ownsRow w4.heap.size 23 32 (.slice sc.q n sc.d) n (bytesV l2) ∧ Turns (fun i => (Value.slice sc.q n sc.d).ownBlock = some i) v1 wr) (fun _ j _ => n - (intOf j).toNat)
          case atStart => exact ⟨0, a.blk.txs.flatten, by omega, rfl, by have := HIR.out.1; rwa [bytesV_length] at this, HIR.out, Turns.refl _ _⟩
          case round =>
            obtain ⟨k2, l2, hk2, rfl, hll, hown, htu⟩ := hrel
            have HOW := Lib.hid hown
            have HTU := Lib.hid htu
            have HLL := Lib.hid hll
            clear hown htu hll
            have hrowc := HTU.out.keep HROWC.out (fun e => by have := (HSQ.out _ e).2; omega)
            have hcw := cell85 HWA.out hrowc
            rw [← HNN.out] at hcw
            clear hrowc
            by_cases hlt : k2 < n
            · have hd : decide ((k2 : Int) < (n : Int)) = true := decide_eq_true (by omega)
              obtain ⟨g, cap, hp9, _, hcap1, hcap2⟩ := own_some HOW.out (by intro e; have e2 := (Value.slice.inj e).2.1; omega)
              have HSB : Hid ((Value.slice sc.q n sc.d).ownBlock = some g) := by rw [hp9]; rfl
              obtain ⟨hq9, -, hd9⟩ := Value.slice.inj hp9
              have HOW2 := HOW.out
              rw [hp9] at hcw HOW2
              have hj : k2 * 32 < l2.length := by rw [HLL.out]; omega
              have hj2 : k2 * 32 < n * 32 := by omega
              have hcell : wr.cell? ⟨g, k2 * 32, none⟩ = some (.int .u8 ((l2[k2 * 32]'hj).toNat : Int)) := by
                rw [HOW2.cellAt _ hj2, bytesV_get _ _ hj]
              have hfz := HOW2.frozenAt (k2 * 32)
              have hwv := u8_wrap1 (l2[k2 * 32]'hj)
              have HSTO : Hid ((wr.drew.setCell ⟨g, k2 * 32, none⟩ (.int .u8 (((l2[k2 * 32]'hj) + 1).toNat : Int))).ownsRow w4.heap.size 23 32 (.slice sc.q n sc.d) n (bytesV (l2.set (k2 * 32) ((l2[k2 * 32]'hj) + 1)))) := by
                rw [bytesV_set1, hp9]
                exact (HOW2.drew.stored (k2 * 32) _).1
              generalize l2[k2 * 32]'hj = v at *
              have hcd : wr.drew.cell? ⟨g, k2 * 32, none⟩ = some (.int .u8 (v.toNat : Int)) := hcell
              have hfd : wr.drew.frozen? ⟨g, k2 * 32, none⟩ = false := hfz
              have hcwd : wr.drew.cell? ⟨w5.heap.size, 85, none⟩ = some (.slice (some ⟨g, 0, none⟩) n cap) := hcw
              have HTD := Lib.hid HTU.out.drew
              have hk0 : (0 : Int) ≤ (k2 : Int) := by omega
              have hkn : (k2 : Int) < (n : Int) := by omega
              clear hp9 hq9 hd9 HOW2 HOW
              go_wp2_with fail
              refine wp_region_tail 10 (by kernel_rfl) (by kernel_rfl) ?_
              simp only [List.take_succ_cons, List.take_zero, List.drop_succ_cons, List.drop_zero]
              generalize wr.drew = wd at *
              repeat still_step
              refine wpStill_nil ?_
              go_wp2_with fail
              go_roundw
              case rel =>
                rw [show ((v.toNat : Int) + 1) % 256 = ((v + 1).toNat : Int) from hwv]
                exact ⟨k2 + 1, _, by omega, by rw [Int.natCast_add]; rfl, by rw [List.length_set]; exact HLL.out, HSTO.out, HTD.out.setCell (p := ⟨g, k2 * 32, none⟩) (fun _ => HSB.out) _⟩
              case measure => simp only [intOf]; omega
            · have hd : decide ((k2 : Int) < (n : Int)) = false := decide_eq_false (by omega)
              have HLX := Lib.hid (HLR.out.turn HTU.out (fun i hi => by have := (HSQ.out i hi).1; have := HZ4.out; omega))
              have HRX := Lib.hid (HTU.out.keep HRDR.out (fun e => by have := (HSQ.out _ e).2; have := HZ56.out; have := HZ78.out; omega))
              have HOX := Lib.hid (HODR.out.touch HTU.out (fun i h1 _ e => by have := (HSQ.out i e).2; have := HZ56.out; omega))
              go_wp2_with (first
                | ((with_reducible refine wpAt 73 ?_); refine wpList_load_row rfl 42 _ rfl w.heap.size rfl 42 (recA a s) (0, 0) _ HLX.out.r0 Tryd.underlying42 rfl (sizeR _ (recA_size HWA.out _)) ?_)
                | ((with_reducible refine wpAt 74 ?_); refine wpList_load_row rfl 42 _ rfl w8.heap.size rfl 42 (recA a sd) (0, 0) _ HRX.out Tryd.underlying42 rfl (sizeR _ (recA_size HWA.out _)) ?_))
              refine (rsame_any a a s sd _ (HA.out.below HLX.out.low) (HOX.out.at HWA.out)).mono ?_
              rintro e v18 ⟨rfl, hx18⟩
              rw [same_self]
              have HB18 := Lib.hid (HLX.out.low.trans (hx18.mono HLX.out.low.size))
              clear hx18
              skip
              have HE2 := Lib.hid (HE.out.below HB18.out HE.out.lt)
              go_wp2_with fail
              refine (alive17_any _ HE2.out).mono ?_
              rintro e w9 ⟨rfl, hb9⟩
              have HB9 : Hid (Below w.heap.size w w9) := Below.trans HB18.out (hb9.mono (Below.size HB18.out))
              clear hb9
              go_wp2_with fail
              go_ret
              exact ⟨rfl, HB9.out⟩
end Go.Proofs.YtdaigkcbmdcbcaaDoor.Rec

namespace Go.Proofs.YtdaigkcbmdcbcaaDoor.Blk
open Go.ChangeShapes Go.WideShapes Go.ChangeAt Go.RowKit Go.Mir

theorem trod_blk {W : World} {H : Type} {enc : TypeId × Value → H} {base fuel : Nat} {held : Bool} {cs : List Value} {x : DataW H × List MemPlace} (h : DataW.trod enc Tryd.prog W base (fun _ => true) held fuel 26 cs = some x) :
    ∃ d q n c, cs = bytesV d.hash ++ bytesV d.par ++ [Value.slice q n c] ∧ BlkAt W (blkA d.hash d.par q n c) d q n c := by
  obtain ⟨y0, y1, y2, m, rfl, hl, h0, h1, h2⟩ := Deep.trod_struct3 Tryd.underlying26 h
  obtain ⟨zs0, e0, l0, w0⟩ := trod_nums Tryd.underlying23 Tryd.underlying5 (by kernel_rfl) (by kernel_rfl) h0
  obtain ⟨zs1, e1, l1, w1⟩ := trod_nums Tryd.underlying23 Tryd.underlying5 (by kernel_rfl) (by kernel_rfl) h1
  obtain ⟨a0, rfl⟩ := u8_of_list zs0 w0
  obtain ⟨a1, rfl⟩ := u8_of_list zs1 w1
  obtain ⟨q, n, c, ids, e2, hi, _⟩ := trod_is Tryd.underlying24 Tryd.underlying23 Tryd.underlying5 (by kernel_rfl) (by kernel_rfl) (by omega) h2
  have hc0 : Tryd.prog.cellsOf 23 = 32 := by kernel_rfl
  have hc1 : Tryd.prog.cellsOf 24 = 1 := by kernel_rfl
  have hc2 : Tryd.prog.cellsOf 26 = 65 := by kernel_rfl
  simp only [hc0, hc1] at e0 e1 e2
  rw [hc2] at hl
  refine ⟨⟨a0, a1, ids⟩, q, n, c, ?_, rfl, by simpa using l0, by simpa using l1, hi⟩
  have e0' : cs.take 32 = bytesV a0 := by rw [show bytesV a0 = (a0.map (fun b => (b.toNat : Int))).map (Value.int .u8) by simp [bytesV]]; rw [← e0]; simp
  have e1' : (cs.drop 32).take 32 = bytesV a1 := by rw [show bytesV a1 = (a1.map (fun b => (b.toNat : Int))).map (Value.int .u8) by simp [bytesV]]; exact e1
  have e2' : cs.drop 64 = [Value.slice q n c] := by rw [← e2]; rw [List.take_of_length_le (by rw [List.length_drop]; omega)]
  show cs = bytesV a0 ++ bytesV a1 ++ [Value.slice q n c]
  rw [← e0', ← e1', ← e2', List.append_assoc, show cs.drop 64 = (cs.drop 32).drop 32 by rw [List.drop_drop], List.take_append_drop, List.take_append_drop]
set_option maxRecDepth 100000 in
theorem open_blk {W : World} {H : Type} {enc : TypeId × Value → H} {base : Nat} {v : Value} {d : DataW H} {ps : List MemPlace} (hval : Value.okWide Tryd.prog W .any base 26 v) (h : DataW.Trod enc Tryd.prog W 0 (fun _ => true) true 26 v d ps) :
    ∃ M e q n c, v = .agg M ∧ BlkAt W M e q n c := by
  obtain ⟨cs, rfl, _⟩ := okWide_struct Tryd.underlying26 hval
  obtain ⟨fuel, hf⟩ := h
  obtain ⟨e, q, n, c, he, hb⟩ := trod_blk hf
  refine ⟨_, e, q, n, c, ?_, hb⟩
  congr 1
  apply Array.toList_inj.1
  rw [blkA_toList, ← he]; simp [Value.cells]
end Go.Proofs.YtdaigkcbmdcbcaaDoor.Blk

namespace Go.Proofs.YtdaigkcbmdcbcaaDoor.Rec
open Go.ChangeShapes Go.WideShapes Go.ChangeAt Go.RowKit Go.Mir

theorem split7 (cs : List Value) (h : cs.length = 86) : cs = (cs.drop 0).take 1 ++ ((cs.drop 1).take 1 ++ ((cs.drop 2).take 1 ++ ((cs.drop 3).take 1 ++ ((cs.drop 4).take 16 ++ ((cs.drop 20).take 1 ++ (cs.drop 21).take 65))))) := by
  have cut : ∀ k n : Nat, (cs.drop k).take n ++ cs.drop (k + n) = cs.drop k := fun k n => by rw [← List.drop_drop, List.take_append_drop]
  have h20 : (cs.drop 21).take 65 = cs.drop 21 := List.take_of_length_le (by simp [h])
  rw [h20, cut 20 1, cut 4 16, cut 3 1, cut 2 1, cut 1 1, cut 0 1, List.drop_zero]
theorem u32_nat {a : Int} (h : (Lit.int .u32 a).wf = true) : ∃ x : Nat, a = (x : Int) ∧ x < 4294967296 := by
  simp [Lit.wf, IntKind.min, IntKind.max, IntKind.signed, IntKind.bits] at h
  exact ⟨a.toNat, by omega, by omega⟩
set_option maxRecDepth 100000 in
theorem trod_rec {W : World} {H : Type} {enc : TypeId × Value → H} {base fuel : Nat} {held : Bool} {cs : List Value} {x : DataW H × List MemPlace}
    (h : DataW.trod enc Tryd.prog W base (fun _ => true) held fuel 42 cs = some x) : ∃ (r : RecD) (s : RS), cs = recL r s ∧ RecAt W r s := by
  obtain ⟨xs, m, rfl, rfl, hl, hxl, hx⟩ := DataW.trod_struct Tryd.underlying42 h
  have hl' : cs.length = 86 := by rw [hl]; kernel_rfl
  have hxl' : xs.length = 7 := by rw [hxl]; rfl
  match xs, hxl' with
  | [x0, x1, x2, x3, x4, x5, x6], _ =>
    have h0 := hx 0 _ rfl
    have h1 := hx 1 _ rfl
    have h2 := hx 2 _ rfl
    have h3 := hx 3 _ rfl
    have h4 := hx 4 _ rfl
    have h5 := hx 5 _ rfl
    have h6 := hx 6 _ rfl
    obtain ⟨z0, e0, _, w0⟩ := DataW.trod_int Tryd.underlying37 h0
    obtain ⟨z1, e1, _, w1⟩ := DataW.trod_int Tryd.underlying38 h1
    obtain ⟨z2, e2, _, w2⟩ := DataW.trod_int Tryd.underlying38 h2
    obtain ⟨z3, e3, _, w3⟩ := DataW.trod_int Tryd.underlying38 h3
    obtain ⟨z4, e4, hz4, w4⟩ := trod_nums Tryd.underlying40 Tryd.underlying5 rfl rfl h4
    obtain ⟨p5, n5, c5, l5, e5, b5, dl5⟩ := trod_bs Tryd.underlying29 Tryd.underlying5 rfl h5
    obtain ⟨d6, q6, n6, c6, e6, hb6⟩ := Blk.trod_blk h6
    obtain ⟨y4, rfl⟩ := u8_of_list z4 w4
    obtain ⟨s, rfl, hs⟩ := u32_nat w1
    obtain ⟨q, rfl, hq⟩ := u32_nat w2
    obtain ⟨o, rfl, ho⟩ := u32_nat w3
    obtain rfl := b5.length
    obtain rfl := hb6.ids.count
    have hy : y4.length = 16 := by simpa using hz4
    refine ⟨⟨z0, s, q, o, y4, l5, d6⟩, ⟨p5, c5, q6, c6⟩, ?_, ⟨⟨i64_bd w0, hs, hq, ho, hy, hb6.wf⟩, b5, hb6.ids⟩⟩
    have hs := split7 cs hl'
    have e0' : (cs.drop 0).take 1 = [.int .i64 z0] := e0
    have e1' : (cs.drop 1).take 1 = [.int .u32 (s : Int)] := e1
    have e2' : (cs.drop 2).take 1 = [.int .u32 (q : Int)] := e2
    have e3' : (cs.drop 3).take 1 = [.int .u32 (o : Int)] := e3
    have e4' : (cs.drop 4).take 16 = bytesV y4 := by
      refine Eq.trans (show _ = _ from e4) ?_
      simp [bytesV, List.map_map]
    have e5' : (cs.drop 20).take 1 = [.slice p5 l5.length c5] := e5
    have e6' : (cs.drop 21).take 65 = (blkA d6.hash d6.par q6 d6.txs.length c6).toList := by rw [blkA_toList]; exact e6
    rw [e0', e1', e2', e3', e4', e5', e6'] at hs
    rw [hs]
    rfl
set_option maxRecDepth 100000 in
theorem open_rec {W : World} {H : Type} {enc : TypeId × Value → H} {base : Nat} {v : Value} {d : DataW H} {ps : List MemPlace} (hval : Value.okWide Tryd.prog W .any base 42 v) (h : DataW.Trod enc Tryd.prog W 0 (fun _ => true) true 42 v d ps) :
    ∃ r s, v = .agg (recA r s) ∧ RecAt W r s := by
  obtain ⟨cs, rfl, hcs⟩ := okWide_struct Tryd.underlying42 hval
  obtain ⟨fuel, hf⟩ := h
  have hf' : DataW.trod enc Tryd.prog W 0 (fun _ => true) true fuel 42 cs.toList = some (d, ps) := hf
  obtain ⟨r, s, ho, hm⟩ := trod_rec hf'
  refine ⟨r, s, ?_, hm⟩
  have : cs = (recL r s).toArray := by rw [← Array.toArray_toList (xs := cs), ho]
  rw [this]
  rfl
end Go.Proofs.YtdaigkcbmdcbcaaDoor.Rec
