/- PARTS, JOINED: PLAIN PART OF THE LAW VaultOpens: how much a vault that was opened may hold; numbers that came in. Conditions: none. THE CALLS OF A STATEMENT ON VAULTS, as they lie in memory; are there not too many? Conditions: a sum that fits. WHAT THE BOUND OF AN '..UptoSaid' GIVES: sizes of what came in. Conditions: the bound. CALLS OF A STATEMENT ON VAULTS, that came in. Conditions: none. THE LAW OF VAULTS: a Case that came in. Conditions: none. THE REFERENCE OF ROLLS: Open. Conditions: sizes that fit. THE REFERENCE'S VAULTS: a number's bytes; the row. Conditions: none. THE REFERENCE'S VAULTS: a part of the row loaded, and stored. Conditions: none. THE REFERENCE'S VAULTS: Put. Conditions: at most 3000 bytes in a record. PLAIN PART OF THE VAULT LAWS: no call takes more than there is room for. Conditions: none. THE REFERENCE'S VAULTS: Compact. Conditions: at most 2900 bytes in a snapshot. THE REFERENCE'S VAULTS: Open. Conditions: a disk that is up; sizes that fit. -/
import Derived.Test.YtnejjfglkindjaaGreatDoorVo1
import Derived.Test.YtnejjfglkindjaaGreatDoorVo2
import Derived.Test.YtnejjfglkindjaaGreatDoorVo3
import Derived.Test.YtnejjfglkindjaaGreatDoorVo4
import Derived.Test.YtnejjfglkindjaaGreatDoorVo5
import Derived.Test.YtnejjfglkindjaaGreatDoorVo6
import Derived.Test.YtnejjfglkindjaaGreatDoorVo7
import Derived.Test.YtnejjfglkindjaaGreatDoorVo8
import Derived.Test.YtnejjfglkindjaaGreatDoorVo9
import Derived.Test.YtnejjfglkindjaaGreatDoorRows
import Derived.SizedLaws
namespace Go.Proofs.YtnejjfglkindjaaGreatDoor.Vlt
open Go.RowKit Go.Mir Go.Mir.Parts Dk Rol Wr Slt Cut
open Frm (frame scan)
theorem runV_bd : ∀ (bs : List (List UInt8)) (v v' : VS), runV v bs = some v' → v'.body = v.body ∧ v'.after.length ≤ v.after.length + bs.length ∧ ∀ r ∈ v'.after, r ∈ v.after ∨ ∃ b ∈ bs, r.length ≤ b.length
 | [], v, v', h => by
  cases h
  exact ⟨rfl, Nat.le_refl _, fun r hr => .inl hr⟩
 | b :: bs, v, v', h => by
  rw [runV] at h
  cases hs : stepV v b with
  | none => rw [hs] at h; cases h
  | some v1 =>
   rw [hs] at h
   obtain ⟨k1, k2, k3⟩ := runV_bd bs v1 v' h
   unfold stepV at hs
   split at hs
   ·cases hs
   ·split at hs
    ·cases hs
     exact ⟨k1, by rw [List.length_cons]; omega, fun r hr => (k3 r hr).imp id (fun ⟨b, h1, h2⟩ => ⟨b, List.mem_cons_of_mem _ h1, h2⟩)⟩
    ·split at hs
     ·cases hs
      refine ⟨k1, ?_, fun r hr => ?_⟩
      ·have : (v.after ++ [b.drop 8]).length = v.after.length + 1 := by rw [List.length_append]; rfl
       rw [List.length_cons]
       have k2' : v'.after.length ≤ (v.after ++ [b.drop 8]).length + bs.length := k2
       omega
      ·rcases k3 r hr with h1 | ⟨x, h1, h2⟩
       ·rcases List.mem_append.1 h1 with h1 | h1
        ·exact .inl h1
        ·rw [List.mem_singleton] at h1
         subst h1
         exact .inr ⟨b, List.mem_cons_self .., by rw [List.length_drop]; omega⟩
       ·exact .inr ⟨x, List.mem_cons_of_mem _ h1, h2⟩
     ·cases hs
theorem vopF_bd {d : DD} {v : VS} (h : vopF d = some v) (hn : (fD (opnD d 0) 0).now.length ≤ 65536) : v.body.length ≤ 65536 ∧ v.after.length ≤ 65536 ∧ ∀ r ∈ v.after, r.length ≤ 65536 := by
 have hc := scan_count (fD (opnD d 0) 0).now
 have hl := (scan_len _ (fD (opnD d 0) 0).now (Nat.le_refl _)).2.2
 have hb := opn_len d 1 2
 unfold vopF fillV at h
 unfold startV at h
 split at h
 ·obtain ⟨k1, k2, k3⟩ := runV_bd _ _ _ h
  refine ⟨by rw [k1]; exact Nat.zero_le _, Nat.le_trans k2 (by show 0 + _ ≤ _; omega), fun r hr => ?_⟩
  rcases k3 r hr with h1 | ⟨b, h1, h2⟩
  ·cases h1
  ·have := (hl b h1).2
   omega
 ·split at h
  ·cases h
  ·obtain ⟨k1, k2, k3⟩ := runV_bd _ _ _ h
   refine ⟨by rw [k1]; show (List.drop _ _).length ≤ _; rw [List.length_drop]; omega, Nat.le_trans k2 (by show 0 + _ ≤ _; omega), fun r hr => ?_⟩
   rcases k3 r hr with h1 | ⟨b, h1, h2⟩
   ·cases h1
   ·have := (hl b h1).2
    omega
structure Us (w : World) (p : Option Addr) (n c : Nat) (us : List Nat) : Prop where
 sl : Sl w p n c 1 (us.map fun (x : Nat) => Value.int .u64 (x : Int))
 count : us.length = n
 bd : ∀ x ∈ us, x < 18446744073709551616
theorem Us.below {w w' : World} {p : Option Addr} {n c : Nat} {us : List Nat} (h : Us w p n c us) (hb : Below w.heap.size w w') : Us w' p n c us := ⟨h.sl.below hb, h.count, h.bd⟩
theorem Us.at {w : World} {b o n c : Nat} {us : List Nat} (h : Us w (some ⟨b, o, none⟩) n c us) {j : Nat} (hj : j < us.length) : w.cell? ⟨b, o + j, none⟩ = some (.int .u64 ((us[j] : Nat) : Int)) := by
 have := h.sl.cell _ rfl j (.int .u64 ((us[j] : Nat) : Int)) (by rw [List.getElem?_map, List.getElem?_eq_getElem hj]; rfl)
 rwa [add_none] at this
theorem do_up00 {d : DD} {i : Nat} {b : List UInt8} (h : d.down = false ∧ d.fuse = 0) : (doD d i (fD d i) (.put b)).down = false ∧ (doD d i (fD d i) (.put b)).fuse = 0 := do_up0 h.1 h.2
end Go.Proofs.YtnejjfglkindjaaGreatDoor.Vlt
namespace Go.Proofs.YtnejjfglkindjaaGreatDoor.Vlt
open Go.RowKit Go.Mir Go.Mir.Parts
structure VOp where
 kind : Int
 n : Int
 m : Int
 k : Int
 b : List UInt8
def vopA (o : VOp) (pb : Option Addr) (cb : Nat) : Array Value := #[.int .i64 o.kind, .int .i64 o.n, .int .i64 o.m, .int .i64 o.k, .slice pb o.b.length cb]
structure VOpAt (w : World) (cs : List Value) (o : VOp) : Prop where
 form : ∃ pb cb, cs = (vopA o pb cb).toList ∧ Bs w pb o.b.length cb o.b
 kindB : -9223372036854775808 ≤ o.kind ∧ o.kind ≤ 9223372036854775807
 nB : -9223372036854775808 ≤ o.n ∧ o.n ≤ 9223372036854775807
 mB : -9223372036854775808 ≤ o.m ∧ o.m ≤ 9223372036854775807
 kB : -9223372036854775808 ≤ o.k ∧ o.k ≤ 9223372036854775807
theorem VOpAt.below {w w' : World} {cs : List Value} {o : VOp} (h : VOpAt w cs o) (hb : Below w.heap.size w w') : VOpAt w' cs o := by
 obtain ⟨pb, cb, h1, h2⟩ := h.form
 exact ⟨⟨pb, cb, h1, h2.below hb⟩, h.kindB, h.nB, h.mB, h.kB⟩
structure VOps (w : World) (p : Option Addr) (n c : Nat) (os : List VOp) (rows : List (List Value)) : Prop where
 rs : Rs w p n c 5 rows
 count : os.length = n
 each : ∀ (i : Nat) r o, rows[i]? = some r → os[i]? = some o → VOpAt w r o
theorem VOps.below {w w' : World} {p : Option Addr} {n c : Nat} {os : List VOp} {rows : List (List Value)} (h : VOps w p n c os rows) (hb : Below w.heap.size w w') : VOps w' p n c os rows :=
 ⟨h.rs.below hb, h.count, fun i r o h1 h2 => (h.each i r o h1 h2).below hb⟩
theorem VOps.at {w : World} {b o n c : Nat} {os : List VOp} {rows : List (List Value)} (h : VOps w (some ⟨b, o, none⟩) n c os rows) (k : Nat) (hk : k < os.length) : ∃ pb cb, Bs w pb os[k].b.length cb os[k].b ∧ w.rangeAt b (o + k * 5) (vopA os[k] pb cb).toList := by
 have hkr : k < rows.length := by rw [h.rs.count, ← h.count]; exact hk
 obtain ⟨pb, cb, e, h1⟩ := (h.each k _ os[k] (List.getElem?_eq_getElem hkr) (List.getElem?_eq_getElem hk)).form
 refine ⟨pb, cb, h1, ?_⟩
 rw [← e]
 exact h.rs.row k hkr
end Go.Proofs.YtnejjfglkindjaaGreatDoor.Vlt
namespace Go.Proofs.YtnejjfglkindjaaGreatDoor.bulks
open Go.Mir
end Go.Proofs.YtnejjfglkindjaaGreatDoor.bulks
namespace Go.Proofs.YtnejjfglkindjaaGreatDoor.Vlt
open Go.ChangeShapes Go.WideShapes Go.ChangeAt Go.RowKit Go.Mir
end Go.Proofs.YtnejjfglkindjaaGreatDoor.Vlt
namespace Go.Proofs.YtnejjfglkindjaaGreatDoor.Vlt
open Go.ChangeShapes Go.WideShapes Go.ChangeAt Go.RowKit Go.Mir
end Go.Proofs.YtnejjfglkindjaaGreatDoor.Vlt
namespace Go.Proofs.YtnejjfglkindjaaGreatDoor.Rk
open Go.RowKit Go.Mir Go.Mir.Parts Dk Rol
open Frm (frame scan)
open Cut (Ls LsO)
theorem wpList_load_mid_g {P : Program} {ops : Array Oper} {rest : List Oper} {op : Oper} {a : Act} {w : World} {Q : Exit → Act → World → Prop} (hw : Region.wanted op (yielded ops a.tmps) = true) (ty : TypeId) (x : Operand) (ho : op.op = .load ty x)
  (b o : Nat) (hx : a.eval x = .pointer (some ⟨b, o, none⟩)) (M : Array Value) (d : TypeDesc) (hc : w.rangeAt b o M.toList)
  (hu : P.underlying ty = some d) (hd : d.isRow = true) (hi : (P.info? ty).map (·.size) = some M.size)
  (h : wpList P ops Q rest (a.put op.dst (.agg M)) w) : wpList P ops Q (op :: rest) a w :=
 wpList_unguard hw (wpList_load_mid rfl ty x ho b o hx M.toList d hc hu hd (by rw [Array.length_toList]; exact hi) (by rw [Array.toArray_toList]; exact h))
set_option maxRecDepth 100000 in
set_option maxHeartbeats 6400000 in
theorem ropen_any (ts : List RF) (d : DD) (i : Nat) (hi : i < 3) (w : World) (h : RDB w ts d) (hur : usedL d.fs ≤ d.room) (hfew : (fD d i).steps.length + 1 ≤ 2199023255552) :
  Calls Tryz.prog 51 #[.agg (rdA ts d), .int .i64 (i : Int)] w (ROut (opnD d i) (opnE d i) w) := by
 have hz := zeroD
 obtain ⟨q1, q2, q3, q4⟩ := boxes w ts d
 have HROW := Lib.hid q1
 have HZX := Lib.hid q2
 have HLOW := Lib.hid q4
 have HR := Lib.hid (h.below q4)
 have HI := Lib.hid hi
 have HUR := Lib.hid hur
 have HFEW := Lib.hid hfew
 obtain ⟨hc6, _, hc8, hfz⟩ := (RQ.of (base := 0) h q4 (Nat.zero_le _) q1).cells
 have hrm := h.room1.1
 have e1 : ((d.room : Int) == 0) = false := by rw [beq_eq_false_iff_ne]; omega
 have d1 : decide ((i : Int) < 0) = false := decide_eq_false (by omega)
 have d2 : decide ((2 : Int) < (i : Int)) = false := decide_eq_false (by omega)
 have d3 : decide (2 < i) = false := decide_eq_false (by omega)
 have hi3i : (i : Int) < 3 := by omega
 clear q1 q2 q3 q4 h hi hur hfew hrm
 obtain ⟨MD, hMD⟩ : ∃ MD, opnD d i = MD := ⟨_, rfl⟩
 obtain ⟨ME, hME⟩ : ∃ ME, opnE d i = ME := ⟨_, rfl⟩
 rw [hMD, hME]
 unfold opnD at hMD
 unfold opnE at hME
 go_enter Tryz.func51, Tryz.ntmps51
 go_upto_region 1 with fail
 generalize (w.alloc (.cells (rdA ts d) 65)).alloc (.cells zD 65) = w2 at *
 go_upto_region 5 with fail
 clear hc6
 cases hdn : d.down with
 | true =>
  rw [if_pos hdn] at hMD hME
  rw [hdn] at hc8
  clear hdn
  subst MD ME
  go_upto_region 6 with fail
  clear hc8 hfz
  skip
  go_wp2_with (first
   | refine wpList_load_row rfl 65 _ rfl w.heap.size rfl 65 (rdA ts d) (0, 0) _ HROW.out Tryz.underlying65 rfl (infoRD _ (rdA_size HR.out.n3 HR.out.m3)) ?_
   | refine wpList_store_row rfl 65 _ _ rfl (w.heap.size + 1) (rdA ts d) rfl rfl 65 zD HZX.out (infoRD _ (rdA_size HR.out.n3 HR.out.m3)) (by rw [rdA_size HR.out.n3 HR.out.m3]; rfl) (rdA_one HR.out.n3 HR.out.m3) ?_)
  have HS := Lib.hid (setRow_heap _ _ _ (rdA ts d) _ _ HZX.out)
  refine bodyPost_ret (results_cell_tmp2 rfl _ _ _ _ _ _ _ rfl HS.out Tryz.underlying65 rfl (infoRD _ (rdA_size HR.out.n3 HR.out.m3))) rfl ?_
  exact ⟨ts, rfl, HR.out.put HZX.out, below_setRow HLOW.out (by omega) _⟩
 | false =>
  rw [if_neg (by rw [hdn]; decide)] at hMD hME
  rw [hdn] at hc8
  clear hdn
  go_upto_region 7 with fail
  clear hc8 hfz
  unfold mendD at hMD
  unfold mendE at hME
  have hti : i < ts.length := by rw [HR.out.n3]; exact HI.out
  have ht : ts[i]? = some (ts[i]'hti) := List.getElem?_eq_getElem hti
  generalize ts[i]'hti = t at *
  have HT := Lib.hid ht
  have HF := Lib.hid (HR.out.fd HI.out)
  have HRF := Lib.hid (HR.out.each i t _ HT.out HF.out).1.now
  have HNB : Hid ((fD d i).need ≤ 1000000) := by
   obtain ⟨t', f', _, a, _, _, b⟩ := HR.out.at.file i HI.out
   rw [HF.out] at a
   cases a; exact b
  have HRG := Lib.hid (rd_range HR.out.n3 HR.out.m3 HROW.out i HT.out HF.out)
  have HHO := Lib.hid (rholds_any t (fD d i) w2 HRF.out HNB.out)
  have HLE : Hid ((fD d i).now.length ≤ 1000000) := Nat.le_trans HRF.out.ok.le HNB.out
  have HCT : Hid (∀ y m, m ≤ (fD d i).now.length → RDB y ts d → Calls Tryz.prog 103 #[.agg (rdA ts d), .int .i64 (i : Int), .int .i64 (m : Int)] y (ROut (doD d i (fD d i) (.cut m)) (doE d i (fD d i) (.cut m)) y)) := fun y m hm hy => rcut_in ts d i HI.out m hm y hy HUR.out HFEW.out
  clear ht hti
  have HSL : Hid ((scan (fD d i).now).2 ≤ (fD d i).now.length) := Rol.scan_le _
  generalize (fD d i).now = L at *
  go_wp2_with ((with_reducible refine wpAt 27 ?_); refine wpList_load_mid rfl 62 _ rfl w.heap.size (i * 2) rfl (fA t (fD d i)).toList _ HRG.out Tryz.underlying62 rfl (infoFi (fA t (fD d i)) rfl) ?_)
  try rw [Array.toArray_toList]
  refine HHO.out.mono ?_
  rintro e y1 ⟨p5, c5, rfl, ho5, hy1⟩
  have HSC := Lib.hid (Frm.rscanO_any p5 L.length c5 L y1 (Cut.own_bs ho5) HLE.out)
  have hl1 := HLOW.out.trans (hy1.mono HLOW.out.size)
  have hz1 := Below.keepOld hy1 HZX.out
  have hr1 := Below.keepOld hy1 HROW.out
  have hd1 := HR.out.below hy1
  clear HLOW HZX HROW HR hy1 ho5 HRG HHO HRF HT HF
  have HLOW := Lib.hid hl1
  have HZX := Lib.hid hz1
  have HROW := Lib.hid hr1
  have HR := Lib.hid hd1
  clear hl1 hz1 hr1 hd1
  go_upto_region 8 with fail
  go_wp2_with fail
  refine HSC.out.mono ?_
  rintro e y2 ⟨v, rfl, _, hy2⟩
  have hl1 := HLOW.out.trans (hy2.mono HLOW.out.size)
  have hz1 := Below.keepOld hy2 HZX.out
  have hr1 := Below.keepOld hy2 HROW.out
  have hd1 := HR.out.below hy2
  clear HLOW HZX HROW HR hy2 HSC
  have HLOW := Lib.hid hl1
  have HZX := Lib.hid hz1
  have HROW := Lib.hid hr1
  have HR := Lib.hid hd1
  clear hl1 hz1 hr1 hd1
  generalize (scan L).2 = G at *
  by_cases hg : G < L.length
  ·rw [if_pos hg] at hMD hME
   have g1 : decide ((G : Int) < (L.length : Int)) = true := decide_eq_true (by omega)
   have g2 : decide (G < L.length) = true := decide_eq_true hg
   have HCL := Lib.hid (HCT.out y2 G HSL.out HR.out)
   obtain ⟨D1, hD1⟩ : ∃ D1, doD d i (fD d i) (.cut G) = D1 := ⟨_, rfl⟩
   obtain ⟨E1, hE1⟩ : ∃ E1, doE d i (fD d i) (.cut G) = E1 := ⟨_, rfl⟩
   rw [hD1, hE1] at hMD HCL
   rw [hD1, hE1] at hME
   have HMD := Lib.hid hMD.symm
   have HME := Lib.hid hME.symm
   clear hD1 hE1 hMD hME HCT hg
   go_upto_region 11 with fail
   go_wp2_with (refine wpList_load_row rfl 65 _ rfl w.heap.size rfl 65 (rdA ts d) (0, 0) _ HROW.out Tryz.underlying65 rfl (infoRD _ (rdA_size HR.out.n3 HR.out.m3)) ?_)
   refine HCL.out.mono ?_
   rintro e y3 ⟨TS, rfl, hrd, hy3⟩
   have HLY := Lib.hid (HLOW.out.trans (hy3.mono HLOW.out.size))
   have HZY := Lib.hid (Below.keepOld hy3 HZX.out)
   have HRY := Lib.hid (Below.keepOld hy3 HROW.out)
   have HRD := Lib.hid hrd
   have HN3 := Lib.hid HR.out.n3
   have HM3 := Lib.hid HR.out.m3
   clear HLOW HZX HROW HR hy3 hrd HCL
   go_upto_region 12 with (refine wpList_store_row rfl 65 _ _ rfl w.heap.size (rdA TS D1) rfl rfl 65 (rdA ts d) HRY.out (infoRD _ (rdA_size HRD.out.n3 HRD.out.m3)) (by rw [rdA_size HRD.out.n3 HRD.out.m3, rdA_size HN3.out HM3.out]) (rdA_one HRD.out.n3 HRD.out.m3) ?_)
   try simp only [Act.put, zA, zB, zC]
   have HR := Lib.hid (HRD.out.put (A := rdA TS D1) HRY.out)
   have HROW := Lib.hid (setRow_heap _ _ _ (rdA TS D1) _ _ HRY.out)
   have HZX : Hid ((y3.setRow w.heap.size (rdA TS D1)).heap[w.heap.size + 1]? = some (.cells zD 65 (0, 0))) := by show _ = _; rw [setRow_other _ _ _ _ (by omega)]; exact HZY.out
   have HLOW : Hid (Below w.heap.size w (y3.setRow w.heap.size (rdA TS D1))) := below_setRow HLY.out (Nat.le_refl _) _
   clear HRY HZY HLY HRD HN3 HM3
   generalize y3.setRow w.heap.size (rdA TS D1) = w7 at *
   skip
   by_cases he : E1 = 0
   ·rw [if_pos he] at HME HMD
    have hb0 : (E1 == 0) = true := by rw [he]; rfl
    subst he
    skip
    have hti : i < TS.length := by rw [HR.out.n3]; exact HI.out
    have ht : TS[i]? = some (TS[i]'hti) := List.getElem?_eq_getElem hti
    generalize TS[i]'hti = tt at *
    have HT := Lib.hid ht
    have HF := Lib.hid (HR.out.fd HI.out)
    have HRG := Lib.hid (rd_range HR.out.n3 HR.out.m3 HROW.out i HT.out HF.out)
    have HUN := Lib.hid (runits_any tt (fD D1 i) w7 (HR.out.each i tt _ HT.out HF.out).1.now)
    clear ht hti
    have HEN : Hid (MD = (if unitsAll (fD D1 i).steps = 0 then D1 else syncD D1 i (fD D1 i)) ∧ ME = (if unitsAll (fD D1 i).steps = 0 then 0 else syncE D1)) := ⟨HMD.out, HME.out⟩
    clear HMD HME
    by_cases hu : unitsAll (fD D1 i).steps = 0
    ·obtain ⟨f1, f2⟩ := HEN.out
     rw [if_pos hu] at f1 f2
     rw [hu] at HUN
     clear HEN hu
     subst MD ME
     go_upto_region 12 with fail
     go_wp2_with ((with_reducible refine wpAt 51 ?_); refine wpList_load_mid_g rfl 62 _ rfl w.heap.size (i * 2) rfl (fA tt (fD D1 i)) _ HRG.out Tryz.underlying62 rfl (infoFi (fA tt (fD D1 i)) rfl) ?_)
     try rw [Array.toArray_toList]
     refine HUN.out.mono ?_
     rintro e y1 ⟨rfl, hy1⟩
     have hl1 := HLOW.out.trans (hy1.mono HLOW.out.size)
     have hz1 := Below.keepOld hy1 HZX.out
     have hr1 := Below.keepOld hy1 HROW.out
     have hd1 := HR.out.below hy1
     clear HLOW HZX HROW HR hy1 HUN HRG
     have HLOW := Lib.hid hl1
     have HZX := Lib.hid hz1
     have HROW := Lib.hid hr1
     have HR := Lib.hid hd1
     clear hl1 hz1 hr1 hd1
     have hun1 : decide ((0 : Int) < ((0 : Nat) : Int)) = false := by decide
     have hun2 : decide ((0 : Nat) < 0) = false := by decide
     go_upto_region 14 with fail
     skip
     go_wp2_with (first
      | refine wpList_load_row rfl 65 _ rfl w.heap.size rfl 65 (rdA TS D1) (0, 0) _ HROW.out Tryz.underlying65 rfl (infoRD _ (rdA_size HR.out.n3 HR.out.m3)) ?_
      | refine wpList_store_row rfl 65 _ _ rfl (w.heap.size + 1) (rdA TS D1) rfl rfl 65 zD HZX.out (infoRD _ (rdA_size HR.out.n3 HR.out.m3)) (by rw [rdA_size HR.out.n3 HR.out.m3]; rfl) (rdA_one HR.out.n3 HR.out.m3) ?_)
     have HS := Lib.hid (setRow_heap _ _ _ (rdA TS D1) _ _ HZX.out)
     refine bodyPost_ret (results_cell_tmp2 rfl _ _ _ _ _ _ _ rfl HS.out Tryz.underlying65 rfl (infoRD _ (rdA_size HR.out.n3 HR.out.m3))) rfl ?_
     exact ⟨TS, rfl, HR.out.put HZX.out, below_setRow HLOW.out (by omega) _⟩
    ·obtain ⟨f1, f2⟩ := HEN.out
     rw [if_neg hu] at f1 f2
     have hun1 : decide ((0 : Int) < ((unitsAll (fD D1 i).steps : Nat) : Int)) = true := decide_eq_true (by omega)
     have hun2 : decide ((0 : Nat) < unitsAll (fD D1 i).steps) = true := decide_eq_true (by omega)
     generalize unitsAll (fD D1 i).steps = UU at *
     clear HEN hu
     have HSY : Hid (∀ y, RDB y TS D1 → Calls Tryz.prog 104 #[.agg (rdA TS D1), .int .i64 (i : Int)] y (ROut MD ME y)) := fun y hy => by
      rw [f1, f2]
      exact rsync_in TS D1 i HI.out (fD D1 i) HF.out y hy
     clear f1 f2
     go_upto_region 12 with fail
     go_wp2_with ((with_reducible refine wpAt 51 ?_); refine wpList_load_mid_g rfl 62 _ rfl w.heap.size (i * 2) rfl (fA tt (fD D1 i)) _ HRG.out Tryz.underlying62 rfl (infoFi (fA tt (fD D1 i)) rfl) ?_)
     try rw [Array.toArray_toList]
     refine HUN.out.mono ?_
     rintro e y1 ⟨rfl, hy1⟩
     have hl1 := HLOW.out.trans (hy1.mono HLOW.out.size)
     have hz1 := Below.keepOld hy1 HZX.out
     have hr1 := Below.keepOld hy1 HROW.out
     have hd1 := HR.out.below hy1
     clear HLOW HZX HROW HR hy1 HUN HRG
     have HLOW := Lib.hid hl1
     have HZX := Lib.hid hz1
     have HROW := Lib.hid hr1
     have HR := Lib.hid hd1
     clear hl1 hz1 hr1 hd1
     go_upto_region 13 with fail
     go_wp2_with (refine wpList_load_row rfl 65 _ rfl w.heap.size rfl 65 (rdA TS D1) (0, 0) _ HROW.out Tryz.underlying65 rfl (infoRD _ (rdA_size HR.out.n3 HR.out.m3)) ?_)
     refine (HSY.out y1 HR.out).mono ?_
     rintro e y2 ⟨T2, rfl, hr2, hy2⟩
     have HLY := Lib.hid (HLOW.out.trans (hy2.mono HLOW.out.size))
     have HZY := Lib.hid (Below.keepOld hy2 HZX.out)
     have HRY := Lib.hid (Below.keepOld hy2 HROW.out)
     have HRD := Lib.hid hr2
     have HN3 := Lib.hid HR.out.n3
     have HM3 := Lib.hid HR.out.m3
     clear HLOW HZX HROW HR hy2 hr2 HSY HT HF
     go_upto_region 14 with (refine wpList_store_row rfl 65 _ _ rfl w.heap.size (rdA T2 MD) rfl rfl 65 (rdA TS D1) HRY.out (infoRD _ (rdA_size HRD.out.n3 HRD.out.m3)) (by rw [rdA_size HRD.out.n3 HRD.out.m3, rdA_size HN3.out HM3.out]) (rdA_one HRD.out.n3 HRD.out.m3) ?_)
     try simp only [Act.put, zA, zB, zC]
     have HR := Lib.hid (HRD.out.put (A := rdA T2 MD) HRY.out)
     have HROW := Lib.hid (setRow_heap _ _ _ (rdA T2 MD) _ _ HRY.out)
     have HZX : Hid ((y2.setRow w.heap.size (rdA T2 MD)).heap[w.heap.size + 1]? = some (.cells zD 65 (0, 0))) := by show _ = _; rw [setRow_other _ _ _ _ (by omega)]; exact HZY.out
     have HLOW : Hid (Below w.heap.size w (y2.setRow w.heap.size (rdA T2 MD))) := below_setRow HLY.out (Nat.le_refl _) _
     clear HRY HZY HLY HRD HN3 HM3
     generalize y2.setRow w.heap.size (rdA T2 MD) = w8 at *
     skip
     go_wp2_with (first
      | refine wpList_load_row rfl 65 _ rfl w.heap.size rfl 65 (rdA T2 MD) (0, 0) _ HROW.out Tryz.underlying65 rfl (infoRD _ (rdA_size HR.out.n3 HR.out.m3)) ?_
      | refine wpList_store_row rfl 65 _ _ rfl (w.heap.size + 1) (rdA T2 MD) rfl rfl 65 zD HZX.out (infoRD _ (rdA_size HR.out.n3 HR.out.m3)) (by rw [rdA_size HR.out.n3 HR.out.m3]; rfl) (rdA_one HR.out.n3 HR.out.m3) ?_)
     have HS := Lib.hid (setRow_heap _ _ _ (rdA T2 MD) _ _ HZX.out)
     refine bodyPost_ret (results_cell_tmp2 rfl _ _ _ _ _ _ _ rfl HS.out Tryz.underlying65 rfl (infoRD _ (rdA_size HR.out.n3 HR.out.m3))) rfl ?_
     exact ⟨T2, rfl, HR.out.put HZX.out, below_setRow HLOW.out (by omega) _⟩
   ·rw [if_neg he] at HME HMD
    have hb0 : (E1 == 0) = false := beq_eq_false_iff_ne.2 he
    have f1 := HMD.out
    have f2 := HME.out
    clear HMD HME
    subst MD ME
    go_upto_region 14 with fail
    skip
    go_wp2_with (first
     | refine wpList_load_row rfl 65 _ rfl w.heap.size rfl 65 (rdA TS D1) (0, 0) _ HROW.out Tryz.underlying65 rfl (infoRD _ (rdA_size HR.out.n3 HR.out.m3)) ?_
     | refine wpList_store_row rfl 65 _ _ rfl (w.heap.size + 1) (rdA TS D1) rfl rfl 65 zD HZX.out (infoRD _ (rdA_size HR.out.n3 HR.out.m3)) (by rw [rdA_size HR.out.n3 HR.out.m3]; rfl) (rdA_one HR.out.n3 HR.out.m3) ?_)
    have HS := Lib.hid (setRow_heap _ _ _ (rdA TS D1) _ _ HZX.out)
    refine bodyPost_ret (results_cell_tmp2 rfl _ _ _ _ _ _ _ rfl HS.out Tryz.underlying65 rfl (infoRD _ (rdA_size HR.out.n3 HR.out.m3))) rfl ?_
    exact ⟨TS, rfl, HR.out.put HZX.out, below_setRow HLOW.out (by omega) _⟩
  ·rw [if_neg hg] at hMD hME
   have g1 : decide ((G : Int) < (L.length : Int)) = false := decide_eq_false (by omega)
   have g2 : decide (G < L.length) = false := decide_eq_false hg
   have HMD := Lib.hid hMD.symm
   have HME := Lib.hid hME.symm
   have hb0 : ((0 : Int) == 0) = true := rfl
   clear hMD hME HCT hg
   go_upto_region 12 with fail
   skip
   have hti : i < ts.length := by rw [HR.out.n3]; exact HI.out
   have ht : ts[i]? = some (ts[i]'hti) := List.getElem?_eq_getElem hti
   generalize ts[i]'hti = tt at *
   have HT := Lib.hid ht
   have HF := Lib.hid (HR.out.fd HI.out)
   have HRG := Lib.hid (rd_range HR.out.n3 HR.out.m3 HROW.out i HT.out HF.out)
   have HUN := Lib.hid (runits_any tt (fD d i) y2 (HR.out.each i tt _ HT.out HF.out).1.now)
   clear ht hti
   have HEN : Hid (MD = (if unitsAll (fD d i).steps = 0 then d else syncD d i (fD d i)) ∧ ME = (if unitsAll (fD d i).steps = 0 then 0 else syncE d)) := ⟨HMD.out, HME.out⟩
   clear HMD HME
   by_cases hu : unitsAll (fD d i).steps = 0
   ·obtain ⟨f1, f2⟩ := HEN.out
    rw [if_pos hu] at f1 f2
    rw [hu] at HUN
    clear HEN hu
    subst MD ME
    go_upto_region 12 with fail
    go_wp2_with ((with_reducible refine wpAt 51 ?_); refine wpList_load_mid_g rfl 62 _ rfl w.heap.size (i * 2) rfl (fA tt (fD d i)) _ HRG.out Tryz.underlying62 rfl (infoFi (fA tt (fD d i)) rfl) ?_)
    try rw [Array.toArray_toList]
    refine HUN.out.mono ?_
    rintro e y1 ⟨rfl, hy1⟩
    have hl1 := HLOW.out.trans (hy1.mono HLOW.out.size)
    have hz1 := Below.keepOld hy1 HZX.out
    have hr1 := Below.keepOld hy1 HROW.out
    have hd1 := HR.out.below hy1
    clear HLOW HZX HROW HR hy1 HUN HRG
    have HLOW := Lib.hid hl1
    have HZX := Lib.hid hz1
    have HROW := Lib.hid hr1
    have HR := Lib.hid hd1
    clear hl1 hz1 hr1 hd1
    have hun1 : decide ((0 : Int) < ((0 : Nat) : Int)) = false := by decide
    have hun2 : decide ((0 : Nat) < 0) = false := by decide
    go_upto_region 14 with fail
    skip
    go_wp2_with (first
     | refine wpList_load_row rfl 65 _ rfl w.heap.size rfl 65 (rdA ts d) (0, 0) _ HROW.out Tryz.underlying65 rfl (infoRD _ (rdA_size HR.out.n3 HR.out.m3)) ?_
     | refine wpList_store_row rfl 65 _ _ rfl (w.heap.size + 1) (rdA ts d) rfl rfl 65 zD HZX.out (infoRD _ (rdA_size HR.out.n3 HR.out.m3)) (by rw [rdA_size HR.out.n3 HR.out.m3]; rfl) (rdA_one HR.out.n3 HR.out.m3) ?_)
    have HS := Lib.hid (setRow_heap _ _ _ (rdA ts d) _ _ HZX.out)
    refine bodyPost_ret (results_cell_tmp2 rfl _ _ _ _ _ _ _ rfl HS.out Tryz.underlying65 rfl (infoRD _ (rdA_size HR.out.n3 HR.out.m3))) rfl ?_
    exact ⟨ts, rfl, HR.out.put HZX.out, below_setRow HLOW.out (by omega) _⟩
   ·obtain ⟨f1, f2⟩ := HEN.out
    rw [if_neg hu] at f1 f2
    have hun1 : decide ((0 : Int) < ((unitsAll (fD d i).steps : Nat) : Int)) = true := decide_eq_true (by omega)
    have hun2 : decide ((0 : Nat) < unitsAll (fD d i).steps) = true := decide_eq_true (by omega)
    generalize unitsAll (fD d i).steps = UU at *
    clear HEN hu
    have HSY : Hid (∀ y, RDB y ts d → Calls Tryz.prog 104 #[.agg (rdA ts d), .int .i64 (i : Int)] y (ROut MD ME y)) := fun y hy => by
     rw [f1, f2]
     exact rsync_in ts d i HI.out (fD d i) HF.out y hy
    clear f1 f2
    go_upto_region 12 with fail
    go_wp2_with ((with_reducible refine wpAt 51 ?_); refine wpList_load_mid_g rfl 62 _ rfl w.heap.size (i * 2) rfl (fA tt (fD d i)) _ HRG.out Tryz.underlying62 rfl (infoFi (fA tt (fD d i)) rfl) ?_)
    try rw [Array.toArray_toList]
    refine HUN.out.mono ?_
    rintro e y1 ⟨rfl, hy1⟩
    have hl1 := HLOW.out.trans (hy1.mono HLOW.out.size)
    have hz1 := Below.keepOld hy1 HZX.out
    have hr1 := Below.keepOld hy1 HROW.out
    have hd1 := HR.out.below hy1
    clear HLOW HZX HROW HR hy1 HUN HRG
    have HLOW := Lib.hid hl1
    have HZX := Lib.hid hz1
    have HROW := Lib.hid hr1
    have HR := Lib.hid hd1
    clear hl1 hz1 hr1 hd1
    go_upto_region 13 with fail
    go_wp2_with (refine wpList_load_row rfl 65 _ rfl w.heap.size rfl 65 (rdA ts d) (0, 0) _ HROW.out Tryz.underlying65 rfl (infoRD _ (rdA_size HR.out.n3 HR.out.m3)) ?_)
    refine (HSY.out y1 HR.out).mono ?_
    rintro e y2 ⟨T2, rfl, hr2, hy2⟩
    have HLY := Lib.hid (HLOW.out.trans (hy2.mono HLOW.out.size))
    have HZY := Lib.hid (Below.keepOld hy2 HZX.out)
    have HRY := Lib.hid (Below.keepOld hy2 HROW.out)
    have HRD := Lib.hid hr2
    have HN3 := Lib.hid HR.out.n3
    have HM3 := Lib.hid HR.out.m3
    clear HLOW HZX HROW HR hy2 hr2 HSY HT HF
    go_upto_region 14 with (refine wpList_store_row rfl 65 _ _ rfl w.heap.size (rdA T2 MD) rfl rfl 65 (rdA ts d) HRY.out (infoRD _ (rdA_size HRD.out.n3 HRD.out.m3)) (by rw [rdA_size HRD.out.n3 HRD.out.m3, rdA_size HN3.out HM3.out]) (rdA_one HRD.out.n3 HRD.out.m3) ?_)
    try simp only [Act.put, zA, zB, zC]
    have HR := Lib.hid (HRD.out.put (A := rdA T2 MD) HRY.out)
    have HROW := Lib.hid (setRow_heap _ _ _ (rdA T2 MD) _ _ HRY.out)
    have HZX : Hid ((y2.setRow w.heap.size (rdA T2 MD)).heap[w.heap.size + 1]? = some (.cells zD 65 (0, 0))) := by show _ = _; rw [setRow_other _ _ _ _ (by omega)]; exact HZY.out
    have HLOW : Hid (Below w.heap.size w (y2.setRow w.heap.size (rdA T2 MD))) := below_setRow HLY.out (Nat.le_refl _) _
    clear HRY HZY HLY HRD HN3 HM3
    generalize y2.setRow w.heap.size (rdA T2 MD) = w8 at *
    skip
    go_wp2_with (first
     | refine wpList_load_row rfl 65 _ rfl w.heap.size rfl 65 (rdA T2 MD) (0, 0) _ HROW.out Tryz.underlying65 rfl (infoRD _ (rdA_size HR.out.n3 HR.out.m3)) ?_
     | refine wpList_store_row rfl 65 _ _ rfl (w.heap.size + 1) (rdA T2 MD) rfl rfl 65 zD HZX.out (infoRD _ (rdA_size HR.out.n3 HR.out.m3)) (by rw [rdA_size HR.out.n3 HR.out.m3]; rfl) (rdA_one HR.out.n3 HR.out.m3) ?_)
    have HS := Lib.hid (setRow_heap _ _ _ (rdA T2 MD) _ _ HZX.out)
    refine bodyPost_ret (results_cell_tmp2 rfl _ _ _ _ _ _ _ rfl HS.out Tryz.underlying65 rfl (infoRD _ (rdA_size HR.out.n3 HR.out.m3))) rfl ?_
    exact ⟨T2, rfl, HR.out.put HZX.out, below_setRow HLOW.out (by omega) _⟩
end Go.Proofs.YtnejjfglkindjaaGreatDoor.Rk
namespace Go.Proofs.YtnejjfglkindjaaGreatDoor.Vlt
open Go.RowKit Go.Mir Go.Mir.Parts Dk Rol Wr Slt Cut Rk
open Frm (frame scan)
set_option maxRecDepth 100000 in
set_option maxHeartbeats 800000 in
theorem value22_any (X : List UInt8) (h8 : 8 ≤ X.length) (p : Option Addr) (c : Nat) (w : World) (h : Bs w p X.length c X) :
  Calls Tryz.prog 52 #[.slice p X.length c] w fun e w' => e = .returned (.int .u64 (Rdr.beN (X.take 8) : Nat)) ∧ w = w' := by
 have HBS := Lib.hid h
 have hle := h.le
 have hmax := h.max
 have hx9 : (X.length : Int) ≤ 9223372036854775807 := by omega
 clear h
 go_enter Tryz.func52, Tryz.ntmps52
 go_wp2_with fail
 go_loop [3, 4] (fun x j => ∃ k : Nat, k ≤ 8 ∧ j = .int .i64 k ∧ x = .int .u64 (Rdr.beN (X.take k) : Nat)) (fun _ j => 8 - (intOf j).toNat)
 case atStart => exact ⟨0, by omega, rfl, rfl⟩
 case round =>
  obtain ⟨k, hk, rfl, rfl⟩ := hrel
  by_cases hlt : k < 8
  ·have hd : decide ((k:Int) < 8) = true := decide_eq_true (by omega)
   have hd2 : decide (k < 8) = true := decide_eq_true hlt
   obtain ⟨b', o', rfl⟩ := HBS.out.addr (by omega) (by omega)
   have hkl : k < X.length := by omega
   have hc' := Bs.byte HBS.out (j := k) hkl
   have hbe := Rdr.beN_snoc (X.take k) (X[k]'hkl)
   rw [← take_snoc X k hkl] at hbe
   have hb1 := Rdr.beN_lt_pow (X.take (k + 1))
   have hb2 : 256 ^ (X.take (k + 1)).length ≤ 256 ^ 8 := Nat.pow_le_pow_right (by omega) (by rw [List.length_take]; omega)
   have hb4 : (256 : Nat) ^ 8 = 18446744073709551616 := by decide
   generalize X[k]'hkl = y at *
   have hll : y.toNat < 256 := y.toNat_lt
   generalize hB0 : Rdr.beN (X.take k) = B at *
   generalize hB2 : Rdr.beN (X.take (k + 1)) = B2 at *
   have HB2 := Lib.hid hB2
   have q1 : IntKind.u64.wrap ((256 : Int) * (B : Int)) = ((256 * B : Nat) : Int) := by rw [IntKind.wrap_u64]; omega
   have q2 : IntKind.u64.wrap (((256 * B : Nat) : Int) + (y.toNat : Int)) = (B2 : Int) := by rw [IntKind.wrap_u64]; omega
   have q3 : IntKind.u64.wrap ((256 : Int) * (B : Int) + (y.toNat : Int)) = (B2 : Int) := by rw [IntKind.wrap_u64]; omega
   have HW := Lib.hid q1
   have HW2 := Lib.hid q2
   have HW3 := Lib.hid q3
   clear hB0 hB2 hbe hb1 hb2 hb4
   go_wp2_with fail
   go_round
   case rel =>
    exact ⟨k + 1, by omega, by go_num, by first | rw [HB2.out] | (rw [HW.out, HW2.out, HB2.out]) | (rw [HW3.out, HB2.out])⟩
   case measure => simp [intOf]; omega
  ·obtain rfl : k = 8 := by omega
   have hd : decide ((8:Int) < 8) = false := by decide
   have HT : Hid (∃ TN : Nat, Rdr.beN (X.take 8) = TN) := ⟨_, rfl⟩
   obtain ⟨TN, hTN⟩ := HT.out
   have HTN := Lib.hid hTN
   rw [hTN]
   clear hTN HT
   go_wp2_with fail
   go_ret
   rw [HTN.out]
   exact ⟨rfl, rfl⟩
structure LsR (w : World) (v : Value) (ls : List (List UInt8)) : Prop where
 all : ∃ hs : List Value, w.ownsRow 0 22 1 v ls.length hs ∧ ∀ j (h : j < ls.length), ∃ q k, hs[j]? = some (.slice q ls[j].length k) ∧ RBs w q ls[j].length k ls[j]
theorem LsR.nil (w : World) : LsR w (.slice none 0 0) [] := ⟨[], World.ownsRow_nil _ _ _ _, fun j h => by simp at h⟩
theorem LsR.turn {S : Nat → Prop} {w w' : World} {v : Value} {ls : List (List UInt8)} (h : LsR w v ls) (hk : KR 0 w w') (ht : Turns S w w') (hn : ∀ k, v.ownBlock = some k → ¬ S k) : LsR w' v ls := by
 obtain ⟨hs, h1, h2⟩ := h.all
 exact ⟨hs, own_touch h1 ht hn, fun j hj => by
  obtain ⟨q, k, a, b⟩ := h2 j hj
  exact ⟨q, k, a, b.step hk⟩⟩
theorem LsR.below {w w' : World} {v : Value} {ls : List (List UInt8)} (h : LsR w v ls) (hb : Below w.heap.size w w') : LsR w' v ls :=
 h.turn (KR.of_below hb) (Turns.of_below (S := fun _ => False) hb) (fun _ _ h => h)
theorem LsR.of {w : World} {base : Nat} {v : Value} {ls : List (List UInt8)} (h : LsO w base v ls) : LsR w v ls := by
 obtain ⟨hs, h1, h2⟩ := h.all
 exact ⟨hs, own_base h1 (fun _ _ => Nat.zero_le _), fun j hj => by
  obtain ⟨q, k, a, b⟩ := h2 j hj
  exact ⟨q, k, a, RBs.own b⟩⟩
theorem LsR.sl {w : World} {v : Value} {ls : List (List UInt8)} (h : LsR w v ls) : ∃ p c, v = .slice p ls.length c ∧ Pts w p ls.length c ls := by
 obtain ⟨hs, h1, h2⟩ := h.all
 obtain ⟨p, c, rfl, hS⟩ := own_sl h1
 refine ⟨p, c, rfl, rfl, hS.le, hS.max, hS.nil0, fun a ha j hj => ?_⟩
 obtain ⟨q, k, e1, e2⟩ := h2 j hj
 exact ⟨q, _, k, hS.cell a ha j _ e1, e2.bs⟩
theorem LsR.ty {w : World} {v : Value} {ls : List (List UInt8)} (h : LsR w v ls) {k : Nat} (hk : v.ownBlock = some k) : k < w.heap.size ∧ ∀ M t fr, w.heap[k]? = some (.cells M t fr) → t = 22 := by
 obtain ⟨hs, h1, -⟩ := h.all
 exact ⟨(h1.lt k hk).2, fun M t fr hm => own_type h1 k M t fr hk hm⟩
theorem lsR_off {S : Nat → Prop} {w w' : World} {v : Value} {ls : List (List UInt8)} (h : LsR w v ls) (ht : Turns S w w') (hS : ∀ k M t fr, S k → w.heap[k]? = some (.cells M t fr) → t ≠ 22) (hk : KR 0 w w') : LsR w' v ls := by
 refine h.turn hk ht (fun k hk hs => ?_)
 obtain ⟨hs', h1, -⟩ := h.all
 rcases h1.2 with ⟨e, _⟩ | ⟨g, cap, cur, e, _, hg, _⟩
 ·rw [e] at hk; cases hk
 ·rw [e] at hk
  simp only [Value.ownBlock, Option.some.injEq] at hk
  subst hk
  exact hS _ _ _ _ hs hg rfl
theorem LsR.push {w w0 w1 : World} {v v' : Value} {ls : List (List UInt8)} {hs : List Value} {q : Option Addr} {k : Nat} {x : List UInt8}
  (h1 : w.ownsRow 0 22 1 v ls.length hs) (h2 : ∀ j (h : j < ls.length), ∃ q k, hs[j]? = some (.slice q ls[j].length k) ∧ RBs w q ls[j].length k ls[j])
  (hb : Below w.heap.size w w0) (hx : RBs w q x.length k x)
  (ho : w1.ownsRow 0 22 1 v' (ls.length + 1) (hs ++ [.slice q x.length k])) (hg : w0.grownBy w1 v.ownBlock) : LsR w1 v' (ls ++ [x]) := by
 have hl : hs.length = ls.length := by have := h1.1; simpa using this
 have h1' := own_touch h1 (Turns.of_below (S := fun _ => False) hb) (fun _ _ h => h)
 have hkr : KR 0 w w1 := (KR.of_below hb).trans (Turns.imp (Turns.grown (S := fun i => v.ownBlock = some i) hg (fun k hk => hk)) (fun i _ hi => by
  rcases h1'.2 with ⟨e, _⟩ | ⟨g, cap, cur, e, _, hg, _⟩
  ·rw [e] at hi; cases hi
  ·rw [e] at hi
   simp only [Value.ownBlock, Option.some.injEq] at hi
   subst hi
   exact ⟨_, _, _, hg, by decide, by decide⟩))
 refine ⟨_, by rw [List.length_append]; exact ho, fun j hj => ?_⟩
 rw [List.length_append, List.length_singleton] at hj
 by_cases hj2 : j < ls.length
 ·obtain ⟨q1, k1, e1, e2⟩ := h2 j hj2
  refine ⟨q1, k1, ?_, ?_⟩
  ·rw [List.getElem?_append_left (by omega), List.getElem_append_left hj2]; exact e1
  ·rw [List.getElem_append_left hj2]; exact e2.step hkr
 ·obtain rfl : j = ls.length := by omega
  refine ⟨q, k, ?_, ?_⟩
  ·rw [List.getElem?_append_right (by omega), hl, Nat.sub_self]
   simp
  ·simpa using hx.step hkr
def rvA (T : List RF) (d : DD) (s : SS) (ps : Option Addr) (cs : Nat) (v : VS) (pb : Option Addr) (cb : Nat) (pa : Option Addr) (ca : Nat) : Array Value := rdA T d ++ rsA 1 2 s ps cs ++ #[.int .u64 (v.last : Int), .bool v.some, .slice pb v.body.length cb, .slice pa v.after.length ca]
theorem rvA_size {T : List RF} {d : DD} (h1 : T.length = 3) (h2 : d.fs.length = 3) (s : SS) (ps : Option Addr) (cs : Nat) (v : VS) (pb : Option Addr) (cb : Nat) (pa : Option Addr) (ca : Nat) : (rvA T d s ps cs v pb cb pa ca).size = 18 := by
 unfold rvA
 rw [Array.size_append, Array.size_append, rdA_size h1 h2]
 rfl
theorem infoRV (n : Nat) (h : n = 18) : (Tryz.prog.info? 76).map (·.size) = some n := by subst h; kernel_rfl
end Go.Proofs.YtnejjfglkindjaaGreatDoor.Vlt
namespace Go.Proofs.YtnejjfglkindjaaGreatDoor.Vlt
open Go.RowKit Go.Mir Go.Mir.Parts Dk Rol Wr Slt Cut Rk
open Frm (frame scan)
theorem splice_cons (A : List Value) (o : Nat) (v : Value) (r : List Value) (h : o < A.length) : splice (A.set o v) (o + 1) r = splice A o (v :: r) := by
 unfold splice
 have e1 : (A.set o v).take (o + 1) = A.take o ++ [v] := by
  rw [List.take_succ_eq_append_getElem (by rw [List.length_set]; exact h), List.getElem_set_self, List.take_set_of_le (Nat.le_refl _)]
 have e2 : (A.set o v).drop (o + 1 + r.length) = A.drop (o + (v :: r).length) := by
  rw [List.drop_set_of_lt (by omega), List.length_cons]
  congr 1
  omega
 rw [e1, e2, List.append_assoc]
 rfl
theorem heap_setCells_row (b : Nat) (t : TypeId) : ∀ (vs : List Value) (o : Nat) (w : World) (A : List Value), w.heap[b]? = some (.cells A.toArray t (0, 0)) → o + vs.length ≤ A.length → (w.setCells b o vs).heap[b]? = some (.cells (splice A o vs).toArray t (0, 0))
 | [], o, w, A, h, _ => by
  have e : splice A o [] = A := by unfold splice; rw [List.nil_append, List.length_nil, Nat.add_zero, List.take_append_drop]
  rw [e]; exact h
 | v :: r, o, w, A, h, hl => by
  rw [List.length_cons] at hl
  rw [World.setCells, ← splice_cons A o v r (by omega)]
  refine heap_setCells_row b t r (o + 1) _ (A.set o v) ?_ (by rw [List.length_set]; omega)
  rw [Dk.cell_put (off := o) v h]
  simp
theorem turns_setCells (b : Nat) : ∀ (vs : List Value) (o : Nat) (w0 w : World), Turns (fun k => k = b) w0 w → Turns (fun k => k = b) w0 (w.setCells b o vs)
 | [], _, _, _, h => h
 | v :: r, o, w0, w, h => by
  rw [World.setCells]
  exact turns_setCells b r (o + 1) w0 _ (h.setCell (p := ⟨b, o, none⟩) (fun _ => rfl) v)
theorem rvA_list (T : List RF) (d : DD) (s : SS) (ps : Option Addr) (cs : Nat) (v : VS) (pb : Option Addr) (cb : Nat) (pa : Option Addr) (ca : Nat) : (rvA T d s ps cs v pb cb pa ca).toList = (rdA T d).toList ++ ((rsA 1 2 s ps cs).toList ++ [.int .u64 (v.last : Int), .bool v.some, .slice pb v.body.length cb, .slice pa v.after.length ca]) := by
 unfold rvA
 rw [Array.toList_append, Array.toList_append, List.append_assoc]
theorem rdA_len {T : List RF} {d : DD} (h1 : T.length = 3) (h2 : d.fs.length = 3) : (rdA T d).toList.length = 9 := by rw [Array.length_toList]; exact rdA_size h1 h2
theorem rv_disk {T T' : List RF} {d d' : DD} (h1 : T.length = 3) (h2 : d.fs.length = 3) (h3 : T'.length = 3) (h4 : d'.fs.length = 3) (s : SS) (ps : Option Addr) (cs : Nat) (v : VS) (pb : Option Addr) (cb : Nat) (pa : Option Addr) (ca : Nat) :
  splice (rvA T d s ps cs v pb cb pa ca).toList 0 (rdA T' d').toList = (rvA T' d' s ps cs v pb cb pa ca).toList := by
 unfold splice
 rw [List.take_zero, List.nil_append, Nat.zero_add, rdA_len h3 h4, rvA_list, List.drop_left' (rdA_len h1 h2), rvA_list]
theorem rv_range0 {w : World} {g : Nat} {T : List RF} {d : DD} {s : SS} {ps : Option Addr} {cs : Nat} {v : VS} {pb : Option Addr} {cb : Nat} {pa : Option Addr} {ca : Nat} {t : TypeId} {fr : Nat × Nat} (h : w.heap[g]? = some (.cells (rvA T d s ps cs v pb cb pa ca) t fr)) : w.rangeAt g 0 (rdA T d).toList := fun j u hu => by
 rw [Nat.zero_add, cell_of_row _ _ _ _ _ _ h, ← Array.getElem?_toList, rvA_list, List.getElem?_append_left (List.getElem?_eq_some_iff.1 hu).1]
 exact hu
theorem rvA_at {T : List RF} {d : DD} (h1 : T.length = 3) (h2 : d.fs.length = 3) (s : SS) (ps : Option Addr) (cs : Nat) (v : VS) (pb : Option Addr) (cb : Nat) (pa : Option Addr) (ca : Nat) (j : Nat) : (rvA T d s ps cs v pb cb pa ca)[14 + j]? = [Value.int .u64 (v.last : Int), .bool v.some, .slice pb v.body.length cb, .slice pa v.after.length ca][j]? := by
 have e5 : (rsA 1 2 s ps cs).toList.length = 5 := rfl
 have e9 := rdA_len h1 h2
 rw [← Array.getElem?_toList, rvA_list, ← List.append_assoc, List.getElem?_append_right (by rw [List.length_append, e9, e5]; omega), List.length_append, e9, e5]
 congr 1
 omega
theorem rv_cells {w : World} {g : Nat} {T : List RF} {d : DD} (h1 : T.length = 3) (h2 : d.fs.length = 3) {s : SS} {ps : Option Addr} {cs : Nat} {v : VS} {pb : Option Addr} {cb : Nat} {pa : Option Addr} {ca : Nat} {t : TypeId} {fr : Nat × Nat} (h : w.heap[g]? = some (.cells (rvA T d s ps cs v pb cb pa ca) t fr)) :
  w.cell? ⟨g, 14, none⟩ = some (.int .u64 (v.last : Int)) ∧ w.cell? ⟨g, 15, none⟩ = some (.bool v.some) ∧ w.cell? ⟨g, 16, none⟩ = some (.slice pb v.body.length cb) ∧ w.cell? ⟨g, 17, none⟩ = some (.slice pa v.after.length ca) :=
 ⟨by rw [cell_of_row _ _ _ _ _ _ h]; exact rvA_at h1 h2 s ps cs v pb cb pa ca 0, by rw [cell_of_row _ _ _ _ _ _ h]; exact rvA_at h1 h2 s ps cs v pb cb pa ca 1, by rw [cell_of_row _ _ _ _ _ _ h]; exact rvA_at h1 h2 s ps cs v pb cb pa ca 2, by rw [cell_of_row _ _ _ _ _ _ h]; exact rvA_at h1 h2 s ps cs v pb cb pa ca 3⟩
theorem rv_set {T : List RF} {d : DD} (h1 : T.length = 3) (h2 : d.fs.length = 3) (s : SS) (ps : Option Addr) (cs : Nat) (v : VS) (pb : Option Addr) (cb : Nat) (pa : Option Addr) (ca : Nat) (j : Nat) (u : Value) (v' : VS) (pb' : Option Addr) (cb' : Nat) (pa' : Option Addr) (ca' : Nat)
  (h : [Value.int .u64 (v.last : Int), .bool v.some, .slice pb v.body.length cb, .slice pa v.after.length ca].set j u = [Value.int .u64 (v'.last : Int), .bool v'.some, .slice pb' v'.body.length cb', .slice pa' v'.after.length ca']) :
  (rvA T d s ps cs v pb cb pa ca).setIfInBounds (14 + j) u = rvA T d s ps cs v' pb' cb' pa' ca' := by
 have e5 : (rsA 1 2 s ps cs).toList.length = 5 := rfl
 have e9 := rdA_len h1 h2
 apply Array.toList_inj.1
 rw [Array.toList_setIfInBounds, rvA_list, rvA_list, ← h, ← List.append_assoc, List.set_append_right _ _ (by rw [List.length_append, e9, e5]; omega), List.length_append, e9, e5, List.append_assoc]
 congr 3
 omega
def zRV : Array Value := zD ++ zS ++ #[.int .u64 0, .bool false, .slice none 0 0, .slice none 0 0]
theorem zeroRV (w : World) : (zeroValue 76).run Tryz.prog w = .ok (.agg zRV) w := by kernel_rfl
theorem rvA_one {T : List RF} {d : DD} (h1 : T.length = 3) (h2 : d.fs.length = 3) (s : SS) (ps : Option Addr) (cs : Nat) (v : VS) (pb : Option Addr) (cb : Nat) (pa : Option Addr) (ca : Nat) : (rvA T d s ps cs v pb cb pa ca).all (·.oneCell') = true := by
 unfold rvA
 rw [Array.all_append, Array.all_append, rdA_one h1 h2, rsA_one]
 simp [Value.oneCell']
structure RVR (w : World) (T : List RF) (d : DD) (s : SS) (ps : Option Addr) (cs : Nat) (v : VS) (pb : Option Addr) (cb : Nat) (pa : Option Addr) (ca : Nat) : Prop where
 rd : RDB w T d
 sb : RBs w ps s.body.length cs s.body
 vb : RBs w pb v.body.length cb v.body
 af : LsR w (.slice pa v.after.length ca) v.after
theorem RVR.below {w w' : World} {T : List RF} {d : DD} {s : SS} {ps : Option Addr} {cs : Nat} {v : VS} {pb : Option Addr} {cb : Nat} {pa : Option Addr} {ca : Nat} (h : RVR w T d s ps cs v pb cb pa ca) (hb : Below w.heap.size w w') : RVR w' T d s ps cs v pb cb pa ca :=
 ⟨h.rd.below hb, h.sb.below hb, h.vb.below hb, h.af.below hb⟩
theorem rv_store0 {w : World} {g : Nat} {T T' : List RF} {d d' : DD} {s : SS} {ps : Option Addr} {cs : Nat} {v : VS} {pb : Option Addr} {cb : Nat} {pa : Option Addr} {ca : Nat} (h1 : T.length = 3) (h2 : d.fs.length = 3) (hr : w.heap[g]? = some (.cells (rvA T d s ps cs v pb cb pa ca) 76 (0, 0))) (hd : RDB w T' d') (h : RVR w T d s ps cs v pb cb pa ca) :
  (w.setCells g 0 (rdA T' d').toList).heap[g]? = some (.cells (rvA T' d' s ps cs v pb cb pa ca) 76 (0, 0)) ∧ RVR (w.setCells g 0 (rdA T' d').toList) T' d' s ps cs v pb cb pa ca ∧ Turns (fun k => k = g) w (w.setCells g 0 (rdA T' d').toList) := by
 have ht := turns_setCells g (rdA T' d').toList 0 w w (Turns.refl _ _)
 have hk := kr_turn (base := 0) ht hr (by decide) (by decide)
 refine ⟨?_, ⟨hd.step hk, h.sb.step hk, h.vb.step hk, lsR_off h.af ht (fun k M' t fr hkk hm => ?_) hk⟩, ht⟩
 ·have hr' : w.heap[g]? = some (.cells (rvA T d s ps cs v pb cb pa ca).toList.toArray 76 (0, 0)) := by rw [Array.toArray_toList]; exact hr
  have := heap_setCells_row g _ (rdA T' d').toList 0 w _ hr' (by rw [rdA_len hd.n3 hd.m3, Array.length_toList, rvA_size h1 h2]; omega)
  rw [rv_disk h1 h2 hd.n3 hd.m3, Array.toArray_toList] at this
  exact this
 ·subst hkk
  rw [hr] at hm
  injection hm with e1
  injection e1 with _ e2
  subst e2
  decide
end Go.Proofs.YtnejjfglkindjaaGreatDoor.Vlt
namespace Go.Proofs.YtnejjfglkindjaaGreatDoor.Vlt
open Go.RowKit Go.Mir Go.Mir.Parts Dk Rol Wr Slt Cut Rk
open Frm (frame scan)
theorem box_off {w : World} {g : Nat} {M A : Array Value} {T : List RF} {d : DD} {s : SS} {ps : Option Addr} {cs : Nat} {v : VS} {pb : Option Addr} {cb : Nat} {pa : Option Addr} {ca : Nat} (h : RVR w T d s ps cs v pb cb pa ca) (hz : w.heap[g]? = some (.cells M 76 (0, 0))) : RVR (w.setRow g A) T d s ps cs v pb cb pa ca := by
 have ht := turns_setRow w g A
 have hk := kr_turn (base := 0) ht hz (by decide) (by decide)
 refine ⟨h.rd.step hk, h.sb.step hk, h.vb.step hk, lsR_off h.af ht (fun k M' t fr hk hm => ?_) hk⟩
 subst hk
 rw [hz] at hm
 injection hm with e1
 injection e1 with _ e2
 subst e2
 decide
end Go.Proofs.YtnejjfglkindjaaGreatDoor.Vlt
namespace Go.Proofs.YtnejjfglkindjaaGreatDoor.Vlt
open Go.RowKit Go.Mir Dk Rol Wr Slt Rk
open Frm (frame scan frame_length)
end Go.Proofs.YtnejjfglkindjaaGreatDoor.Vlt
namespace Go.Proofs.YtnejjfglkindjaaGreatDoor.Vlt
open Go.RowKit Go.Mir Go.Mir.Parts Dk Rol Wr Slt Cut Rk
open Frm (frame scan)
theorem rv_cell {w : World} {g : Nat} {T : List RF} {d : DD} {s : SS} {ps : Option Addr} {cs : Nat} {v v' : VS} {pb pb' : Option Addr} {cb cb' : Nat} {pa pa' : Option Addr} {ca ca' : Nat} (off j : Nat) (u : Value) (ho : off = 14 + j) (hr : w.heap[g]? = some (.cells (rvA T d s ps cs v pb cb pa ca) 76 (0, 0))) (hrd : RDB w T d) (hsb : RBs w ps s.body.length cs s.body)
  (hs : [Value.int .u64 (v.last : Int), .bool v.some, .slice pb v.body.length cb, .slice pa v.after.length ca].set j u = [Value.int .u64 (v'.last : Int), .bool v'.some, .slice pb' v'.body.length cb', .slice pa' v'.after.length ca']) (hb : RBs w pb' v'.body.length cb' v'.body) (ha : LsR w (.slice pa' v'.after.length ca') v'.after) :
  (w.setCell ⟨g, off, none⟩ u).heap[g]? = some (.cells (rvA T d s ps cs v' pb' cb' pa' ca') 76 (0, 0)) ∧ RVR (w.setCell ⟨g, off, none⟩ u) T d s ps cs v' pb' cb' pa' ca' ∧ Turns (fun k => k = g) w (w.setCell ⟨g, off, none⟩ u) := by
 subst ho
 have ht : Turns (fun k => k = g) w (w.setCell ⟨g, 14 + j, none⟩ u) := (Turns.refl (fun k => k = g) w).setCell (p := ⟨g, 14 + j, none⟩) (fun _ => rfl) _
 have hk := kr_turn (base := 0) ht hr (by decide) (by decide)
 have hrow := Dk.cell_put (off := 14 + j) u hr
 rw [rv_set hrd.n3 hrd.m3 s ps cs v pb cb pa ca j u v' pb' cb' pa' ca' hs] at hrow
 refine ⟨hrow, ⟨hrd.step hk, hsb.step hk, hb.step hk, lsR_off ha ht (fun k M' t fr hkk hm => ?_) hk⟩, ht⟩
 subst hkk
 rw [hr] at hm
 injection hm with e1
 injection e1 with _ e2
 subst e2
 decide
end Go.Proofs.YtnejjfglkindjaaGreatDoor.Vlt
namespace Go.Proofs.YtnejjfglkindjaaGreatDoor.Vlt
open Go.RowKit Go.Mir Go.Mir.Parts Dk Rol Wr Slt Cut Rk
open Frm (frame scan)
def ropE (d : DD) : Int := if opnE d 0 = 0 then (if (vopF d).isSome then 0 else 4) else opnE d 0
def RVOpP (d : DD) (w : World) (e : Ending) (w' : World) : Prop :=
 ∃ T v ps cs pb cb pa ca, e = .returned (.tuple #[.agg (rvA T (opnD d 0) (opnS d 1 2) ps cs v pb cb pa ca), .int .i64 (ropE d)]) ∧ RVR w' T (opnD d 0) (opnS d 1 2) ps cs v pb cb pa ca ∧ Below w.heap.size w w' ∧ (opnE d 0 = 0 → ∀ v', vopF d = some v' → v = v') ∧ ∀ k, (Value.slice pa v.after.length ca).ownBlock = some k → w.heap.size ≤ k
theorem built_rv {T : List RF} {d : DD} (h1 : T.length = 3) (h2 : d.fs.length = 3) (s : SS) (ps : Option Addr) (cs : Nat) : Tryz.prog.built 76 [(0, .agg (rdA T d)), (1, .agg (rsA 1 2 s ps cs))] = some (rvA T d s ps cs VS.zero none 0 none 0) := by
 obtain ⟨a, b, c, x, y, z, rfl, hd⟩ := rdA_form h1 h2
 obtain ⟨fs, room, fuse, down⟩ := d
 subst hd
 kernel_rfl
theorem wpList_buildSl {ops : Array Oper} {rest : List Oper} {o : Oper} {a : Act} {w : World} {Q : Exit → Act → World → Prop} (hg : o.guard = none) (x : Operand) (ho : o.op = .buildSlice 31 1 #[(0, x)]) (p : Option Addr) (n c : Nat) (hx : a.eval x = .slice p n c)
  (h : wpList Tryz.prog ops Q rest (a.put o.dst (.slice (some ⟨w.heap.size, 0, none⟩) 1 1)) (w.alloc (.cells #[.slice p n c] 22))) : wpList Tryz.prog ops Q (o :: rest) a w := by
 obtain ⟨i, hi, hiv⟩ := Option.map_eq_some_iff.1 infoS
 obtain ⟨h1, h2, _⟩ := (by simpa using hiv : i.zero = some (.slice none 0 0) ∧ i.size = 1 ∧ i.bytes = 24)
 refine wpList_buildSlice hg 31 22 1 _ ho _ i _ Tryz.underlying31 hi h1 (by rw [h2]; omega) (by rw [h2]; omega) ?_ h
 have : (#[(0, x)].map fun (p : Nat × Operand) => (p.1, a.eval p.2)).toList = [(0, .slice p n c)] := by simp [hx]
 rw [this, h2, show Array.map (fun x => (Value.slice none 0 0).cells[x % (Value.slice none 0 0).cells.size]!) (Array.range (1 * 1)) = #[.slice none 0 0] from by kernel_rfl]
 simp [Instr.fill, Value.cells]
theorem vopF_runs {d : DD} {v0 : VS} (h : startV (opnS d 1 2) = some v0) : vopF d = runV v0 (scan (fD (opnD d 0) 0).now).1 := by
 unfold vopF fillV
 rw [h]
 rfl
theorem vopF_no {d : DD} (h : startV (opnS d 1 2) = none) : vopF d = none := by
 unfold vopF fillV
 rw [h]
 rfl
structure RL (g6 : Nat) (T : List RF) (D : DD) (S : SS) (ps : Option Addr) (cs : Nat) (v0 v : VS) (pb : Option Addr) (cb : Nat) (pa : Option Addr) (ca : Nat) (L : List (List UInt8)) (wB : World) (i : Nat) (wr : World) : Prop where
 row : wr.heap[g6]? = some (.cells (rvA T D S ps cs v pb cb pa ca) 76 (0, 0))
 rv : RVR wr T D S ps cs v pb cb pa ca
 run : runV v0 (L.take i) = some v
 tb : Turns (fun k => k = g6) wB wr
 own : ∀ k, (Value.slice pa v.after.length ca).ownBlock = some k → wB.heap.size ≤ k
 len : v.after.length ≤ i
 last : v.last < 18446744073709551616
variable {g6 : Nat} {T : List RF} {D : DD} {S : SS} {ps : Option Addr} {cs : Nat} {v0 v : VS} {pb : Option Addr} {cb : Nat} {pa : Option Addr} {ca : Nat} {L : List (List UInt8)} {wB : World} {i : Nat} {wr w' : World}
theorem RL.below (h : RL g6 T D S ps cs v0 v pb cb pa ca L wB i wr) (hb : Below wr.heap.size wr w') : RL g6 T D S ps cs v0 v pb cb pa ca L wB i w' :=
 ⟨Below.keepOld hb h.row, h.rv.below hb, h.run, h.tb.trans (Turns.of_below (S := fun k => k = g6) hb) (fun _ _ hS => hS), h.own, h.len, h.last⟩
theorem RL.skip (h : RL g6 T D S ps cs v0 v pb cb pa ca L wB i wr) (hi : i < L.length) (hs : stepV v L[i] = some v) : RL g6 T D S ps cs v0 v pb cb pa ca L wB (i + 1) wr :=
 ⟨h.row, h.rv, by rw [take_snoc L i hi, runV_snoc, h.run]; exact hs, h.tb, h.own, Nat.le_succ_of_le h.len, h.last⟩
theorem RL.bad (h : RL g6 T D S ps cs v0 v pb cb pa ca L wB i wr) (hi : i < L.length) (hs : stepV v L[i] = none) : runV v0 L = none := by
 have e : L = L.take (i + 1) ++ L.drop (i + 1) := (List.take_append_drop _ _).symm
 rw [e]
 refine runV_none _ _ _ ?_
 rw [take_snoc L i hi, runV_snoc, h.run]; exact hs
theorem LsR.kr {w w' : World} {v : Value} {ls : List (List UInt8)} (h : LsR w v ls) (ht : Turns (fun k => v.ownBlock = some k) w w') : KR 0 w w' := by
 obtain ⟨hs, h1, -⟩ := h.all
 refine Turns.imp ht (fun i _ hi => ?_)
 rcases h1.2 with ⟨e, _⟩ | ⟨g, cap, cur, e, _, hg, _⟩
 ·rw [e] at hi; cases hi
 ·rw [e] at hi
  simp only [Value.ownBlock, Option.some.injEq] at hi
  subst hi
  exact ⟨_, _, _, hg, by decide, by decide⟩
set_option maxRecDepth 100000 in
set_option maxHeartbeats 6400000 in
theorem rvopen_any (T : List RF) (d : DD) (w : World) (h : RDB w T d) (hdn : d.down = false) (hur : usedL d.fs ≤ d.room) (hfew : (fD d 0).steps.length + 1 ≤ 2199023255552) :
  Calls Tryz.prog 27 #[.agg (rdA T d)] w (RVOpP d w) := by
 have hz := zeroRV
 have hzs := zeroRS
 obtain ⟨q1, q2, q3, q4⟩ := two_allocs w (.cells (rdA T d) 65) (.cells zRV 76)
 have HG1 := Lib.hid q1
 have HZ1 := Lib.hid q2
 have HL1 := Lib.hid q4
 have HRD1 := Lib.hid (h.below q4)
 have HN3 := Lib.hid h.n3
 have HM3 := Lib.hid h.m3
 have HOP := Lib.hid (fun y (hy : RDB y T d) => ropenS_any T d 1 2 (by omega) (by omega) (by omega) hdn y hy)
 have HRO := Lib.hid (fun y (hy : RDB y T d) => ropen_any T d 0 (by omega) y hy hur hfew)
 clear q1 q2 q3 q4 h hdn hur hfew
 go_enter Tryz.func27, Tryz.ntmps27
 go_upto_region 1 with fail
 generalize (w.alloc (.cells (rdA T d) 65)).alloc (.cells zRV 76) = w1 at *
 have HOP1 := Lib.hid (HOP.out w1 HRD1.out)
 clear HOP
 unfold ROpP at HOP1
 obtain ⟨S9, hS9⟩ : ∃ S, opnS d 1 2 = S := ⟨_, rfl⟩
 rw [hS9] at HOP1
 have HS9 := Lib.hid hS9
 clear hS9
 go_wp2_with (refine wpList_load_row rfl 65 _ rfl w.heap.size rfl 65 (rdA T d) (0, 0) _ HG1.out Tryz.underlying65 rfl (infoRD _ (rdA_size HN3.out HM3.out)) ?_)
 refine HOP1.out.mono ?_
 rintro e wC ⟨ps', cs', rfl, hrb, hbC⟩
 have hal := Below.allocs wC (.cells zS 74)
 have hnew := heap_alloc_last wC (.cells zS 74)
 have hbX := below_setRow (hbC.trans (hal.mono hbC.size)) hbC.size (rsA 1 2 S9 ps' cs')
 have hkr := kr_turn (base := 0) (turns_setRow (wC.alloc (.cells zS 74)) wC.heap.size (rsA 1 2 S9 ps' cs')) hnew (by decide) (by decide)
 have NEW := Lib.hid hnew
 have HG4 := Lib.hid (setRow_heap _ _ _ (rsA 1 2 S9 ps' cs') _ _ hnew)
 have HG12 := Lib.hid (Below.keepOld hbX HG1.out)
 have HZ2 := Lib.hid (Below.keepOld hbX HZ1.out)
 have HL2 := Lib.hid (HL1.out.trans (hbX.mono HL1.out.size))
 have HRD2 := Lib.hid (HRD1.out.below hbX)
 have HRB2 := Lib.hid ((hrb.below hal).step hkr)
 have HGL : Hid (w.heap.size + 2 ≤ wC.heap.size) := by show _ ≤ _; have := (Array.getElem?_eq_some_iff.1 HZ1.out).1; have := hbC.size; omega
 clear hal hnew hbX hkr hrb hbC HG1 HZ1 HL1 HRD1 HOP1
 go_upto_region 2 with (refine wpList_store_row rfl 74 _ _ rfl wC.heap.size (rsA 1 2 S9 ps' cs') rfl rfl 74 zS NEW.out (infoRS _ rfl) rfl (rsA_one _ _ _ _ _) ?_)
 try simp only [Act.put, zA, zB, zC]
 clear NEW
 generalize (wC.alloc (.cells zS 74)).setRow wC.heap.size (rsA 1 2 S9 ps' cs') = w2 at *
 generalize wC.heap.size = g4 at *
 have HRO2 := Lib.hid (HRO.out w2 HRD2.out)
 clear HRO
 unfold ROut at HRO2
 obtain ⟨D9, hD9⟩ : ∃ D, opnD d 0 = D := ⟨_, rfl⟩
 obtain ⟨E9, hE9⟩ : ∃ E, opnE d 0 = E := ⟨_, rfl⟩
 rw [hD9, hE9] at HRO2
 have HD9 := Lib.hid hD9
 have HE9 := Lib.hid hE9
 clear hD9 hE9
 go_wp2_with (refine wpList_load_row rfl 65 _ rfl w.heap.size rfl 65 (rdA T d) (0, 0) _ HG12.out Tryz.underlying65 rfl (infoRD _ (rdA_size HN3.out HM3.out)) ?_)
 refine HRO2.out.mono ?_
 rintro e wD ⟨T', rfl, hrd, hbD⟩
 have hg1 := Below.keepOld hbD HG12.out
 have HT3 := Lib.hid hrd.n3
 have HTM := Lib.hid hrd.m3
 have hkr := kr_turn (base := 0) (turns_setRow wD w.heap.size (rdA T' D9)) hg1 (by decide) (by decide)
 have HK1 := Lib.hid hg1
 have HG1 := Lib.hid (setRow_heap _ _ _ (rdA T' D9) _ _ hg1)
 have HRD3 := Lib.hid (hrd.step hkr)
 have HRB3 := Lib.hid ((HRB2.out.below hbD).step hkr)
 have HG43 : Hid ((wD.setRow w.heap.size (rdA T' D9)).heap[g4]? = some (.cells (rsA 1 2 S9 ps' cs') 74 (0, 0))) := by show _ = _; rw [setRow_other _ _ _ _ (by have := HGL.out; omega)]; exact Below.keepOld hbD HG4.out
 have HZ3 : Hid ((wD.setRow w.heap.size (rdA T' D9)).heap[w.heap.size + 1]? = some (.cells zRV 76 (0, 0))) := by show _ = _; rw [setRow_other _ _ _ _ (by omega)]; exact Below.keepOld hbD HZ2.out
 have HL3 := Lib.hid (below_setRow (HL2.out.trans (hbD.mono HL2.out.size)) (Nat.le_refl _) (rdA T' D9))
 clear hg1 hkr hrd hbD HG12 HZ2 HL2 HRD2 HRB2 HG4 HRO2
 go_upto_region 5 with (refine wpList_store_row rfl 65 _ _ rfl w.heap.size (rdA T' D9) rfl rfl 65 (rdA T d) HK1.out (infoRD _ (rdA_size HT3.out HTM.out)) (by rw [rdA_size HT3.out HTM.out, rdA_size HN3.out HM3.out]) (rdA_one HT3.out HTM.out) ?_)
 try simp only [Act.put, zA, zB, zC]
 clear HK1 HN3 HM3
 generalize wD.setRow w.heap.size (rdA T' D9) = w3 at *
 have hal := Below.allocs w3 (.cells zRV 76)
 have hnew := heap_alloc_last w3 (.cells zRV 76)
 have hbX := below_setRow hal (Nat.le_refl _) (rvA T' D9 S9 ps' cs' VS.zero none 0 none 0)
 have NEW := Lib.hid hnew
 have HRW := Lib.hid (setRow_heap _ _ _ (rvA T' D9 S9 ps' cs' VS.zero none 0 none 0) _ _ hnew)
 have hrv0 : RVR w3 T' D9 S9 ps' cs' VS.zero none 0 none 0 := ⟨HRD3.out, HRB3.out, RBs.nil _, LsR.nil _⟩
 have HRVX := Lib.hid (hrv0.below hbX)
 have HG1X := Lib.hid (Below.keepOld hbX HG1.out)
 have HG4X := Lib.hid (Below.keepOld hbX HG43.out)
 have HZW := Lib.hid (Below.keepOld hbX HZ3.out)
 have HLW := Lib.hid (HL3.out.trans (hbX.mono HL3.out.size))
 have HG6L : Hid (w.heap.size + 2 ≤ w3.heap.size) := by show _ ≤ _; have := (Array.getElem?_eq_some_iff.1 HG43.out).1; have := HGL.out; omega
 have HBU := Lib.hid (built_rv HT3.out HTM.out S9 ps' cs')
 clear hal hnew hbX hrv0 HRD3 HRB3
 go_upto_region 6 with (first
  | ((with_reducible refine wpAt 25 ?_); refine wpList_load_row rfl 65 _ rfl w.heap.size rfl 65 (rdA T' D9) (0, 0) _ HG1.out Tryz.underlying65 rfl (infoRD _ (rdA_size HT3.out HTM.out)) ?_)
  | ((with_reducible refine wpAt 26 ?_); refine wpList_load_row rfl 74 _ rfl g4 rfl 74 (rsA 1 2 S9 ps' cs') (0, 0) _ HG43.out Tryz.underlying74 rfl (infoRS _ rfl) ?_)
  | refine Rdr.wpList_build rfl 76 _ rfl [(0, .agg (rdA T' D9)), (1, .agg (rsA 1 2 S9 ps' cs'))] rfl _ HBU.out ?_
  | refine wpList_store_row rfl 76 _ _ rfl w3.heap.size (rvA T' D9 S9 ps' cs' VS.zero none 0 none 0) rfl rfl 76 zRV NEW.out (infoRV _ (rvA_size HT3.out HTM.out S9 ps' cs' VS.zero none 0 none 0)) (by rw [rvA_size HT3.out HTM.out S9 ps' cs' VS.zero none 0 none 0]; rfl) (rvA_one HT3.out HTM.out S9 ps' cs' VS.zero none 0 none 0) ?_)
 try simp only [Act.put]
 clear NEW HG1 HG43 HZ3 HL3 HBU
 generalize (w3.alloc (.cells zRV 76)).setRow w3.heap.size (rvA T' D9 S9 ps' cs' VS.zero none 0 none 0) = w4 at *
 generalize w3.heap.size = g6 at *
 have HG1 := Lib.hid HG1X.out
 clear HG1X
 by_cases he : E9 = 0
 rotate_left
 ·have q1 : (E9 == 0) = false := beq_eq_false_iff_ne.2 he
  have q2 : (E9 != 0) = true := bne_iff_ne.2 he
  have HEE : Hid (ropE d = E9) := by show _ = _; unfold ropE; rw [HE9.out, if_neg he]
  have HNE : Hid (¬ E9 = 0) := he
  clear he
  skip
  go_wp2_with (first
   | refine wpList_load_row rfl 76 _ rfl g6 rfl 76 (rvA T' D9 S9 ps' cs' VS.zero none 0 none 0) (0, 0) _ HRW.out Tryz.underlying76 rfl (infoRV _ (rvA_size HT3.out HTM.out S9 ps' cs' VS.zero none 0 none 0)) ?_
   | refine wpList_store_row rfl 76 _ _ rfl (w.heap.size + 1) (rvA T' D9 S9 ps' cs' VS.zero none 0 none 0) rfl rfl 76 zRV HZW.out (infoRV _ (rvA_size HT3.out HTM.out S9 ps' cs' VS.zero none 0 none 0)) (by rw [rvA_size HT3.out HTM.out S9 ps' cs' VS.zero none 0 none 0]; rfl) (rvA_one HT3.out HTM.out S9 ps' cs' VS.zero none 0 none 0) ?_)
  have HS := Lib.hid (setRow_heap _ _ _ (rvA T' D9 S9 ps' cs' VS.zero none 0 none 0) _ _ HZW.out)
  refine bodyPost_ret (results_cell_tmp2 rfl _ _ _ _ _ _ _ rfl HS.out Tryz.underlying76 rfl (infoRV _ (rvA_size HT3.out HTM.out S9 ps' cs' VS.zero none 0 none 0))) rfl ?_
  exact ⟨T', VS.zero, ps', cs', none, 0, none, 0, by rw [HD9.out, HS9.out, HEE.out]; rfl, by rw [HD9.out, HS9.out]; exact box_off HRVX.out HZW.out, below_setRow HLW.out (by omega) _, fun h => absurd (HE9.out.symm.trans h) HNE.out, fun k hk => by cases hk⟩
 have q1 : (E9 == 0) = true := beq_iff_eq.2 he
 have q2 : (E9 != 0) = false := by rw [bne_eq_false_iff_eq]; exact he
 have HOE : Hid (opnE d 0 = 0) := by show _ = _; rw [HE9.out]; exact he
 subst he
 have HNOW : Hid ((fD D9 0).now.length ≤ 1000000) := by
  have h1 := HRVX.out.rd
  have ht : 0 < T'.length := by rw [HT3.out]; omega
  have h2 := h1.each 0 _ _ (List.getElem?_eq_getElem ht) (h1.fd (i := 0) (by omega))
  have h3 : (fD D9 0).need ≤ 1000000 := by
   obtain ⟨t', f', _, a, _, _, b⟩ := h1.at.file 0 (by omega)
   rw [h1.fd (by omega)] at a
   cases a; exact b
  exact Nat.le_trans h2.1.now.ok.le h3
 obtain ⟨L0, hL0⟩ : ∃ L, (scan (fD D9 0).now).1 = L := ⟨_, rfl⟩
 have HL0 := Lib.hid hL0
 clear hL0 HE9
 obtain ⟨-, -, -, hc3, hc4⟩ := rs_cells HG4X.out
 by_cases ht : S9.turn = 0
 ·have hd : decide ((0 : Int) < (S9.turn : Int)) = false := decide_eq_false (by omega)
  have hd' : decide (0 < S9.turn) = false := decide_eq_false (by omega)
  have HSTART : Hid (startV (opnS d 1 2) = some VS.zero) := by show _ = _; rw [HS9.out]; unfold startV; rw [if_pos ht]
  have HAF : Hid (VS.zero.after.length = 0) := rfl
  have HLL : Hid (VS.zero.last < 18446744073709551616) := by show 0 < _; omega
  clear ht
  go_upto_region 14 with fail
  clear hd hd' hc3 hc4
  obtain ⟨v0, hv0⟩ : ∃ v0, VS.zero = v0 := ⟨_, rfl⟩
  rw [hv0] at HSTART HAF HLL HRW HRVX
  clear hv0
  skip
  have hbo := rbodies_any T' D9 0 (by omega) w4 HRVX.out.rd
  unfold RBodP at hbo
  have HNL : Hid (∀ l, L0 = l → l.length ≤ 1000000) := by
   show ∀ l, _ → _
   intro l hl
   have h1 := scan_count (fD D9 0).now
   have h2 := HNOW.out
   rw [HL0.out] at h1
   rw [← hl]
   omega
  rw [HL0.out] at hbo
  have HBO := Lib.hid hbo
  have HRUN : Hid (vopF d = runV v0 L0) := by show _ = _; rw [vopF_runs HSTART.out, HD9.out, HL0.out]
  have HLEN : Hid (L0.length ≤ 1000000) := HNL.out L0 rfl
  clear hbo HNL HL0
  go_wp2_with (refine wpList_load_row rfl 65 _ rfl w.heap.size rfl 65 (rdA T' D9) (0, 0) _ HG1.out Tryz.underlying65 rfl (infoRD _ (rdA_size HT3.out HTM.out)) ?_)
  refine HBO.out.mono ?_
  rintro e wB ⟨vl, rfl, hls, hbB⟩
  have HLS := Lib.hid hls
  have HZB := Lib.hid (Below.keepOld hbB HZW.out)
  have HLB := Lib.hid (HLW.out.trans (hbB.mono HLW.out.size))
  have HRL0 : Hid (RL g6 T' D9 S9 ps' cs' v0 v0 none 0 none 0 L0 wB 0 wB) := ⟨Below.keepOld hbB HRW.out, HRVX.out.below hbB, rfl, Turns.refl _ _, (fun k hh => by cases hh), by rw [HAF.out]; exact Nat.zero_le _, HLL.out⟩
  have HRL0R := Lib.hid HRL0.out.row
  have hpt := hls.ls.sl
  obtain ⟨pl, cl, rfl, hpts⟩ := hpt
  have hlen := HLEN.out
  have hlc := hpts.le
  have hlm := hpts.max
  clear hls hbB HBO HZW HLW HRW HRVX hpts
  go_upto_region 15 with fail
  go_wp2_with fail
  go_loopw [8, 9] (fun j _ wr => ∃ (i : Nat) (v : VS) (pb : Option Addr) (cb : Nat) (pa : Option Addr) (ca : Nat), i ≤ L0.length ∧ j = .int .i64 i ∧ RL g6 T' D9 S9 ps' cs' v0 v pb cb pa ca L0 wB i wr) (fun j _ _ => L0.length - (intOf j).toNat)
  case atStart => exact ⟨0, v0, none, 0, none, 0, Nat.zero_le _, rfl, HRL0.out⟩
  case round =>
   clear HRL0
   obtain ⟨i, v, pb, cb, pa, ca, hi, rfl, hrl⟩ := hrel
   have HRL := Lib.hid hrl
   clear hrl
   have HRW := Lib.hid HRL.out.row
   have HRVX := Lib.hid HRL.out.rv
   have HZW := Lib.hid (HRL.out.tb.keep HZB.out (by have := HG6L.out; omega))
   have HLW := Lib.hid (HLB.out.trans (HRL.out.tb.below HLB.out.size (fun k hk => by have hk : k = g6 := hk; have := HG6L.out; omega)))
   have HEX : Hid (∀ (E : Int) (w9 : World), (E = 0 → runV v0 L0 = some v) → (E ≠ 0 → E = 4 ∧ runV v0 L0 = none) → RVR w9 T' D9 S9 ps' cs' v pb cb pa ca → Below w.heap.size w w9 → RVOpP d w (.returned (.tuple #[.agg (rvA T' D9 S9 ps' cs' v pb cb pa ca), .int .i64 E])) w9) := fun E w9 h1 h2 h3 h4 => by
    refine ⟨T', v, ps', cs', pb, cb, pa, ca, ?_, by rw [HD9.out, HS9.out]; exact h3, h4, fun _ v' hv => ?_, fun k hk => Nat.le_trans HLB.out.size (HRL.out.own k hk)⟩
    ·rw [HD9.out, HS9.out]
     have : ropE d = E := by
      unfold ropE
      rw [if_pos HOE.out, HRUN.out]
      by_cases hE : E = 0
      ·rw [h1 hE, hE]; rfl
      ·rw [(h2 hE).2, (h2 hE).1]; rfl
     rw [this]
    ·rw [HRUN.out] at hv
     by_cases hE : E = 0
     ·rw [h1 hE] at hv; cases hv; rfl
     ·rw [(h2 hE).2] at hv; cases hv
   by_cases hlt : i < L0.length
   ·have hd1 : decide ((i : Int) < (L0.length : Int)) = true := decide_eq_true (by omega)
    have hd2 : decide (i < L0.length) = true := decide_eq_true hlt
    have hlso := lsO_turn HLS.out HRL.out.tb (fun k M t fr hk hm => by
     have hk : k = g6 := hk
     subst hk
     have h1 := HRL.out.row
     have h2 := HRL0R.out
     rw [hm] at h2
     injection h2 with e1
     injection e1 with _ e2
     subst e2
     exact ⟨by decide, by decide⟩)
    obtain ⟨hs9, g1, g2⟩ := hlso.all
    obtain ⟨p', c', he', hsl⟩ := own_sl g1
    cases he'
    obtain ⟨q, kc, e1, e2⟩ := g2 i hlt
    obtain ⟨b, o, rfl⟩ := hsl.addr (by omega) (by omega)
    have hcl := hsl.cell _ rfl i _ e1
    rw [add_none] at hcl
    have HIX : Hid (i < L0.length) := hlt
    have HOX := Lib.hid e2
    have HSK := Lib.hid (fun hs => HRL.out.skip HIX.out hs)
    have HBA := Lib.hid (fun hs => HRL.out.bad HIX.out hs)
    have HTK : Hid (∀ v' : VS, stepV v L0[i] = some v' → runV v0 (L0.take (i + 1)) = some v') := fun v' hs => by rw [take_snoc L0 i HIX.out, runV_snoc, HRL.out.run]; exact hs
    generalize hX : L0[i]'hlt = X at hcl HOX HSK HBA HTK
    have HBX := Lib.hid (Cut.own_bs HOX.out)
    have hxc := HBX.out.le
    have hxm := HBX.out.max
    clear hlso g1 g2 hsl e1 e2 hX
    by_cases h9 : X.length < 9
    ·have d1 : decide ((X.length : Int) < 9) = true := decide_eq_true (by omega)
     have d1' : decide (X.length < 9) = true := decide_eq_true h9
     have hst : stepV v X = none := by unfold stepV; rw [if_pos h9]
     have HNO := Lib.hid (HBA.out hst)
     clear h9 hst
     skip
     go_wp2_with (first
      | refine wpList_load_row rfl 76 _ rfl g6 rfl 76 (rvA T' D9 S9 ps' cs' v pb cb pa ca) (0, 0) _ HRW.out Tryz.underlying76 rfl (infoRV _ (rvA_size HT3.out HTM.out S9 ps' cs' v pb cb pa ca)) ?_
      | refine wpList_store_row rfl 76 _ _ rfl (w.heap.size + 1) (rvA T' D9 S9 ps' cs' v pb cb pa ca) rfl rfl 76 zRV HZW.out (infoRV _ (rvA_size HT3.out HTM.out S9 ps' cs' v pb cb pa ca)) (by rw [rvA_size HT3.out HTM.out S9 ps' cs' v pb cb pa ca]; rfl) (rvA_one HT3.out HTM.out S9 ps' cs' v pb cb pa ca) ?_)
     have HS := Lib.hid (setRow_heap _ _ _ (rvA T' D9 S9 ps' cs' v pb cb pa ca) _ _ HZW.out)
     refine bodyPost_ret (results_cell_tmp2 rfl _ _ _ _ _ _ _ rfl HS.out Tryz.underlying76 rfl (infoRV _ (rvA_size HT3.out HTM.out S9 ps' cs' v pb cb pa ca))) rfl ?_
     exact HEX.out 4 _ (fun h => by cases h) (fun _ => ⟨rfl, HNO.out⟩) (box_off HRVX.out HZW.out) (below_setRow HLW.out (by omega) _)
    have d1 : decide ((X.length : Int) < 9) = false := decide_eq_false (by omega)
    have d1' : decide (X.length < 9) = false := decide_eq_false h9
    have HX9 : Hid (¬ X.length < 9) := h9
    have HVL := Lib.hid (value22_any X (by omega) q kc wr HBX.out)
    have hnl := n8_lt X
    obtain ⟨NN, hNN⟩ : ∃ NN, Rdr.beN (X.take 8) = NN := ⟨_, rfl⟩
    rw [hNN] at HVL hnl
    have HNN := Lib.hid hNN
    clear h9 hNN
    go_upto_region 20 with fail
    go_wp2_with fail
    refine HVL.out.mono ?_
    rintro e w' ⟨rfl, rfl⟩
    clear HVL d1 d1'
    obtain ⟨hc14, -, -, -⟩ := rv_cells HT3.out HTM.out HRW.out
    by_cases hle : NN ≤ v.last
    ·have d3 : decide ((NN : Int) ≤ (v.last : Int)) = true := decide_eq_true (by omega)
     have d3' : decide (NN ≤ v.last) = true := decide_eq_true hle
     have hst : stepV v X = some v := by unfold stepV; rw [if_neg HX9.out, HNN.out, if_pos hle]
     have HNX := Lib.hid (HSK.out hst)
     clear hle hst
     go_wp2_with fail
     go_roundw
     case rel => exact ⟨i + 1, v, pb, cb, pa, ca, HIX.out, by go_num, HNX.out⟩
     case measure => have := HIX.out; simp [intOf]; omega
    have d3 : decide ((NN : Int) ≤ (v.last : Int)) = false := decide_eq_false (by omega)
    have d3' : decide (NN ≤ v.last) = false := decide_eq_false hle
    have hw1 : IntKind.u64.wrap ((v.last : Int) + 1) = (v.last : Int) + 1 := by rw [IntKind.wrap_u64]; omega
    by_cases heq : NN = v.last + 1
    rotate_left
    ·have q1 : ((NN : Int) == (v.last : Int) + 1) = false := beq_eq_false_iff_ne.2 (by omega)
     have q2 : ((NN : Int) != (v.last : Int) + 1) = true := bne_iff_ne.2 (by omega)
     have hst : stepV v X = none := by unfold stepV; rw [if_neg HX9.out, HNN.out, if_neg hle, if_neg heq]
     have HNO := Lib.hid (HBA.out hst)
     clear hle heq hst
     skip
     go_wp2_with (first
      | refine wpList_load_row rfl 76 _ rfl g6 rfl 76 (rvA T' D9 S9 ps' cs' v pb cb pa ca) (0, 0) _ HRW.out Tryz.underlying76 rfl (infoRV _ (rvA_size HT3.out HTM.out S9 ps' cs' v pb cb pa ca)) ?_
      | refine wpList_store_row rfl 76 _ _ rfl (w.heap.size + 1) (rvA T' D9 S9 ps' cs' v pb cb pa ca) rfl rfl 76 zRV HZW.out (infoRV _ (rvA_size HT3.out HTM.out S9 ps' cs' v pb cb pa ca)) (by rw [rvA_size HT3.out HTM.out S9 ps' cs' v pb cb pa ca]; rfl) (rvA_one HT3.out HTM.out S9 ps' cs' v pb cb pa ca) ?_)
     have HS := Lib.hid (setRow_heap _ _ _ (rvA T' D9 S9 ps' cs' v pb cb pa ca) _ _ HZW.out)
     refine bodyPost_ret (results_cell_tmp2 rfl _ _ _ _ _ _ _ rfl HS.out Tryz.underlying76 rfl (infoRV _ (rvA_size HT3.out HTM.out S9 ps' cs' v pb cb pa ca))) rfl ?_
     exact HEX.out 4 _ (fun h => by cases h) (fun _ => ⟨rfl, HNO.out⟩) (box_off HRVX.out HZW.out) (below_setRow HLW.out (by omega) _)
    have q1 : ((NN : Int) == (v.last : Int) + 1) = true := beq_iff_eq.2 (by omega)
    have q2 : ((NN : Int) != (v.last : Int) + 1) = false := by rw [bne_eq_false_iff_eq]; omega
    obtain ⟨RB, hRB⟩ : ∃ RB, X.drop 8 = RB := ⟨_, rfl⟩
    have hst : stepV v X = some ⟨NN, v.some, v.body, v.after ++ [RB]⟩ := by unfold stepV; rw [if_neg HX9.out, HNN.out, if_neg hle, if_pos heq, hRB]
    have HNX := Lib.hid (HTK.out _ hst)
    have HDR : Hid (RBs wr (Cut.cutQ q kc 8) RB.length (kc - 8) RB) := by
     have h1 := (RBs.own HOX.out).drop 8 (by have := HX9.out; omega)
     rw [hRB] at h1
     have h2 : RB.length = X.length - 8 := by rw [← hRB, List.length_drop]
     rw [h2]; exact h1
    have HDL : Hid (X.length - 8 = RB.length) := by show _ = _; rw [← hRB, List.length_drop]
    have HNL9 : Hid (NN < 18446744073709551616) := hnl
    clear hle heq hst hRB
    have hfz := frozen_of_row _ _ 14 _ _ HRW.out
    obtain ⟨r1, r2, r3⟩ := rv_cell (v' := ⟨NN, v.some, v.body, v.after⟩) (pb' := pb) (cb' := cb) (pa' := pa) (ca' := ca) 14 0 (.int .u64 (NN : Int)) rfl HRW.out HRVX.out.rd HRVX.out.sb rfl HRVX.out.vb HRVX.out.af
    have HR3 := Lib.hid r1
    have HV3 := Lib.hid r2
    have HT9 := Lib.hid r3
    have hrun := Cut.cutR HBX.out 8 8 rfl (by have := HX9.out; omega)
    have HCL := Lib.hid hcl
    have HOB := Lib.hid (HRL.out.own)
    have HBL : Hid (b < wB.heap.size) := by
     obtain ⟨_, z1, _⟩ := HLS.out.all
     exact (z1.lt b rfl).2
    go_upto_region 25 with fail
    clear r1 r2 r3 hc14 hfz d3 d3' q1 q2 hw1
    have HCL3 : Hid ((wr.setCell ⟨g6, 14, none⟩ (.int .u64 (NN : Int))).cell? ⟨b, o + i, none⟩ = some (.slice q X.length kc)) := HT9.out.cell HCL.out (fun e => by
     obtain ⟨_, z1, _⟩ := HLS.out.all
     have e : b = g6 := e
     exact absurd (own_type z1 b _ _ _ rfl (by rw [e]; exact HRL0R.out)) (by decide))
    generalize wr.setCell ⟨g6, 14, none⟩ (.int .u64 (NN : Int)) = w3 at *
    clear hcl
    have HNO : Hid (∀ k, (Value.slice pa v.after.length ca).ownBlock = some k → ¬ k = g6) := fun k hk e => by
     have h1 := (HV3.out.af.ty hk).2
     subst e
     exact absurd (h1 _ _ _ HR3.out) (by decide)
    obtain ⟨-, -, -, hc17⟩ := rv_cells HT3.out HTM.out HR3.out
    have HK1 : Hid (∀ w', Turns (fun k => (Value.slice pa v.after.length ca).ownBlock = some k) w3 w' → w'.cell? ⟨g6, 17, none⟩ = some (.slice pa v.after.length ca)) := fun w' ht => ht.cell hc17 (fun hi => HNO.out _ hi rfl)
    have HK2 : Hid (∀ w', Turns (fun k => (Value.slice pa v.after.length ca).ownBlock = some k) w3 w' → w'.cell? ⟨b, o + i, none⟩ = some (.slice q X.length kc)) := fun w' ht => ht.cell HCL3.out (fun hi => by have h1 := HOB.out _ hi; have h2 := HBL.out; have h3 : wB.heap.size ≤ b := h1; omega)
    clear hc17
    refine wp_region_eager_t (Turns (fun k => (Value.slice pa v.after.length ca).ownBlock = some k) w3) [0, 1, 2, 3, 4, 5, 6, 9] [(0, true), (1, true), (2, true), (3, true), (4, true), (5, true), (6, true), (7, false), (8, false), (9, true)] [10] (by kernel_rfl) (by kernel_rfl) ?_ (eagerTOpen rfl ?_)
    ·exact (Turns.refl _ _).drew
    have hy0 : Turns (fun k => (Value.slice pa v.after.length ca).ownBlock = some k) w3 w3.drew := (Turns.refl _ _).drew
    repeat (first
     | ((first | (apply wpEagerT_take; (· rfl); (· (intro w' hb'; go_simp; try with_reducible rfl))) | refine wpEagerT_skip (by rfl) ?_); (try simp only [Act.put, zA, zB, zC]); (try refine eagerTOpen rfl ?_))
     | (apply wpEagerT_take; (· rfl); (· (intro w' hb'; have hk' := (HK1.out) w' hb'; go_split_ands; go_simp; try with_reducible rfl)); (try simp only [Act.put, zA, zB, zC]); (try refine eagerTOpen rfl ?_))
     | (apply wpEagerT_take; (· rfl); (· (intro w' hb'; have hk' := (HK2.out) w' hb'; go_split_ands; go_simp; try with_reducible rfl)); (try simp only [Act.put, zA, zB, zC]); (try refine eagerTOpen rfl ?_)))
    refine wpEagerT_op (by rfl) (fun K hK => oper_of_list rfl ?_)
    refine wpList_buildSl rfl _ rfl (Cut.cutQ q kc 8) (X.length - 8) (kc - 8) rfl ?_
    rw [HDL.out]
    have hal7 := Below.allocs w3.drew (.cells #[.slice (Cut.cutQ q kc 8) RB.length (kc - 8)] 22)
    have hy2 : Turns (fun k => (Value.slice pa v.after.length ca).ownBlock = some k) w3 (w3.drew.alloc (.cells #[.slice (Cut.cutQ q kc 8) RB.length (kc - 8)] 22)) := hy0.alloc _
    have HBA2 : Hid (Below w3.heap.size w3 (w3.drew.alloc (.cells #[.slice (Cut.cutQ q kc 8) RB.length (kc - 8)] 22))) := (below_drew1 w3.heap.size w3).trans hal7
    have HX8 := Lib.hid (hdr_sl w3.drew (.slice (Cut.cutQ q kc 8) RB.length (kc - 8)) 22 w3.drew.heap.size rfl)
    refine only_end (Shut.out hK _ _ hy2 ?_)
    clear hK K hal7
    (try simp only [Act.put, zA, zB, zC]); (try refine eagerTOpen rfl ?_)
    refine wpEagerT_op (by rfl) (fun K hK => oper_of_list rfl ?_)
    obtain ⟨hs8, g1, g2⟩ := HV3.out.af.all
    dsimp only at g1 g2
    have HO8 := Lib.hid (own_touch g1 (Turns.of_below (S := fun _ => False) HBA2.out) (fun _ _ h => h))
    have hal := HRL.out.len
    have hix := HIX.out
    refine wpList_append_nx rfl _ _ 31 rfl (base := 0) Tryz.underlying31 infoS rfl (by omega) rfl HO8.out rfl HX8.out (fun u hu => by rw [List.mem_singleton] at hu; subst hu; rfl) ⟨by omega, by omega⟩ (Nat.zero_le _) ?_
    intro p9 c9 w5 ho9 hgr hnx _
    have hy5 : Turns (fun k => (Value.slice pa v.after.length ca).ownBlock = some k) w3 w5 := hy2.trans (Turns.grown hgr (S := fun k => (Value.slice pa v.after.length ca).ownBlock = some k) (fun k hk => hk)) (fun _ _ h => h)
    refine only_end (Shut.out hK _ _ hy5 ?_)
    clear hK K
    (try simp only [Act.put, zA, zB, zC]); (try refine eagerTOpen rfl ?_)
    repeat ((first | (apply wpEagerT_take; (· rfl); (· (intro w' hb'; go_simp; try with_reducible rfl))) | refine wpEagerT_skip (by rfl) ?_); (try simp only [Act.put, zA, zB, zC]); (try refine eagerTOpen rfl ?_))
    refine eagerTEnd (tail1 rfl ?_)
    have hkr5 := HV3.out.af.kr hy5
    have hls5 : LsR w5 (.slice p9 (v.after.length + 1) c9) (v.after ++ [RB]) := LsR.push g1 g2 HBA2.out ((HDR.out.step (kr_turn (base := 0) HT9.out HRW.out (by decide) (by decide)))) ho9 hgr
    have hlen : (v.after ++ [RB]).length = v.after.length + 1 := by rw [List.length_append]; rfl
    have hr5 := hy5.keep HR3.out (fun hi => HNO.out _ hi rfl)
    have hc5 := HK1.out w5 hy5
    have hf5 := frozen_of_row _ _ 17 _ _ hr5
    obtain ⟨r1, r2, r3⟩ := rv_cell (v' := ⟨NN, v.some, v.body, v.after ++ [RB]⟩) (pb' := pb) (cb' := cb) (pa' := p9) (ca' := c9) 17 3 (.slice p9 (v.after.length + 1) c9) rfl hr5 (HV3.out.rd.step hkr5) (HV3.out.sb.step hkr5) (by rw [hlen]; rfl) (HV3.out.vb.step hkr5) (by rw [hlen]; exact hls5)
    have HRLN : Hid (RL g6 T' D9 S9 ps' cs' v0 ⟨NN, v.some, v.body, v.after ++ [RB]⟩ pb cb p9 c9 L0 wB (i + 1) (w5.setCell ⟨g6, 17, none⟩ (.slice p9 (v.after.length + 1) c9))) :=
     ⟨r1, r2, HNX.out, ((HRL.out.tb.trans HT9.out (fun _ _ hS => hS)).trans hy5 (fun k hk hS => by have := HOB.out k hS; omega)).trans r3 (fun _ _ hS => hS), fun k hk => by
      rw [hlen] at hk
      rcases hnx k hk with h | h
      ·exact HOB.out k h
      ·rw [h]
       have h1 := HRL.out.tb.size
       have h2 := HT9.out.size
       have h3 := HBA2.out.size
       omega, by rw [hlen]; have := HRL.out.len; omega, HNL9.out⟩
    clear hy0 hy2 hy5 ho9 hgr hnx hkr5 hls5 hlen r1 r2 r3 g1 g2 hal hix
    clear HX8 HO8 HBA2
    go_wp2_with fail
    refine noPanic_end ?_
    go_wp2_with fail
    go_roundw
    case rel => exact ⟨i + 1, ⟨NN, v.some, v.body, v.after ++ [RB]⟩, pb, cb, p9, c9, HIX.out, by go_num, HRLN.out⟩
    case measure => have := HIX.out; simp [intOf]; omega
   ·have hd1 : decide ((i : Int) < (L0.length : Int)) = false := decide_eq_false (by omega)
    have hd2 : decide (i < L0.length) = false := decide_eq_false hlt
    have hrn := HRL.out.run
    rw [List.take_of_length_le (by omega)] at hrn
    have HRN := Lib.hid hrn
    clear hrn hlt
    skip
    go_wp2_with (first
     | refine wpList_load_row rfl 76 _ rfl g6 rfl 76 (rvA T' D9 S9 ps' cs' v pb cb pa ca) (0, 0) _ HRW.out Tryz.underlying76 rfl (infoRV _ (rvA_size HT3.out HTM.out S9 ps' cs' v pb cb pa ca)) ?_
     | refine wpList_store_row rfl 76 _ _ rfl (w.heap.size + 1) (rvA T' D9 S9 ps' cs' v pb cb pa ca) rfl rfl 76 zRV HZW.out (infoRV _ (rvA_size HT3.out HTM.out S9 ps' cs' v pb cb pa ca)) (by rw [rvA_size HT3.out HTM.out S9 ps' cs' v pb cb pa ca]; rfl) (rvA_one HT3.out HTM.out S9 ps' cs' v pb cb pa ca) ?_)
    have HS := Lib.hid (setRow_heap _ _ _ (rvA T' D9 S9 ps' cs' v pb cb pa ca) _ _ HZW.out)
    refine bodyPost_ret (results_cell_tmp2 rfl _ _ _ _ _ _ _ rfl HS.out Tryz.underlying76 rfl (infoRV _ (rvA_size HT3.out HTM.out S9 ps' cs' v pb cb pa ca))) rfl ?_
    exact HEX.out 0 _ (fun _ => HRN.out) (fun h => absurd rfl h) (box_off HRVX.out HZW.out) (below_setRow HLW.out (by omega) _)
 have hd : decide ((0 : Int) < (S9.turn : Int)) = true := decide_eq_true (by omega)
 have hd' : decide (0 < S9.turn) = true := decide_eq_true (by omega)
 have HT0 : Hid (¬ S9.turn = 0) := ht
 clear ht
 by_cases h8 : S9.body.length < 8
 ·have d8 : decide ((S9.body.length : Int) < 8) = true := decide_eq_true (by omega)
  have d8' : decide (S9.body.length < 8) = true := decide_eq_true h8
  have HVN : Hid (vopF d = none) := vopF_no (by rw [HS9.out]; unfold startV; rw [if_neg HT0.out, if_pos h8])
  have HEE : Hid (ropE d = 4) := by show _ = _; unfold ropE; rw [if_pos HOE.out, HVN.out]; rfl
  clear h8
  skip
  go_wp2_with (first
   | refine wpList_load_row rfl 76 _ rfl g6 rfl 76 (rvA T' D9 S9 ps' cs' VS.zero none 0 none 0) (0, 0) _ HRW.out Tryz.underlying76 rfl (infoRV _ (rvA_size HT3.out HTM.out S9 ps' cs' VS.zero none 0 none 0)) ?_
   | refine wpList_store_row rfl 76 _ _ rfl (w.heap.size + 1) (rvA T' D9 S9 ps' cs' VS.zero none 0 none 0) rfl rfl 76 zRV HZW.out (infoRV _ (rvA_size HT3.out HTM.out S9 ps' cs' VS.zero none 0 none 0)) (by rw [rvA_size HT3.out HTM.out S9 ps' cs' VS.zero none 0 none 0]; rfl) (rvA_one HT3.out HTM.out S9 ps' cs' VS.zero none 0 none 0) ?_)
  have HS := Lib.hid (setRow_heap _ _ _ (rvA T' D9 S9 ps' cs' VS.zero none 0 none 0) _ _ HZW.out)
  refine bodyPost_ret (results_cell_tmp2 rfl _ _ _ _ _ _ _ rfl HS.out Tryz.underlying76 rfl (infoRV _ (rvA_size HT3.out HTM.out S9 ps' cs' VS.zero none 0 none 0))) rfl ?_
  exact ⟨T', VS.zero, ps', cs', none, 0, none, 0, by rw [HD9.out, HS9.out, HEE.out]; rfl, by rw [HD9.out, HS9.out]; exact box_off HRVX.out HZW.out, below_setRow HLW.out (by omega) _, fun _ v' h => (by rw [HVN.out] at h; cases h), fun k hk => by cases hk⟩
 have d8 : decide ((S9.body.length : Int) < 8) = false := decide_eq_false (by omega)
 have d8' : decide (S9.body.length < 8) = false := decide_eq_false h8
 have HSTART0 : Hid (startV (opnS d 1 2) = some ⟨Rdr.beN (S9.body.take 8), true, S9.body.drop 8, []⟩) := by show _ = _; rw [HS9.out]; unfold startV; rw [if_neg HT0.out, if_neg h8]
 have HN8 : Hid (8 ≤ S9.body.length) := by show _ ≤ _; omega
 clear h8
 have hfz := frozen_of_row _ _ 15 _ _ HRW.out
 obtain ⟨-, hc15, -, -⟩ := rv_cells HT3.out HTM.out HRW.out
 obtain ⟨r1, r2, r3⟩ := rv_cell (v' := ⟨0, true, [], []⟩) (pb' := none) (cb' := 0) (pa' := none) (ca' := 0) 15 1 (.bool true) rfl HRW.out HRVX.out.rd HRVX.out.sb rfl HRVX.out.vb HRVX.out.af
 have HR5 := Lib.hid r1
 have HV5 := Lib.hid r2
 have HZ5 := Lib.hid (r3.keep HZW.out (by have := HG6L.out; omega))
 have HG15 := Lib.hid (r3.keep HG1.out (by have := HG6L.out; omega))
 have HG45 := Lib.hid (r3.keep HG4X.out (fun e => by
  have h1 := HG4X.out
  rw [e, HRW.out] at h1
  injection h1 with e1
  injection e1 with _ e2
  exact absurd e2 (by decide)))
 have HL5 := Lib.hid (HLW.out.trans (r3.below HLW.out.size (fun k hk => by have hk : k = g6 := hk; have := HG6L.out; omega)))
 go_upto_region 12 with fail
 clear r1 r2 r3 hc15 hfz hd hd' d8 d8' hc3 hc4 HRW HRVX HZW HG1 HG4X HLW
 generalize w4.setCell ⟨g6, 15, none⟩ (.bool true) = w5 at *
 obtain ⟨-, -, -, -, hc4⟩ := rs_cells HG45.out
 have HBX := Lib.hid HV5.out.sb.bs
 have HVL := Lib.hid (value22_any S9.body HN8.out ps' cs' w5 HBX.out)
 have hnl := n8_lt S9.body
 obtain ⟨NN, hNN⟩ : ∃ NN, Rdr.beN (S9.body.take 8) = NN := ⟨_, rfl⟩
 rw [hNN] at HVL hnl HSTART0
 have HNL9 : Hid (NN < 18446744073709551616) := hnl
 clear hNN hnl
 go_wp2_with fail
 refine HVL.out.mono ?_
 rintro e w' ⟨rfl, rfl⟩
 clear HVL
 have hfz := frozen_of_row _ _ 14 _ _ HR5.out
 obtain ⟨hc14, -, -, -⟩ := rv_cells HT3.out HTM.out HR5.out
 obtain ⟨r1, r2, r3⟩ := rv_cell (v' := ⟨NN, true, [], []⟩) (pb' := none) (cb' := 0) (pa' := none) (ca' := 0) 14 0 (.int .u64 (NN : Int)) rfl HR5.out HV5.out.rd HV5.out.sb rfl HV5.out.vb HV5.out.af
 have HR6 := Lib.hid r1
 have HV6 := Lib.hid r2
 have HZ6 := Lib.hid (r3.keep HZ5.out (by have := HG6L.out; omega))
 have HG16 := Lib.hid (r3.keep HG15.out (by have := HG6L.out; omega))
 have HG46 := Lib.hid (r3.keep HG45.out (fun e => by
  have h1 := HG45.out
  rw [e, HR5.out] at h1
  injection h1 with e1
  injection e1 with _ e2
  exact absurd e2 (by decide)))
 have HL6 := Lib.hid (HL5.out.trans (r3.below HL5.out.size (fun k hk => by have hk : k = g6 := hk; have := HG6L.out; omega)))
 go_upto_region 13 with fail
 clear r1 r2 r3 hc14 hfz hc4 HR5 HV5 HZ5 HG15 HG45 HL5
 generalize w5.setCell ⟨g6, 14, none⟩ (.int .u64 (NN : Int)) = w6 at *
 obtain ⟨-, -, -, -, hc4⟩ := rs_cells HG46.out
 have hrun := Cut.cutR HBX.out 8 8 rfl HN8.out
 obtain ⟨RB, hRB⟩ : ∃ RB, S9.body.drop 8 = RB := ⟨_, rfl⟩
 have hRL : S9.body.length - 8 = RB.length := by rw [← hRB, List.length_drop]
 have HDR : Hid (RBs w6 (Cut.cutQ ps' cs' 8) RB.length (cs' - 8) RB) := by
  have h1 := HV6.out.sb.drop 8 HN8.out
  rw [hRB, hRL] at h1
  exact h1
 rw [hRB] at HSTART0
 rw [hRL] at hrun
 clear hRB hRL
 have hfz := frozen_of_row _ _ 16 _ _ HR6.out
 obtain ⟨-, -, hc16, -⟩ := rv_cells HT3.out HTM.out HR6.out
 obtain ⟨r1, r2, r3⟩ := rv_cell (v' := ⟨NN, true, RB, []⟩) (pb' := Cut.cutQ ps' cs' 8) (cb' := cs' - 8) (pa' := none) (ca' := 0) 16 2 (.slice (Cut.cutQ ps' cs' 8) RB.length (cs' - 8)) rfl HR6.out HV6.out.rd HV6.out.sb rfl HDR.out HV6.out.af
 have HRW := Lib.hid r1
 have HRVX := Lib.hid r2
 have HZW := Lib.hid (r3.keep HZ6.out (by have := HG6L.out; omega))
 have HG1 := Lib.hid (r3.keep HG16.out (by have := HG6L.out; omega))
 have HLW := Lib.hid (HL6.out.trans (r3.below HL6.out.size (fun k hk => by have hk : k = g6 := hk; have := HG6L.out; omega)))
 go_upto_region 14 with fail
 clear r1 r2 r3 hc16 hfz hc4 hrun HR6 HV6 HZ6 HG16 HG46 HL6 HDR HBX
 generalize w6.setCell ⟨g6, 16, none⟩ (.slice (Cut.cutQ ps' cs' 8) RB.length (cs' - 8)) = w7 at *
 generalize Cut.cutQ ps' cs' 8 = pq at *
 generalize cs' - 8 = cq at *
 obtain ⟨v0, hv0⟩ : ∃ v0 : VS, v0 = ⟨NN, true, RB, []⟩ := ⟨_, rfl⟩
 have HAF : Hid (v0.after.length = 0) := by rw [hv0]; exact rfl
 have HLL : Hid (v0.last < 18446744073709551616) := by rw [hv0]; exact HNL9.out
 have HSTART : Hid (startV (opnS d 1 2) = some v0) := by rw [hv0]; exact HSTART0.out
 have HRW2 : Hid (w7.heap[g6]? = some (.cells (rvA T' D9 S9 ps' cs' v0 pq cq none 0) 76 (0, 0))) := by rw [hv0]; exact HRW.out
 have HRV2 : Hid (RVR w7 T' D9 S9 ps' cs' v0 pq cq none 0) := by rw [hv0]; exact HRVX.out
 clear HRW HRVX HSTART0 hv0
 have HRW := Lib.hid HRW2.out
 have HRVX := Lib.hid HRV2.out
 clear HRW2 HRV2
 skip
 have hbo := rbodies_any T' D9 0 (by omega) w7 HRVX.out.rd
 unfold RBodP at hbo
 have HNL : Hid (∀ l, L0 = l → l.length ≤ 1000000) := by
  show ∀ l, _ → _
  intro l hl
  have h1 := scan_count (fD D9 0).now
  have h2 := HNOW.out
  rw [HL0.out] at h1
  rw [← hl]
  omega
 rw [HL0.out] at hbo
 have HBO := Lib.hid hbo
 have HRUN : Hid (vopF d = runV v0 L0) := by show _ = _; rw [vopF_runs HSTART.out, HD9.out, HL0.out]
 have HLEN : Hid (L0.length ≤ 1000000) := HNL.out L0 rfl
 clear hbo HNL HL0
 go_wp2_with (refine wpList_load_row rfl 65 _ rfl w.heap.size rfl 65 (rdA T' D9) (0, 0) _ HG1.out Tryz.underlying65 rfl (infoRD _ (rdA_size HT3.out HTM.out)) ?_)
 refine HBO.out.mono ?_
 rintro e wB ⟨vl, rfl, hls, hbB⟩
 have HLS := Lib.hid hls
 have HZB := Lib.hid (Below.keepOld hbB HZW.out)
 have HLB := Lib.hid (HLW.out.trans (hbB.mono HLW.out.size))
 have HRL0 : Hid (RL g6 T' D9 S9 ps' cs' v0 v0 pq cq none 0 L0 wB 0 wB) := ⟨Below.keepOld hbB HRW.out, HRVX.out.below hbB, rfl, Turns.refl _ _, (fun k hh => by cases hh), by rw [HAF.out]; exact Nat.zero_le _, HLL.out⟩
 have HRL0R := Lib.hid HRL0.out.row
 have hpt := hls.ls.sl
 obtain ⟨pl, cl, rfl, hpts⟩ := hpt
 have hlen := HLEN.out
 have hlc := hpts.le
 have hlm := hpts.max
 clear hls hbB HBO HZW HLW HRW HRVX hpts
 go_upto_region 15 with fail
 go_wp2_with fail
 go_loopw [8, 9] (fun j _ wr => ∃ (i : Nat) (v : VS) (pb : Option Addr) (cb : Nat) (pa : Option Addr) (ca : Nat), i ≤ L0.length ∧ j = .int .i64 i ∧ RL g6 T' D9 S9 ps' cs' v0 v pb cb pa ca L0 wB i wr) (fun j _ _ => L0.length - (intOf j).toNat)
 case atStart => exact ⟨0, v0, pq, cq, none, 0, Nat.zero_le _, rfl, HRL0.out⟩
 case round =>
  clear HRL0
  obtain ⟨i, v, pb, cb, pa, ca, hi, rfl, hrl⟩ := hrel
  have HRL := Lib.hid hrl
  clear hrl
  have HRW := Lib.hid HRL.out.row
  have HRVX := Lib.hid HRL.out.rv
  have HZW := Lib.hid (HRL.out.tb.keep HZB.out (by have := HG6L.out; omega))
  have HLW := Lib.hid (HLB.out.trans (HRL.out.tb.below HLB.out.size (fun k hk => by have hk : k = g6 := hk; have := HG6L.out; omega)))
  have HEX : Hid (∀ (E : Int) (w9 : World), (E = 0 → runV v0 L0 = some v) → (E ≠ 0 → E = 4 ∧ runV v0 L0 = none) → RVR w9 T' D9 S9 ps' cs' v pb cb pa ca → Below w.heap.size w w9 → RVOpP d w (.returned (.tuple #[.agg (rvA T' D9 S9 ps' cs' v pb cb pa ca), .int .i64 E])) w9) := fun E w9 h1 h2 h3 h4 => by
   refine ⟨T', v, ps', cs', pb, cb, pa, ca, ?_, by rw [HD9.out, HS9.out]; exact h3, h4, fun _ v' hv => ?_, fun k hk => Nat.le_trans HLB.out.size (HRL.out.own k hk)⟩
   ·rw [HD9.out, HS9.out]
    have : ropE d = E := by
     unfold ropE
     rw [if_pos HOE.out, HRUN.out]
     by_cases hE : E = 0
     ·rw [h1 hE, hE]; rfl
     ·rw [(h2 hE).2, (h2 hE).1]; rfl
    rw [this]
   ·rw [HRUN.out] at hv
    by_cases hE : E = 0
    ·rw [h1 hE] at hv; cases hv; rfl
    ·rw [(h2 hE).2] at hv; cases hv
  by_cases hlt : i < L0.length
  ·have hd1 : decide ((i : Int) < (L0.length : Int)) = true := decide_eq_true (by omega)
   have hd2 : decide (i < L0.length) = true := decide_eq_true hlt
   have hlso := lsO_turn HLS.out HRL.out.tb (fun k M t fr hk hm => by
    have hk : k = g6 := hk
    subst hk
    have h1 := HRL.out.row
    have h2 := HRL0R.out
    rw [hm] at h2
    injection h2 with e1
    injection e1 with _ e2
    subst e2
    exact ⟨by decide, by decide⟩)
   obtain ⟨hs9, g1, g2⟩ := hlso.all
   obtain ⟨p', c', he', hsl⟩ := own_sl g1
   cases he'
   obtain ⟨q, kc, e1, e2⟩ := g2 i hlt
   obtain ⟨b, o, rfl⟩ := hsl.addr (by omega) (by omega)
   have hcl := hsl.cell _ rfl i _ e1
   rw [add_none] at hcl
   have HIX : Hid (i < L0.length) := hlt
   have HOX := Lib.hid e2
   have HSK := Lib.hid (fun hs => HRL.out.skip HIX.out hs)
   have HBA := Lib.hid (fun hs => HRL.out.bad HIX.out hs)
   have HTK : Hid (∀ v' : VS, stepV v L0[i] = some v' → runV v0 (L0.take (i + 1)) = some v') := fun v' hs => by rw [take_snoc L0 i HIX.out, runV_snoc, HRL.out.run]; exact hs
   generalize hX : L0[i]'hlt = X at hcl HOX HSK HBA HTK
   have HBX := Lib.hid (Cut.own_bs HOX.out)
   have hxc := HBX.out.le
   have hxm := HBX.out.max
   clear hlso g1 g2 hsl e1 e2 hX
   by_cases h9 : X.length < 9
   ·have d1 : decide ((X.length : Int) < 9) = true := decide_eq_true (by omega)
    have d1' : decide (X.length < 9) = true := decide_eq_true h9
    have hst : stepV v X = none := by unfold stepV; rw [if_pos h9]
    have HNO := Lib.hid (HBA.out hst)
    clear h9 hst
    skip
    go_wp2_with (first
     | refine wpList_load_row rfl 76 _ rfl g6 rfl 76 (rvA T' D9 S9 ps' cs' v pb cb pa ca) (0, 0) _ HRW.out Tryz.underlying76 rfl (infoRV _ (rvA_size HT3.out HTM.out S9 ps' cs' v pb cb pa ca)) ?_
     | refine wpList_store_row rfl 76 _ _ rfl (w.heap.size + 1) (rvA T' D9 S9 ps' cs' v pb cb pa ca) rfl rfl 76 zRV HZW.out (infoRV _ (rvA_size HT3.out HTM.out S9 ps' cs' v pb cb pa ca)) (by rw [rvA_size HT3.out HTM.out S9 ps' cs' v pb cb pa ca]; rfl) (rvA_one HT3.out HTM.out S9 ps' cs' v pb cb pa ca) ?_)
    have HS := Lib.hid (setRow_heap _ _ _ (rvA T' D9 S9 ps' cs' v pb cb pa ca) _ _ HZW.out)
    refine bodyPost_ret (results_cell_tmp2 rfl _ _ _ _ _ _ _ rfl HS.out Tryz.underlying76 rfl (infoRV _ (rvA_size HT3.out HTM.out S9 ps' cs' v pb cb pa ca))) rfl ?_
    exact HEX.out 4 _ (fun h => by cases h) (fun _ => ⟨rfl, HNO.out⟩) (box_off HRVX.out HZW.out) (below_setRow HLW.out (by omega) _)
   have d1 : decide ((X.length : Int) < 9) = false := decide_eq_false (by omega)
   have d1' : decide (X.length < 9) = false := decide_eq_false h9
   have HX9 : Hid (¬ X.length < 9) := h9
   have HVL := Lib.hid (value22_any X (by omega) q kc wr HBX.out)
   have hnl := n8_lt X
   obtain ⟨NN, hNN⟩ : ∃ NN, Rdr.beN (X.take 8) = NN := ⟨_, rfl⟩
   rw [hNN] at HVL hnl
   have HNN := Lib.hid hNN
   clear h9 hNN
   go_upto_region 20 with fail
   go_wp2_with fail
   refine HVL.out.mono ?_
   rintro e w' ⟨rfl, rfl⟩
   clear HVL d1 d1'
   obtain ⟨hc14, -, -, -⟩ := rv_cells HT3.out HTM.out HRW.out
   by_cases hle : NN ≤ v.last
   ·have d3 : decide ((NN : Int) ≤ (v.last : Int)) = true := decide_eq_true (by omega)
    have d3' : decide (NN ≤ v.last) = true := decide_eq_true hle
    have hst : stepV v X = some v := by unfold stepV; rw [if_neg HX9.out, HNN.out, if_pos hle]
    have HNX := Lib.hid (HSK.out hst)
    clear hle hst
    go_wp2_with fail
    go_roundw
    case rel => exact ⟨i + 1, v, pb, cb, pa, ca, HIX.out, by go_num, HNX.out⟩
    case measure => have := HIX.out; simp [intOf]; omega
   have d3 : decide ((NN : Int) ≤ (v.last : Int)) = false := decide_eq_false (by omega)
   have d3' : decide (NN ≤ v.last) = false := decide_eq_false hle
   have hw1 : IntKind.u64.wrap ((v.last : Int) + 1) = (v.last : Int) + 1 := by rw [IntKind.wrap_u64]; omega
   by_cases heq : NN = v.last + 1
   rotate_left
   ·have q1 : ((NN : Int) == (v.last : Int) + 1) = false := beq_eq_false_iff_ne.2 (by omega)
    have q2 : ((NN : Int) != (v.last : Int) + 1) = true := bne_iff_ne.2 (by omega)
    have hst : stepV v X = none := by unfold stepV; rw [if_neg HX9.out, HNN.out, if_neg hle, if_neg heq]
    have HNO := Lib.hid (HBA.out hst)
    clear hle heq hst
    skip
    go_wp2_with (first
     | refine wpList_load_row rfl 76 _ rfl g6 rfl 76 (rvA T' D9 S9 ps' cs' v pb cb pa ca) (0, 0) _ HRW.out Tryz.underlying76 rfl (infoRV _ (rvA_size HT3.out HTM.out S9 ps' cs' v pb cb pa ca)) ?_
     | refine wpList_store_row rfl 76 _ _ rfl (w.heap.size + 1) (rvA T' D9 S9 ps' cs' v pb cb pa ca) rfl rfl 76 zRV HZW.out (infoRV _ (rvA_size HT3.out HTM.out S9 ps' cs' v pb cb pa ca)) (by rw [rvA_size HT3.out HTM.out S9 ps' cs' v pb cb pa ca]; rfl) (rvA_one HT3.out HTM.out S9 ps' cs' v pb cb pa ca) ?_)
    have HS := Lib.hid (setRow_heap _ _ _ (rvA T' D9 S9 ps' cs' v pb cb pa ca) _ _ HZW.out)
    refine bodyPost_ret (results_cell_tmp2 rfl _ _ _ _ _ _ _ rfl HS.out Tryz.underlying76 rfl (infoRV _ (rvA_size HT3.out HTM.out S9 ps' cs' v pb cb pa ca))) rfl ?_
    exact HEX.out 4 _ (fun h => by cases h) (fun _ => ⟨rfl, HNO.out⟩) (box_off HRVX.out HZW.out) (below_setRow HLW.out (by omega) _)
   have q1 : ((NN : Int) == (v.last : Int) + 1) = true := beq_iff_eq.2 (by omega)
   have q2 : ((NN : Int) != (v.last : Int) + 1) = false := by rw [bne_eq_false_iff_eq]; omega
   obtain ⟨RB, hRB⟩ : ∃ RB, X.drop 8 = RB := ⟨_, rfl⟩
   have hst : stepV v X = some ⟨NN, v.some, v.body, v.after ++ [RB]⟩ := by unfold stepV; rw [if_neg HX9.out, HNN.out, if_neg hle, if_pos heq, hRB]
   have HNX := Lib.hid (HTK.out _ hst)
   have HDR : Hid (RBs wr (Cut.cutQ q kc 8) RB.length (kc - 8) RB) := by
    have h1 := (RBs.own HOX.out).drop 8 (by have := HX9.out; omega)
    rw [hRB] at h1
    have h2 : RB.length = X.length - 8 := by rw [← hRB, List.length_drop]
    rw [h2]; exact h1
   have HDL : Hid (X.length - 8 = RB.length) := by show _ = _; rw [← hRB, List.length_drop]
   have HNL9 : Hid (NN < 18446744073709551616) := hnl
   clear hle heq hst hRB
   have hfz := frozen_of_row _ _ 14 _ _ HRW.out
   obtain ⟨r1, r2, r3⟩ := rv_cell (v' := ⟨NN, v.some, v.body, v.after⟩) (pb' := pb) (cb' := cb) (pa' := pa) (ca' := ca) 14 0 (.int .u64 (NN : Int)) rfl HRW.out HRVX.out.rd HRVX.out.sb rfl HRVX.out.vb HRVX.out.af
   have HR3 := Lib.hid r1
   have HV3 := Lib.hid r2
   have HT9 := Lib.hid r3
   have hrun := Cut.cutR HBX.out 8 8 rfl (by have := HX9.out; omega)
   have HCL := Lib.hid hcl
   have HOB := Lib.hid (HRL.out.own)
   have HBL : Hid (b < wB.heap.size) := by
    obtain ⟨_, z1, _⟩ := HLS.out.all
    exact (z1.lt b rfl).2
   go_upto_region 25 with fail
   clear r1 r2 r3 hc14 hfz d3 d3' q1 q2 hw1
   have HCL3 : Hid ((wr.setCell ⟨g6, 14, none⟩ (.int .u64 (NN : Int))).cell? ⟨b, o + i, none⟩ = some (.slice q X.length kc)) := HT9.out.cell HCL.out (fun e => by
    obtain ⟨_, z1, _⟩ := HLS.out.all
    have e : b = g6 := e
    exact absurd (own_type z1 b _ _ _ rfl (by rw [e]; exact HRL0R.out)) (by decide))
   generalize wr.setCell ⟨g6, 14, none⟩ (.int .u64 (NN : Int)) = w3 at *
   clear hcl
   have HNO : Hid (∀ k, (Value.slice pa v.after.length ca).ownBlock = some k → ¬ k = g6) := fun k hk e => by
    have h1 := (HV3.out.af.ty hk).2
    subst e
    exact absurd (h1 _ _ _ HR3.out) (by decide)
   obtain ⟨-, -, -, hc17⟩ := rv_cells HT3.out HTM.out HR3.out
   have HK1 : Hid (∀ w', Turns (fun k => (Value.slice pa v.after.length ca).ownBlock = some k) w3 w' → w'.cell? ⟨g6, 17, none⟩ = some (.slice pa v.after.length ca)) := fun w' ht => ht.cell hc17 (fun hi => HNO.out _ hi rfl)
   have HK2 : Hid (∀ w', Turns (fun k => (Value.slice pa v.after.length ca).ownBlock = some k) w3 w' → w'.cell? ⟨b, o + i, none⟩ = some (.slice q X.length kc)) := fun w' ht => ht.cell HCL3.out (fun hi => by have h1 := HOB.out _ hi; have h2 := HBL.out; have h3 : wB.heap.size ≤ b := h1; omega)
   clear hc17
   refine wp_region_eager_t (Turns (fun k => (Value.slice pa v.after.length ca).ownBlock = some k) w3) [0, 1, 2, 3, 4, 5, 6, 9] [(0, true), (1, true), (2, true), (3, true), (4, true), (5, true), (6, true), (7, false), (8, false), (9, true)] [10] (by kernel_rfl) (by kernel_rfl) ?_ (eagerTOpen rfl ?_)
   ·exact (Turns.refl _ _).drew
   have hy0 : Turns (fun k => (Value.slice pa v.after.length ca).ownBlock = some k) w3 w3.drew := (Turns.refl _ _).drew
   repeat (first
    | ((first | (apply wpEagerT_take; (· rfl); (· (intro w' hb'; go_simp; try with_reducible rfl))) | refine wpEagerT_skip (by rfl) ?_); (try simp only [Act.put, zA, zB, zC]); (try refine eagerTOpen rfl ?_))
    | (apply wpEagerT_take; (· rfl); (· (intro w' hb'; have hk' := (HK1.out) w' hb'; go_split_ands; go_simp; try with_reducible rfl)); (try simp only [Act.put, zA, zB, zC]); (try refine eagerTOpen rfl ?_))
    | (apply wpEagerT_take; (· rfl); (· (intro w' hb'; have hk' := (HK2.out) w' hb'; go_split_ands; go_simp; try with_reducible rfl)); (try simp only [Act.put, zA, zB, zC]); (try refine eagerTOpen rfl ?_)))
   refine wpEagerT_op (by rfl) (fun K hK => oper_of_list rfl ?_)
   refine wpList_buildSl rfl _ rfl (Cut.cutQ q kc 8) (X.length - 8) (kc - 8) rfl ?_
   rw [HDL.out]
   have hal7 := Below.allocs w3.drew (.cells #[.slice (Cut.cutQ q kc 8) RB.length (kc - 8)] 22)
   have hy2 : Turns (fun k => (Value.slice pa v.after.length ca).ownBlock = some k) w3 (w3.drew.alloc (.cells #[.slice (Cut.cutQ q kc 8) RB.length (kc - 8)] 22)) := hy0.alloc _
   have HBA2 : Hid (Below w3.heap.size w3 (w3.drew.alloc (.cells #[.slice (Cut.cutQ q kc 8) RB.length (kc - 8)] 22))) := (below_drew1 w3.heap.size w3).trans hal7
   have HX8 := Lib.hid (hdr_sl w3.drew (.slice (Cut.cutQ q kc 8) RB.length (kc - 8)) 22 w3.drew.heap.size rfl)
   refine only_end (Shut.out hK _ _ hy2 ?_)
   clear hK K hal7
   (try simp only [Act.put, zA, zB, zC]); (try refine eagerTOpen rfl ?_)
   refine wpEagerT_op (by rfl) (fun K hK => oper_of_list rfl ?_)
   obtain ⟨hs8, g1, g2⟩ := HV3.out.af.all
   dsimp only at g1 g2
   have HO8 := Lib.hid (own_touch g1 (Turns.of_below (S := fun _ => False) HBA2.out) (fun _ _ h => h))
   have hal := HRL.out.len
   have hix := HIX.out
   refine wpList_append_nx rfl _ _ 31 rfl (base := 0) Tryz.underlying31 infoS rfl (by omega) rfl HO8.out rfl HX8.out (fun u hu => by rw [List.mem_singleton] at hu; subst hu; rfl) ⟨by omega, by omega⟩ (Nat.zero_le _) ?_
   intro p9 c9 w5 ho9 hgr hnx _
   have hy5 : Turns (fun k => (Value.slice pa v.after.length ca).ownBlock = some k) w3 w5 := hy2.trans (Turns.grown hgr (S := fun k => (Value.slice pa v.after.length ca).ownBlock = some k) (fun k hk => hk)) (fun _ _ h => h)
   refine only_end (Shut.out hK _ _ hy5 ?_)
   clear hK K
   (try simp only [Act.put, zA, zB, zC]); (try refine eagerTOpen rfl ?_)
   repeat ((first | (apply wpEagerT_take; (· rfl); (· (intro w' hb'; go_simp; try with_reducible rfl))) | refine wpEagerT_skip (by rfl) ?_); (try simp only [Act.put, zA, zB, zC]); (try refine eagerTOpen rfl ?_))
   refine eagerTEnd (tail1 rfl ?_)
   have hkr5 := HV3.out.af.kr hy5
   have hls5 : LsR w5 (.slice p9 (v.after.length + 1) c9) (v.after ++ [RB]) := LsR.push g1 g2 HBA2.out ((HDR.out.step (kr_turn (base := 0) HT9.out HRW.out (by decide) (by decide)))) ho9 hgr
   have hlen : (v.after ++ [RB]).length = v.after.length + 1 := by rw [List.length_append]; rfl
   have hr5 := hy5.keep HR3.out (fun hi => HNO.out _ hi rfl)
   have hc5 := HK1.out w5 hy5
   have hf5 := frozen_of_row _ _ 17 _ _ hr5
   obtain ⟨r1, r2, r3⟩ := rv_cell (v' := ⟨NN, v.some, v.body, v.after ++ [RB]⟩) (pb' := pb) (cb' := cb) (pa' := p9) (ca' := c9) 17 3 (.slice p9 (v.after.length + 1) c9) rfl hr5 (HV3.out.rd.step hkr5) (HV3.out.sb.step hkr5) (by rw [hlen]; rfl) (HV3.out.vb.step hkr5) (by rw [hlen]; exact hls5)
   have HRLN : Hid (RL g6 T' D9 S9 ps' cs' v0 ⟨NN, v.some, v.body, v.after ++ [RB]⟩ pb cb p9 c9 L0 wB (i + 1) (w5.setCell ⟨g6, 17, none⟩ (.slice p9 (v.after.length + 1) c9))) :=
    ⟨r1, r2, HNX.out, ((HRL.out.tb.trans HT9.out (fun _ _ hS => hS)).trans hy5 (fun k hk hS => by have := HOB.out k hS; omega)).trans r3 (fun _ _ hS => hS), fun k hk => by
     rw [hlen] at hk
     rcases hnx k hk with h | h
     ·exact HOB.out k h
     ·rw [h]
      have h1 := HRL.out.tb.size
      have h2 := HT9.out.size
      have h3 := HBA2.out.size
      omega, by rw [hlen]; have := HRL.out.len; omega, HNL9.out⟩
   clear hy0 hy2 hy5 ho9 hgr hnx hkr5 hls5 hlen r1 r2 r3 g1 g2 hal hix
   clear HX8 HO8 HBA2
   go_wp2_with fail
   refine noPanic_end ?_
   go_wp2_with fail
   go_roundw
   case rel => exact ⟨i + 1, ⟨NN, v.some, v.body, v.after ++ [RB]⟩, pb, cb, p9, c9, HIX.out, by go_num, HRLN.out⟩
   case measure => have := HIX.out; simp [intOf]; omega
  ·have hd1 : decide ((i : Int) < (L0.length : Int)) = false := decide_eq_false (by omega)
   have hd2 : decide (i < L0.length) = false := decide_eq_false hlt
   have hrn := HRL.out.run
   rw [List.take_of_length_le (by omega)] at hrn
   have HRN := Lib.hid hrn
   clear hrn hlt
   skip
   go_wp2_with (first
    | refine wpList_load_row rfl 76 _ rfl g6 rfl 76 (rvA T' D9 S9 ps' cs' v pb cb pa ca) (0, 0) _ HRW.out Tryz.underlying76 rfl (infoRV _ (rvA_size HT3.out HTM.out S9 ps' cs' v pb cb pa ca)) ?_
    | refine wpList_store_row rfl 76 _ _ rfl (w.heap.size + 1) (rvA T' D9 S9 ps' cs' v pb cb pa ca) rfl rfl 76 zRV HZW.out (infoRV _ (rvA_size HT3.out HTM.out S9 ps' cs' v pb cb pa ca)) (by rw [rvA_size HT3.out HTM.out S9 ps' cs' v pb cb pa ca]; rfl) (rvA_one HT3.out HTM.out S9 ps' cs' v pb cb pa ca) ?_)
   have HS := Lib.hid (setRow_heap _ _ _ (rvA T' D9 S9 ps' cs' v pb cb pa ca) _ _ HZW.out)
   refine bodyPost_ret (results_cell_tmp2 rfl _ _ _ _ _ _ _ rfl HS.out Tryz.underlying76 rfl (infoRV _ (rvA_size HT3.out HTM.out S9 ps' cs' v pb cb pa ca))) rfl ?_
   exact HEX.out 0 _ (fun _ => HRN.out) (fun h => absurd rfl h) (box_off HRVX.out HZW.out) (below_setRow HLW.out (by omega) _)
end Go.Proofs.YtnejjfglkindjaaGreatDoor.Vlt
