/- PARTS, JOINED: THE LAW OF DISKS: step: one call both ways. Conditions: sizes that fit. A REGION THAT DRAWS ITS ORDER, WALKED IN ONE ORDER, WHERE A CALL MAY TELL MORE OF THE WORLD THAN WAS KNOWN AT THE START (the condition may grow behind each operation that runs in its turn). No program is named. Conditions: none. THE LAW OF DISKS: like: a disk stands as the document's. Conditions: none. THE LAW DiskDoes. Conditions: a bulk that fits. WHAT THE BOUND OF AN '..UptoSaid' GIVES: sizes of what came in. Conditions: the bound. CALLS OF A STATEMENT ON DISKS, that came in, with their bulk. Conditions: none. -/
import Derived.Test.YtbkkcejpkfbcjaaDd1
import Derived.Test.YtbkkcejpkfbcjaaDd2
import Derived.Test.YtbkkcejpkfbcjaaDd3
import Derived.Test.YtbkkcejpkfbcjaaDd4
import Derived.Test.YtbkkcejpkfbcjaaDd5
import Derived.Test.YtbkkcejpkfbcjaaDd6
import Derived.Test.YtbkkcejpkfbcjaaDd7
import Derived.Test.YtbkkcejpkfbcjaaRows
import Derived.SizedLaws
namespace Go.Proofs.Ytbkkcejpkfbcjaa.Rol
open Go.RowKit Go.Mir Go.Mir.Parts Dk

theorem DX.turn {base db : Nat} {d : DD} {S : Nat → Prop} {w w' : World} (h : DX base db d w) (ht : Turns S w w') (hS : ∀ k M t fr, S k → w.heap[k]? = some (.cells M t fr) → t ≠ 54 ∧ t ≠ 83 ∧ t ≠ 5) : DX base db d w' := by
  obtain ⟨h0, vs, h1⟩ := h
  have hno : ∀ k, DOwn db vs k → ¬ S k := fun k hk hs => by
    obtain ⟨_, M, t, fr, e1, e2⟩ := dat_dty h1 k hk
    have := hS k M t fr hs e1
    rcases e2 with e2 | e2
    · exact this.1 e2
    · exact this.2.1 e2
  refine ⟨Nat.le_trans h0 ht.size, vs, ht.keep h1.row (hno db (.inl rfl)), h1.low, h1.n3, h1.m3, fun i v f hv hf => ?_, h1.apart, h1.room1, h1.fuse1, h1.used, h1.few⟩
  exact (h1.each i v f hv hf).touch ht (fun k M fr hk hs => (hS k M _ fr hs hk).2.2 rfl) (fun k hk => hno k (.inr ⟨v, List.mem_of_getElem? hv, hk⟩))
end Go.Proofs.Ytbkkcejpkfbcjaa.Rol
namespace Go.Proofs.Ytbkkcejpkfbcjaa.Rk
open Go.RowKit Go.Mir Go.Mir.Parts Dk Rol

theorem tail3 {P : Program} {ops : Array Oper} {Q : Exit → Act → World → Prop} {l : List Oper} {i j k : Nat} {a : Act} {w : World} {o o' o'' : Oper} (ho : nthO l i = some o) (ho' : nthO l j = some o') (ho'' : nthO l k = some o'') (h : wpList P ops Q [o, o', o''] a w) : wpList P ops Q (tailOps l [i, j, k]) a w := by
  simp only [tailOps, ho, ho', ho'']; exact h
theorem results_tct {P : Program} {fn : Func} {p q r : Tmp} {ty : TypeId} (h : fn.results = #[.tmp q, .cell p ty, .tmp r]) (tmps : Array Value) (w : World) (g : Nat) (t : TypeId) (cs : Array Value) (fr : Nat × Nat) (d : TypeDesc)
    (hp : tmps.getD p undef = .pointer (some ⟨g, 0, none⟩)) (hg : w.heap[g]? = some (.cells cs t fr))
    (hu : P.underlying ty = some d) (hd : (match d with | .struct _ | .array _ _ => true | _ => false) = true) (hi : (P.info? ty).map (·.size) = some cs.size) :
    (results fn tmps).run P w = .ok (.tuple #[tmps.getD q undef, .agg cs, tmps.getD r undef]) w := by
  have hp' : tmps[p]?.getD undef = .pointer (some ⟨g, 0, none⟩) := by simpa using hp
  simp [results, h, hp', asAddr, run_loadVar_row w g t ty cs fr d hg hu hd hi]
def StepP (base : Nat) (d' : DD) (w : World) (e : Ending) (w' : World) : Prop := ∃ db ts, e = .returned (.tuple #[.pointer (some ⟨db, 0, none⟩), .agg (rdA ts d'), .bool true]) ∧ DX base db d' w' ∧ RDB w' ts d' ∧ KT base w w'
theorem op0 {d : DD} {o : DOp} (h : o.kind = 0) : opD d o = putD d o.file o.b := by unfold opD; rw [if_pos h]
theorem op1 {d : DD} {o : DOp} (h : o.kind = 1) : opD d o = cutD d o.file o.n := by unfold opD; rw [if_neg (by rw [h]; decide), if_pos h]
theorem op2 {d : DD} {o : DOp} (h : o.kind = 2) : opD d o = synD d o.file := by unfold opD; rw [if_neg (by rw [h]; decide), if_neg (by rw [h]; decide), if_pos h]
theorem op3 {d : DD} {o : DOp} (h : o.kind = 3) : opD d o = ⟨d.fs, d.room, o.n.toNat, d.down⟩ := by unfold opD; rw [if_neg (by rw [h]; decide), if_neg (by rw [h]; decide), if_neg (by rw [h]; decide), if_pos h]
theorem op4 {d : DD} {o : DOp} (h : o.kind = 4) : opD d o = crashD o.us d := by unfold opD; rw [if_neg (by rw [h]; decide), if_neg (by rw [h]; decide), if_neg (by rw [h]; decide), if_neg (by rw [h]; decide), if_pos h]
theorem op5 {d : DD} {o : DOp} (h : ¬ o.kind = 0 ∧ ¬ o.kind = 1 ∧ ¬ o.kind = 2 ∧ ¬ o.kind = 3 ∧ ¬ o.kind = 4) : opD d o = d := by
  obtain ⟨h0, h1, h2, h3, h4⟩ := h
  unfold opD; rw [if_neg h0, if_neg h1, if_neg h2, if_neg h3, if_neg h4]
theorem rarm_ox (T : List RF) (d : DD) (n : Int) (w : World) (h : RDB w T d) (hn : n ≤ 9223372036854775807) :
    Calls Try.prog 18 #[.agg (rdA T d), .int .i64 n] w (CrOx ⟨d.fs, d.room, n.toNat, d.down⟩ w) :=
  (rarm_any T d n w h.n3 h.m3).mono fun e w' ⟨he, hb⟩ => ⟨T, he, (⟨h.n3, h.m3, h.each, h.room1, (show n.toNat ≤ _ by omega), h.used⟩ : RDB w T ⟨d.fs, d.room, n.toNat, d.down⟩).below hb, hb⟩
theorem kt_setRow {base : Nat} {w Y : World} {g : Nat} {A : Array Value} (h : KT base w Y) (hg : w.heap.size ≤ g) : KT base w (Y.setRow g A) :=
  ⟨h.os, h.tape, h.output, by have := h.size; simpa [World.setRow] using this, fun i hi hS => by rw [setRow_other _ _ _ _ (by omega)]; exact h.block i hi hS⟩
/-- what a call, and one store of a box, turn -/
def SZ (base z : Nat) (w w' : World) : Prop := Turns (fun k => DTy base w k ∨ k = z) w w'
theorem SZ.of_kt {base z : Nat} {w y : World} (h : KT base w y) : SZ base z w y := h.imp (fun k _ hk => .inl hk)
theorem SZ.row {base z : Nat} {a b : World} (h : SZ base z a b) {k : Nat} {M : Array Value} {t : TypeId} {fr : Nat × Nat} (hr : a.heap[k]? = some (.cells M t fr)) (h1 : t ≠ 54) (h2 : t ≠ 83) (hk : k ≠ z) : b.heap[k]? = some (.cells M t fr) :=
  Turns.keep h hr (fun hs => by
    rcases hs with ⟨_, M', t', fr', e, ht⟩ | e
    · rw [hr] at e
      injection e with e1
      injection e1 with _ e2
      subst e2
      exact ht.elim h1 h2
    · exact hk e)
theorem SZ.set {base z : Nat} {w Y : World} {A : Array Value} (h : KT base w Y) : SZ base z w (Y.setRow z A) :=
  ⟨h.os, h.tape, h.output, by have := h.size; simpa [World.setRow] using this, fun i hi hS => by
    rw [setRow_other _ _ _ _ (fun e => hS (.inr e))]
    exact h.block i hi (fun hd => hS (.inl hd))⟩
set_option maxRecDepth 100000 in
set_option maxHeartbeats 12800000 in
theorem step_any {base db : Nat} {d : DD} {ts : List RF} (o : DOp) (pb : Option Addr) (cb : Nat) (pu : Option Addr) (cu : Nat) (W w : World) (hW : Below W.heap.size W w) (hWb : W.heap.size ≤ base) (hX : DX base db d w) (hR : RDB w ts d) (hb : Bs W pb o.b.length cb o.b) (hu : Ns W pu o.us.length cu o.us)
    (hbl : o.b.length ≤ 60000) (hn : o.n ≤ 9223372036854775807) (hfew : ∀ k, (fD d k).steps.length + 1 ≤ 2199023255552) :
    Calls Try.prog 7 #[.pointer (some ⟨db, 0, none⟩), .agg (rdA ts d), .agg (dopA o pb cb pu cu)] w (StepP base (opD d o) w) := by
  have hz := zeroD
  obtain ⟨D9, hD9⟩ : ∃ D9, opD d o = D9 := ⟨_, rfl⟩
  rw [hD9]
  have HD9 := Lib.hid hD9
  clear hD9
  obtain ⟨q1, q2, q3, q4, q5⟩ := threes w (.cells (rdA ts d) 37) (.cells (dopA o pb cb pu cu) 40) (.cells zD 37)
  have HROW := Lib.hid q1
  have HOP := Lib.hid q2
  have HZX := Lib.hid q3
  have HLOW := Lib.hid q5
  have HWW := Lib.hid (hW.trans (q5.mono hW.size))
  have HX := Lib.hid (hX.below q5)
  have HR := Lib.hid (hR.below q5)
  have HBS := Lib.hid (hb.below (hW.trans (q5.mono hW.size)))
  have HUS := Lib.hid hu
  have HWB := Lib.hid hWb
  have HBL := Lib.hid hbl
  have HNB := Lib.hid hn
  have HFEW := Lib.hid hfew
  have HUR := Lib.hid (show usedL d.fs ≤ d.room from hX.room.2.2)
  obtain ⟨hc0, hc1, hc2, hc3, hc4⟩ := dopA_cell q2
  have HSZ := Lib.hid q4
  clear q1 q2 q3 q4 q5 hW hX hR hb hu hWb hbl hn hfew
  go_enter Try.func7, Try.ntmps7
  go_upto_region 2 with fail
  generalize ((w.alloc (.cells (rdA ts d) 37)).alloc (.cells (dopA o pb cb pu cu) 40)).alloc (.cells zD 37) = w2 at *
  clear hz
  by_cases n0 : o.kind = 0
  · have m0 : (o.kind == 0) = true := beq_iff_eq.2 n0
    have ho := op0 (d := d) n0
    clear n0
    skip
    -- kinds 0 to 2: regions 3 and 4; the slot 9 of the load of the document's new disk; rput_all ts d o.file pb o.b cb w2 HR.out HUR.out HBS.out HBL.out HFEW.out, xput_all y hyx o.file pb o.b.length cb o.b hyb (by have := HBL.out; omega) HFEW.out the calls; putD d o.file o.b, putE d o.file o.b what they leave; MARKS, PLANS, TAILS the plan
    have hDM : (putD d o.file o.b) = D9 := ho.symm.trans HD9.out
    obtain ⟨EM, hEM⟩ : ∃ EM, (putE d o.file o.b) = EM := ⟨_, rfl⟩
    have hcr := rput_all ts d o.file pb o.b cb w2 HR.out HUR.out HBS.out HBL.out HFEW.out
    have hcx : ∀ y, Below w2.heap.size w2 y → Calls Try.prog 9 #[.pointer (some ⟨db, 0, none⟩), .int .i64 o.file, .slice pb o.b.length cb] y (StP base db EM D9 y) := fun y hy => by
      have hyx := HX.out.below hy
      have hyb := HBS.out.below hy
      rw [← hDM, ← hEM]
      exact xput_all y hyx o.file pb o.b.length cb o.b hyb (by have := HBL.out; omega) HFEW.out
    rw [hDM, hEM] at hcr
    have HCX := Lib.hid hcx
    clear hDM hEM hcx ho
    go_upto_region 3 with fail
    go_wp2_with (refine wpList_load_row rfl 37 _ rfl w.heap.size rfl 37 (rdA ts d) (0, 0) _ HROW.out Try.underlying37 rfl (infoRD _ (rdA_size HR.out.n3 HR.out.m3)) ?_)
    refine hcr.mono ?_
    rintro e wA ⟨TS, rfl, hrd, hb⟩
    have hal := Below.allocs wA (.cells zD 37)
    have HRD := Lib.hid (hrd.below hal)
    have HBA := Lib.hid hb
    have HAL := Lib.hid hal
    have hz := zeroD
    clear hcr hrd hb hal hc0 hc1 hc2 hc3 hc4
    go_upto_region 4 with (refine wpList_store_row rfl 37 _ _ rfl wA.heap.size (rdA TS D9) rfl rfl 37 zD (heap_alloc_last _ _) (infoRD _ (rdA_size HRD.out.n3 HRD.out.m3)) (by rw [rdA_size HRD.out.n3 HRD.out.m3]; rfl) (rdA_one HRD.out.n3 HRD.out.m3) ?_)
    try simp only [Act.put, List.setIfInBounds_toArray, List.set_cons_zero, List.set_cons_succ]
    have hrow2 := setRow_heap _ _ _ (rdA TS D9) _ _ (heap_alloc_last wA (.cells zD 37))
    have hbl2 : Below wA.heap.size wA ((wA.alloc (.cells zD 37)).setRow wA.heap.size (rdA TS D9)) := below_setRow HAL.out (Nat.le_refl _) _
    have HRD2 := Lib.hid (HRD.out.put (g := wA.heap.size) (A := rdA TS D9) (heap_alloc_last wA (.cells zD 37)))
    have HY2 := Lib.hid hrow2
    have HB2 := Lib.hid (HBA.out.trans (hbl2.mono HBA.out.size))
    have HGL : Hid (w2.heap.size ≤ wA.heap.size) := HBA.out.size
    clear hrow2 hbl2 HRD HBA HAL
    generalize (wA.alloc (.cells zD 37)).setRow wA.heap.size (rdA TS D9) = wB at *
    generalize wA.heap.size = gy at *
    clear wA
    have HXB := Lib.hid (HX.out.below HB2.out)
    have hoB := Below.keepOld HB2.out HOP.out
    have hzB := Below.keepOld HB2.out HZX.out
    have HOB := Lib.hid hoB
    have HZB := Lib.hid hzB
    clear hoB hzB
    have HLA : Hid (∀ w', SZ base (w.heap.size + 2) wB w' → w'.rangeAt gy 0 (rdA TS D9).toList) := fun w' hb => row_rangeR (SZ.row hb HY2.out (by decide) (by decide) (by have := HGL.out; have := HSZ.out; omega))
    have HD1 : Hid (∀ w', SZ base (w.heap.size + 2) wB w' → w'.cell? ⟨w.heap.size + 1, 1, none⟩ = some (.int .i64 o.file)) := fun w' hb => by rw [cell_of_row _ _ _ _ _ _ (SZ.row hb HOB.out (by decide) (by decide) (by omega))]; rfl
    have HD2 : Hid (∀ w', SZ base (w.heap.size + 2) wB w' → w'.cell? ⟨w.heap.size + 1, 2, none⟩ = some (.int .i64 o.n)) := fun w' hb => by rw [cell_of_row _ _ _ _ _ _ (SZ.row hb HOB.out (by decide) (by decide) (by omega))]; rfl
    have HD3 : Hid (∀ w', SZ base (w.heap.size + 2) wB w' → w'.cell? ⟨w.heap.size + 1, 3, none⟩ = some (.slice pb o.b.length cb)) := fun w' hb => by rw [cell_of_row _ _ _ _ _ _ (SZ.row hb HOB.out (by decide) (by decide) (by omega))]; rfl
    have hqe : ((EM : Int) == EM) = true := beq_self_eq_true _
    refine wp_region_tree (SZ base (w.heap.size + 2) wB) (.take 0 (.take 2 (.take 3 (.take 4 (.take 5 (.take 6 (.take 8 (.take 1 (.one 7 (.take 9 (.one 10 (.one 11 (.one 12 .nil))))))))))))) (by kernel_rfl) (by kernel_rfl) (SZ.of_kt (KT.of_below (below_drew1 _ _))) ?_
    have hy0 : Below wB.heap.size wB wB.drew := below_drew1 _ _
    have hyk : KT base wB wB.drew := KT.of_below hy0
    repeat (first
      | (apply tree_take; (· rfl); (· rfl); (· (intro w' hb'; go_simp; try with_reducible rfl)); try simp only [Act.put, List.setIfInBounds_toArray, List.set_cons_zero, List.set_cons_succ])
      | (apply tree_take; (· rfl); (· rfl); (· (intro w' hb'; have hk' := (HD1.out) w' hb'; go_simp; try with_reducible rfl)); try simp only [Act.put, List.setIfInBounds_toArray, List.set_cons_zero, List.set_cons_succ])
      | (apply tree_take; (· rfl); (· rfl); (· (intro w' hb'; have hk' := (HD2.out) w' hb'; go_simp; try with_reducible rfl)); try simp only [Act.put, List.setIfInBounds_toArray, List.set_cons_zero, List.set_cons_succ])
      | (apply tree_take; (· rfl); (· rfl); (· (intro w' hb'; have hk' := (HD3.out) w' hb'; go_simp; try with_reducible rfl)); try simp only [Act.put, List.setIfInBounds_toArray, List.set_cons_zero, List.set_cons_succ]))
    refine tree_load rfl (by rfl) 37 _ rfl gy 0 rfl (rdA TS D9) _ (fun w' hb => HLA.out w' hb) Try.underlying37 rfl (infoRD _ (rdA_size HRD2.out.n3 HRD2.out.m3)) ?_
    try simp only [Act.put, List.setIfInBounds_toArray, List.set_cons_zero, List.set_cons_succ]
    refine tree_one rfl (by rfl) (fun K hK => ?_)
    go_simp
    refine (HCX.out _ (HB2.out.trans (hy0.mono HB2.out.size))).mono ?_
    rintro e y ⟨rfl, hdx, hkt⟩
    have hyy := hyk.trans hkt
    refine Shut.out hK _ _ (SZ.of_kt hyy) ?_
    clear hK K
    try simp only [Act.put, List.setIfInBounds_toArray, List.set_cons_zero, List.set_cons_succ]
    (apply tree_take; (· rfl); (· rfl); (· (intro w' hb'; go_simp; try with_reducible rfl)); try simp only [Act.put, List.setIfInBounds_toArray, List.set_cons_zero, List.set_cons_succ])
    refine tree_one rfl (by rfl) (fun K hK => ?_)
    go_simp
    refine Shut.out hK _ _ (SZ.of_kt hyy) ?_
    clear hK K
    try simp only [Act.put, List.setIfInBounds_toArray, List.set_cons_zero, List.set_cons_succ]
    have HXY := Lib.hid hdx
    have HKY := Lib.hid (((KT.of_below HLOW.out).trans (KT.of_below HB2.out)).trans hyy)
    have HRY := Lib.hid (HRD2.out.step (kr_of_kt hyy))
    have HZY := Lib.hid (hyy.row HZB.out (by decide) (by decide))
    refine tree_one rfl (by rfl) (fun K hK => oper_of_list rfl ?_)
    refine wpList_store_row rfl 37 _ _ rfl (w.heap.size + 2) (rdA TS D9) rfl rfl 37 zD HZY.out (infoRD _ (rdA_size HRY.out.n3 HRY.out.m3)) (by rw [rdA_size HRY.out.n3 HRY.out.m3]; rfl) (rdA_one HRY.out.n3 HRY.out.m3) ?_
    refine only_end (Shut.out hK _ _ (SZ.set hyy) ?_)
    clear hK K
    try simp only [Act.put, List.setIfInBounds_toArray, List.set_cons_zero, List.set_cons_succ]
    refine tree_one rfl (by rfl) (fun K hK => ?_)
    go_simp
    refine Shut.out hK _ _ (SZ.set hyy) ?_
    clear hK K
    try simp only [Act.put, List.setIfInBounds_toArray, List.set_cons_zero, List.set_cons_succ]
    refine tree_nil ?_
    clear hdx hkt hyy hy0 hyk HLA HD1 HD2 HD3 HRD2 HY2 HXB HOB HZB HCX
    go_wp2_with fail
    skip
    -- the result: world y, disk D9 at db, the document's TS: HXY, HRY, HZY, HKY : KT base w y
    have HS := Lib.hid (setRow_heap _ _ _ (rdA TS D9) _ _ HZY.out)
    have HK9 := Lib.hid (kt_setRow (g := w.heap.size + 2) (A := rdA TS D9) HKY.out (by omega))
    have HX9 := Lib.hid (HXY.out.turn (turns_setRow y (w.heap.size + 2) (rdA TS D9)) (fun k M' t fr hk hm => by
      have hk' : k = w.heap.size + 2 := hk
      subst hk'
      rw [HZY.out] at hm
      injection hm with e1
      injection e1 with _ e2
      subst e2
      exact ⟨by decide, by decide, by decide⟩))
    have HR9 := Lib.hid (HRY.out.put (A := rdA TS D9) HZY.out)
    refine bodyPost_ret (results_tct rfl _ _ _ _ _ _ _ rfl HS.out Try.underlying37 rfl (infoRD _ (rdA_size HRY.out.n3 HRY.out.m3))) rfl ?_
    exact ⟨db, TS, rfl, HX9.out, HR9.out, HK9.out⟩
  have m0 : (o.kind == 0) = false := beq_eq_false_iff_ne.2 n0
  by_cases n1 : o.kind = 1
  · have m1 : (o.kind == 1) = true := beq_iff_eq.2 n1
    have ho := op1 (d := d) n1
    clear n0 n1
    skip
    -- kinds 0 to 2: regions 6 and 7; the slot 11 of the load of the document's new disk; rcut_all ts d o.file o.n w2 HR.out HUR.out HFEW.out, xcut_all y hyx o.file o.n HFEW.out the calls; cutD d o.file o.n, cutE d o.file o.n what they leave; MARKS, PLANS, TAILS the plan
    have hDM : (cutD d o.file o.n) = D9 := ho.symm.trans HD9.out
    obtain ⟨EM, hEM⟩ : ∃ EM, (cutE d o.file o.n) = EM := ⟨_, rfl⟩
    have hcr := rcut_all ts d o.file o.n w2 HR.out HUR.out HFEW.out
    have hcx : ∀ y, Below w2.heap.size w2 y → Calls Try.prog 15 #[.pointer (some ⟨db, 0, none⟩), .int .i64 o.file, .int .i64 o.n] y (StP base db EM D9 y) := fun y hy => by
      have hyx := HX.out.below hy
      have hyb := HBS.out.below hy
      rw [← hDM, ← hEM]
      exact xcut_all y hyx o.file o.n HFEW.out
    rw [hDM, hEM] at hcr
    have HCX := Lib.hid hcx
    clear hDM hEM hcx ho
    go_upto_region 6 with fail
    go_wp2_with (refine wpList_load_row rfl 37 _ rfl w.heap.size rfl 37 (rdA ts d) (0, 0) _ HROW.out Try.underlying37 rfl (infoRD _ (rdA_size HR.out.n3 HR.out.m3)) ?_)
    refine hcr.mono ?_
    rintro e wA ⟨TS, rfl, hrd, hb⟩
    have hal := Below.allocs wA (.cells zD 37)
    have HRD := Lib.hid (hrd.below hal)
    have HBA := Lib.hid hb
    have HAL := Lib.hid hal
    have hz := zeroD
    clear hcr hrd hb hal hc0 hc1 hc2 hc3 hc4
    go_upto_region 7 with (refine wpList_store_row rfl 37 _ _ rfl wA.heap.size (rdA TS D9) rfl rfl 37 zD (heap_alloc_last _ _) (infoRD _ (rdA_size HRD.out.n3 HRD.out.m3)) (by rw [rdA_size HRD.out.n3 HRD.out.m3]; rfl) (rdA_one HRD.out.n3 HRD.out.m3) ?_)
    try simp only [Act.put, List.setIfInBounds_toArray, List.set_cons_zero, List.set_cons_succ]
    have hrow2 := setRow_heap _ _ _ (rdA TS D9) _ _ (heap_alloc_last wA (.cells zD 37))
    have hbl2 : Below wA.heap.size wA ((wA.alloc (.cells zD 37)).setRow wA.heap.size (rdA TS D9)) := below_setRow HAL.out (Nat.le_refl _) _
    have HRD2 := Lib.hid (HRD.out.put (g := wA.heap.size) (A := rdA TS D9) (heap_alloc_last wA (.cells zD 37)))
    have HY2 := Lib.hid hrow2
    have HB2 := Lib.hid (HBA.out.trans (hbl2.mono HBA.out.size))
    have HGL : Hid (w2.heap.size ≤ wA.heap.size) := HBA.out.size
    clear hrow2 hbl2 HRD HBA HAL
    generalize (wA.alloc (.cells zD 37)).setRow wA.heap.size (rdA TS D9) = wB at *
    generalize wA.heap.size = gy at *
    clear wA
    have HXB := Lib.hid (HX.out.below HB2.out)
    have hoB := Below.keepOld HB2.out HOP.out
    have hzB := Below.keepOld HB2.out HZX.out
    have HOB := Lib.hid hoB
    have HZB := Lib.hid hzB
    clear hoB hzB
    have HLA : Hid (∀ w', SZ base (w.heap.size + 2) wB w' → w'.rangeAt gy 0 (rdA TS D9).toList) := fun w' hb => row_rangeR (SZ.row hb HY2.out (by decide) (by decide) (by have := HGL.out; have := HSZ.out; omega))
    have HD1 : Hid (∀ w', SZ base (w.heap.size + 2) wB w' → w'.cell? ⟨w.heap.size + 1, 1, none⟩ = some (.int .i64 o.file)) := fun w' hb => by rw [cell_of_row _ _ _ _ _ _ (SZ.row hb HOB.out (by decide) (by decide) (by omega))]; rfl
    have HD2 : Hid (∀ w', SZ base (w.heap.size + 2) wB w' → w'.cell? ⟨w.heap.size + 1, 2, none⟩ = some (.int .i64 o.n)) := fun w' hb => by rw [cell_of_row _ _ _ _ _ _ (SZ.row hb HOB.out (by decide) (by decide) (by omega))]; rfl
    have HD3 : Hid (∀ w', SZ base (w.heap.size + 2) wB w' → w'.cell? ⟨w.heap.size + 1, 3, none⟩ = some (.slice pb o.b.length cb)) := fun w' hb => by rw [cell_of_row _ _ _ _ _ _ (SZ.row hb HOB.out (by decide) (by decide) (by omega))]; rfl
    have hqe : ((EM : Int) == EM) = true := beq_self_eq_true _
    refine wp_region_tree (SZ base (w.heap.size + 2) wB) (.take 0 (.take 2 (.take 3 (.take 4 (.take 5 (.take 6 (.take 8 (.take 1 (.one 7 (.take 9 (.one 10 (.one 11 (.one 12 .nil))))))))))))) (by kernel_rfl) (by kernel_rfl) (SZ.of_kt (KT.of_below (below_drew1 _ _))) ?_
    have hy0 : Below wB.heap.size wB wB.drew := below_drew1 _ _
    have hyk : KT base wB wB.drew := KT.of_below hy0
    repeat (first
      | (apply tree_take; (· rfl); (· rfl); (· (intro w' hb'; go_simp; try with_reducible rfl)); try simp only [Act.put, List.setIfInBounds_toArray, List.set_cons_zero, List.set_cons_succ])
      | (apply tree_take; (· rfl); (· rfl); (· (intro w' hb'; have hk' := (HD1.out) w' hb'; go_simp; try with_reducible rfl)); try simp only [Act.put, List.setIfInBounds_toArray, List.set_cons_zero, List.set_cons_succ])
      | (apply tree_take; (· rfl); (· rfl); (· (intro w' hb'; have hk' := (HD2.out) w' hb'; go_simp; try with_reducible rfl)); try simp only [Act.put, List.setIfInBounds_toArray, List.set_cons_zero, List.set_cons_succ])
      | (apply tree_take; (· rfl); (· rfl); (· (intro w' hb'; have hk' := (HD3.out) w' hb'; go_simp; try with_reducible rfl)); try simp only [Act.put, List.setIfInBounds_toArray, List.set_cons_zero, List.set_cons_succ]))
    refine tree_load rfl (by rfl) 37 _ rfl gy 0 rfl (rdA TS D9) _ (fun w' hb => HLA.out w' hb) Try.underlying37 rfl (infoRD _ (rdA_size HRD2.out.n3 HRD2.out.m3)) ?_
    try simp only [Act.put, List.setIfInBounds_toArray, List.set_cons_zero, List.set_cons_succ]
    refine tree_one rfl (by rfl) (fun K hK => ?_)
    go_simp
    refine (HCX.out _ (HB2.out.trans (hy0.mono HB2.out.size))).mono ?_
    rintro e y ⟨rfl, hdx, hkt⟩
    have hyy := hyk.trans hkt
    refine Shut.out hK _ _ (SZ.of_kt hyy) ?_
    clear hK K
    try simp only [Act.put, List.setIfInBounds_toArray, List.set_cons_zero, List.set_cons_succ]
    (apply tree_take; (· rfl); (· rfl); (· (intro w' hb'; go_simp; try with_reducible rfl)); try simp only [Act.put, List.setIfInBounds_toArray, List.set_cons_zero, List.set_cons_succ])
    refine tree_one rfl (by rfl) (fun K hK => ?_)
    go_simp
    refine Shut.out hK _ _ (SZ.of_kt hyy) ?_
    clear hK K
    try simp only [Act.put, List.setIfInBounds_toArray, List.set_cons_zero, List.set_cons_succ]
    have HXY := Lib.hid hdx
    have HKY := Lib.hid (((KT.of_below HLOW.out).trans (KT.of_below HB2.out)).trans hyy)
    have HRY := Lib.hid (HRD2.out.step (kr_of_kt hyy))
    have HZY := Lib.hid (hyy.row HZB.out (by decide) (by decide))
    refine tree_one rfl (by rfl) (fun K hK => oper_of_list rfl ?_)
    refine wpList_store_row rfl 37 _ _ rfl (w.heap.size + 2) (rdA TS D9) rfl rfl 37 zD HZY.out (infoRD _ (rdA_size HRY.out.n3 HRY.out.m3)) (by rw [rdA_size HRY.out.n3 HRY.out.m3]; rfl) (rdA_one HRY.out.n3 HRY.out.m3) ?_
    refine only_end (Shut.out hK _ _ (SZ.set hyy) ?_)
    clear hK K
    try simp only [Act.put, List.setIfInBounds_toArray, List.set_cons_zero, List.set_cons_succ]
    refine tree_one rfl (by rfl) (fun K hK => ?_)
    go_simp
    refine Shut.out hK _ _ (SZ.set hyy) ?_
    clear hK K
    try simp only [Act.put, List.setIfInBounds_toArray, List.set_cons_zero, List.set_cons_succ]
    refine tree_nil ?_
    clear hdx hkt hyy hy0 hyk HLA HD1 HD2 HD3 HRD2 HY2 HXB HOB HZB HCX
    go_wp2_with fail
    skip
    -- the result: world y, disk D9 at db, the document's TS: HXY, HRY, HZY, HKY : KT base w y
    have HS := Lib.hid (setRow_heap _ _ _ (rdA TS D9) _ _ HZY.out)
    have HK9 := Lib.hid (kt_setRow (g := w.heap.size + 2) (A := rdA TS D9) HKY.out (by omega))
    have HX9 := Lib.hid (HXY.out.turn (turns_setRow y (w.heap.size + 2) (rdA TS D9)) (fun k M' t fr hk hm => by
      have hk' : k = w.heap.size + 2 := hk
      subst hk'
      rw [HZY.out] at hm
      injection hm with e1
      injection e1 with _ e2
      subst e2
      exact ⟨by decide, by decide, by decide⟩))
    have HR9 := Lib.hid (HRY.out.put (A := rdA TS D9) HZY.out)
    refine bodyPost_ret (results_tct rfl _ _ _ _ _ _ _ rfl HS.out Try.underlying37 rfl (infoRD _ (rdA_size HRY.out.n3 HRY.out.m3))) rfl ?_
    exact ⟨db, TS, rfl, HX9.out, HR9.out, HK9.out⟩
  have m1 : (o.kind == 1) = false := beq_eq_false_iff_ne.2 n1
  by_cases n2 : o.kind = 2
  · have m2 : (o.kind == 2) = true := beq_iff_eq.2 n2
    have ho := op2 (d := d) n2
    clear n0 n1 n2
    skip
    -- kinds 0 to 2: regions 9 and 10; the slot 13 of the load of the document's new disk; rsyn_all ts d o.file w2 HR.out, xsyn_all y hyx o.file the calls; synD d o.file, synE d o.file what they leave; MARKS, PLANS, TAILS the plan
    have hDM : (synD d o.file) = D9 := ho.symm.trans HD9.out
    obtain ⟨EM, hEM⟩ : ∃ EM, (synE d o.file) = EM := ⟨_, rfl⟩
    have hcr := rsyn_all ts d o.file w2 HR.out
    have hcx : ∀ y, Below w2.heap.size w2 y → Calls Try.prog 10 #[.pointer (some ⟨db, 0, none⟩), .int .i64 o.file] y (StP base db EM D9 y) := fun y hy => by
      have hyx := HX.out.below hy
      have hyb := HBS.out.below hy
      rw [← hDM, ← hEM]
      exact xsyn_all y hyx o.file
    rw [hDM, hEM] at hcr
    have HCX := Lib.hid hcx
    clear hDM hEM hcx ho
    go_upto_region 9 with fail
    go_wp2_with (refine wpList_load_row rfl 37 _ rfl w.heap.size rfl 37 (rdA ts d) (0, 0) _ HROW.out Try.underlying37 rfl (infoRD _ (rdA_size HR.out.n3 HR.out.m3)) ?_)
    refine hcr.mono ?_
    rintro e wA ⟨TS, rfl, hrd, hb⟩
    have hal := Below.allocs wA (.cells zD 37)
    have HRD := Lib.hid (hrd.below hal)
    have HBA := Lib.hid hb
    have HAL := Lib.hid hal
    have hz := zeroD
    clear hcr hrd hb hal hc0 hc1 hc2 hc3 hc4
    go_upto_region 10 with (refine wpList_store_row rfl 37 _ _ rfl wA.heap.size (rdA TS D9) rfl rfl 37 zD (heap_alloc_last _ _) (infoRD _ (rdA_size HRD.out.n3 HRD.out.m3)) (by rw [rdA_size HRD.out.n3 HRD.out.m3]; rfl) (rdA_one HRD.out.n3 HRD.out.m3) ?_)
    try simp only [Act.put, List.setIfInBounds_toArray, List.set_cons_zero, List.set_cons_succ]
    have hrow2 := setRow_heap _ _ _ (rdA TS D9) _ _ (heap_alloc_last wA (.cells zD 37))
    have hbl2 : Below wA.heap.size wA ((wA.alloc (.cells zD 37)).setRow wA.heap.size (rdA TS D9)) := below_setRow HAL.out (Nat.le_refl _) _
    have HRD2 := Lib.hid (HRD.out.put (g := wA.heap.size) (A := rdA TS D9) (heap_alloc_last wA (.cells zD 37)))
    have HY2 := Lib.hid hrow2
    have HB2 := Lib.hid (HBA.out.trans (hbl2.mono HBA.out.size))
    have HGL : Hid (w2.heap.size ≤ wA.heap.size) := HBA.out.size
    clear hrow2 hbl2 HRD HBA HAL
    generalize (wA.alloc (.cells zD 37)).setRow wA.heap.size (rdA TS D9) = wB at *
    generalize wA.heap.size = gy at *
    clear wA
    have HXB := Lib.hid (HX.out.below HB2.out)
    have hoB := Below.keepOld HB2.out HOP.out
    have hzB := Below.keepOld HB2.out HZX.out
    have HOB := Lib.hid hoB
    have HZB := Lib.hid hzB
    clear hoB hzB
    have HLA : Hid (∀ w', SZ base (w.heap.size + 2) wB w' → w'.rangeAt gy 0 (rdA TS D9).toList) := fun w' hb => row_rangeR (SZ.row hb HY2.out (by decide) (by decide) (by have := HGL.out; have := HSZ.out; omega))
    have HD1 : Hid (∀ w', SZ base (w.heap.size + 2) wB w' → w'.cell? ⟨w.heap.size + 1, 1, none⟩ = some (.int .i64 o.file)) := fun w' hb => by rw [cell_of_row _ _ _ _ _ _ (SZ.row hb HOB.out (by decide) (by decide) (by omega))]; rfl
    have HD2 : Hid (∀ w', SZ base (w.heap.size + 2) wB w' → w'.cell? ⟨w.heap.size + 1, 2, none⟩ = some (.int .i64 o.n)) := fun w' hb => by rw [cell_of_row _ _ _ _ _ _ (SZ.row hb HOB.out (by decide) (by decide) (by omega))]; rfl
    have HD3 : Hid (∀ w', SZ base (w.heap.size + 2) wB w' → w'.cell? ⟨w.heap.size + 1, 3, none⟩ = some (.slice pb o.b.length cb)) := fun w' hb => by rw [cell_of_row _ _ _ _ _ _ (SZ.row hb HOB.out (by decide) (by decide) (by omega))]; rfl
    have hqe : ((EM : Int) == EM) = true := beq_self_eq_true _
    refine wp_region_tree (SZ base (w.heap.size + 2) wB) (.take 0 (.take 2 (.take 3 (.take 4 (.take 6 (.take 1 (.one 5 (.take 7 (.one 8 (.one 9 (.one 10 .nil))))))))))) (by kernel_rfl) (by kernel_rfl) (SZ.of_kt (KT.of_below (below_drew1 _ _))) ?_
    have hy0 : Below wB.heap.size wB wB.drew := below_drew1 _ _
    have hyk : KT base wB wB.drew := KT.of_below hy0
    repeat (first
      | (apply tree_take; (· rfl); (· rfl); (· (intro w' hb'; go_simp; try with_reducible rfl)); try simp only [Act.put, List.setIfInBounds_toArray, List.set_cons_zero, List.set_cons_succ])
      | (apply tree_take; (· rfl); (· rfl); (· (intro w' hb'; have hk' := (HD1.out) w' hb'; go_simp; try with_reducible rfl)); try simp only [Act.put, List.setIfInBounds_toArray, List.set_cons_zero, List.set_cons_succ])
      | (apply tree_take; (· rfl); (· rfl); (· (intro w' hb'; have hk' := (HD2.out) w' hb'; go_simp; try with_reducible rfl)); try simp only [Act.put, List.setIfInBounds_toArray, List.set_cons_zero, List.set_cons_succ])
      | (apply tree_take; (· rfl); (· rfl); (· (intro w' hb'; have hk' := (HD3.out) w' hb'; go_simp; try with_reducible rfl)); try simp only [Act.put, List.setIfInBounds_toArray, List.set_cons_zero, List.set_cons_succ]))
    refine tree_load rfl (by rfl) 37 _ rfl gy 0 rfl (rdA TS D9) _ (fun w' hb => HLA.out w' hb) Try.underlying37 rfl (infoRD _ (rdA_size HRD2.out.n3 HRD2.out.m3)) ?_
    try simp only [Act.put, List.setIfInBounds_toArray, List.set_cons_zero, List.set_cons_succ]
    refine tree_one rfl (by rfl) (fun K hK => ?_)
    go_simp
    refine (HCX.out _ (HB2.out.trans (hy0.mono HB2.out.size))).mono ?_
    rintro e y ⟨rfl, hdx, hkt⟩
    have hyy := hyk.trans hkt
    refine Shut.out hK _ _ (SZ.of_kt hyy) ?_
    clear hK K
    try simp only [Act.put, List.setIfInBounds_toArray, List.set_cons_zero, List.set_cons_succ]
    (apply tree_take; (· rfl); (· rfl); (· (intro w' hb'; go_simp; try with_reducible rfl)); try simp only [Act.put, List.setIfInBounds_toArray, List.set_cons_zero, List.set_cons_succ])
    refine tree_one rfl (by rfl) (fun K hK => ?_)
    go_simp
    refine Shut.out hK _ _ (SZ.of_kt hyy) ?_
    clear hK K
    try simp only [Act.put, List.setIfInBounds_toArray, List.set_cons_zero, List.set_cons_succ]
    have HXY := Lib.hid hdx
    have HKY := Lib.hid (((KT.of_below HLOW.out).trans (KT.of_below HB2.out)).trans hyy)
    have HRY := Lib.hid (HRD2.out.step (kr_of_kt hyy))
    have HZY := Lib.hid (hyy.row HZB.out (by decide) (by decide))
    refine tree_one rfl (by rfl) (fun K hK => oper_of_list rfl ?_)
    refine wpList_store_row rfl 37 _ _ rfl (w.heap.size + 2) (rdA TS D9) rfl rfl 37 zD HZY.out (infoRD _ (rdA_size HRY.out.n3 HRY.out.m3)) (by rw [rdA_size HRY.out.n3 HRY.out.m3]; rfl) (rdA_one HRY.out.n3 HRY.out.m3) ?_
    refine only_end (Shut.out hK _ _ (SZ.set hyy) ?_)
    clear hK K
    try simp only [Act.put, List.setIfInBounds_toArray, List.set_cons_zero, List.set_cons_succ]
    refine tree_one rfl (by rfl) (fun K hK => ?_)
    go_simp
    refine Shut.out hK _ _ (SZ.set hyy) ?_
    clear hK K
    try simp only [Act.put, List.setIfInBounds_toArray, List.set_cons_zero, List.set_cons_succ]
    refine tree_nil ?_
    clear hdx hkt hyy hy0 hyk HLA HD1 HD2 HD3 HRD2 HY2 HXB HOB HZB HCX
    go_wp2_with fail
    skip
    -- the result: world y, disk D9 at db, the document's TS: HXY, HRY, HZY, HKY : KT base w y
    have HS := Lib.hid (setRow_heap _ _ _ (rdA TS D9) _ _ HZY.out)
    have HK9 := Lib.hid (kt_setRow (g := w.heap.size + 2) (A := rdA TS D9) HKY.out (by omega))
    have HX9 := Lib.hid (HXY.out.turn (turns_setRow y (w.heap.size + 2) (rdA TS D9)) (fun k M' t fr hk hm => by
      have hk' : k = w.heap.size + 2 := hk
      subst hk'
      rw [HZY.out] at hm
      injection hm with e1
      injection e1 with _ e2
      subst e2
      exact ⟨by decide, by decide, by decide⟩))
    have HR9 := Lib.hid (HRY.out.put (A := rdA TS D9) HZY.out)
    refine bodyPost_ret (results_tct rfl _ _ _ _ _ _ _ rfl HS.out Try.underlying37 rfl (infoRD _ (rdA_size HRY.out.n3 HRY.out.m3))) rfl ?_
    exact ⟨db, TS, rfl, HX9.out, HR9.out, HK9.out⟩
  have m2 : (o.kind == 2) = false := beq_eq_false_iff_ne.2 n2
  by_cases n3 : o.kind = 3
  · have m3 : (o.kind == 3) = true := beq_iff_eq.2 n3
    have ho := op3 (d := d) n3
    have hD3 : (⟨d.fs, d.room, o.n.toNat, d.down⟩ : DD) = D9 := ho.symm.trans HD9.out
    have HD3 := Lib.hid hD3
    clear ho hD3
    clear n0 n1 n2 n3 hc0 hc1 hc3 hc4
    go_upto_region 12 with fail
    go_wp2_with fail
    refine (xarm w2 HX.out o.n HNB.out).mono ?_
    rintro e wA ⟨rfl, hdx, hkt⟩
    have hoA := hkt.row HOP.out (by decide) (by decide)
    have hrA := hkt.row HROW.out (by decide) (by decide)
    have hzA := hkt.row HZX.out (by decide) (by decide)
    have HCR := Lib.hid (rarm_ox ts d o.n wA (HR.out.step (kr_of_kt hkt)) HNB.out)
    obtain ⟨_, _, hc2', _, _⟩ := dopA_cell hoA
    have HRA := Lib.hid hrA
    have HZA := Lib.hid hzA
    have HDX := Lib.hid hdx
    have HKT := Lib.hid hkt
    clear hc2 hoA hrA hzA hdx hkt
    go_wp2_with (refine wpList_load_row rfl 37 _ rfl w.heap.size rfl 37 (rdA ts d) (0, 0) _ HRA.out Try.underlying37 rfl (infoRD _ (rdA_size HR.out.n3 HR.out.m3)) ?_)
    refine HCR.out.mono ?_
    rintro e Y ⟨TS, rfl, hrd, hb⟩
    have HXY := Lib.hid (HDX.out.below hb)
    have HRY := Lib.hid hrd
    have HZY := Lib.hid (Below.keepOld hb HZA.out)
    have HKY := Lib.hid (((KT.of_below HLOW.out).trans HKT.out).next hb)
    clear hrd hb hc2' HCR HDX HRA HZA HKT
    rw [HD3.out] at HXY HRY ⊢
    go_wp2_with (refine wpList_store_row rfl 37 _ _ rfl (w.heap.size + 2) (rdA TS D9) rfl rfl 37 zD HZY.out (infoRD _ (rdA_size HRY.out.n3 HRY.out.m3)) (by rw [rdA_size HRY.out.n3 HRY.out.m3]; rfl) (rdA_one HRY.out.n3 HRY.out.m3) ?_)
    skip
    -- the result: world Y, disk D9 at db, the document's TS: HXY, HRY, HZY, HKY : KT base w Y
    have HS := Lib.hid (setRow_heap _ _ _ (rdA TS D9) _ _ HZY.out)
    have HK9 := Lib.hid (kt_setRow (g := w.heap.size + 2) (A := rdA TS D9) HKY.out (by omega))
    have HX9 := Lib.hid (HXY.out.turn (turns_setRow Y (w.heap.size + 2) (rdA TS D9)) (fun k M' t fr hk hm => by
      have hk' : k = w.heap.size + 2 := hk
      subst hk'
      rw [HZY.out] at hm
      injection hm with e1
      injection e1 with _ e2
      subst e2
      exact ⟨by decide, by decide, by decide⟩))
    have HR9 := Lib.hid (HRY.out.put (A := rdA TS D9) HZY.out)
    refine bodyPost_ret (results_tct rfl _ _ _ _ _ _ _ rfl HS.out Try.underlying37 rfl (infoRD _ (rdA_size HRY.out.n3 HRY.out.m3))) rfl ?_
    exact ⟨db, TS, rfl, HX9.out, HR9.out, HK9.out⟩
  have m3 : (o.kind == 3) = false := beq_eq_false_iff_ne.2 n3
  by_cases n4 : o.kind = 4
  · have m4 : (o.kind == 4) = true := beq_iff_eq.2 n4
    have ho := op4 (d := d) n4
    have HD4 : Hid (crashD o.us d = D9) := ho.symm.trans HD9.out
    clear ho
    clear n0 n1 n2 n3 n4 hc0 hc1 hc2 hc3
    have HNS := Lib.hid (HUS.out.below HWW.out)
    go_upto_region 15 with fail
    go_wp2_with fail
    refine (xcrash w2 HX.out o.us pu cu HNS.out W.heap.size HWB.out HUS.out.lt).mono ?_
    rintro e wA ⟨rfl, hdx, hkt⟩
    have hoA := hkt.row HOP.out (by decide) (by decide)
    have hrA := hkt.row HROW.out (by decide) (by decide)
    have hzA := hkt.row HZX.out (by decide) (by decide)
    have hWA := HWW.out.trans ((hkt.below HX.out.1).mono HWB.out)
    have HCR := Lib.hid (rcrash_any ts d o.us pu cu wA (HR.out.step (kr_of_kt hkt)) (HUS.out.below hWA))
    obtain ⟨_, _, _, _, hc4'⟩ := dopA_cell hoA
    have HRA := Lib.hid hrA
    have HZA := Lib.hid hzA
    have HDX := Lib.hid hdx
    have HKT := Lib.hid hkt
    clear hc4 hoA hrA hzA hdx hkt hWA
    go_wp2_with (refine wpList_load_row rfl 37 _ rfl w.heap.size rfl 37 (rdA ts d) (0, 0) _ HRA.out Try.underlying37 rfl (infoRD _ (rdA_size HR.out.n3 HR.out.m3)) ?_)
    refine HCR.out.mono ?_
    rintro e Y ⟨TS, rfl, hrd, hb⟩
    have HXY := Lib.hid (HDX.out.below hb)
    have HRY := Lib.hid hrd
    have HZY := Lib.hid (Below.keepOld hb HZA.out)
    have HKY := Lib.hid (((KT.of_below HLOW.out).trans HKT.out).next hb)
    clear hrd hb hc4' HCR HDX HRA HZA HKT
    rw [HD4.out] at HXY HRY ⊢
    go_wp2_with (refine wpList_store_row rfl 37 _ _ rfl (w.heap.size + 2) (rdA TS D9) rfl rfl 37 zD HZY.out (infoRD _ (rdA_size HRY.out.n3 HRY.out.m3)) (by rw [rdA_size HRY.out.n3 HRY.out.m3]; rfl) (rdA_one HRY.out.n3 HRY.out.m3) ?_)
    skip
    -- the result: world Y, disk D9 at db, the document's TS: HXY, HRY, HZY, HKY : KT base w Y
    have HS := Lib.hid (setRow_heap _ _ _ (rdA TS D9) _ _ HZY.out)
    have HK9 := Lib.hid (kt_setRow (g := w.heap.size + 2) (A := rdA TS D9) HKY.out (by omega))
    have HX9 := Lib.hid (HXY.out.turn (turns_setRow Y (w.heap.size + 2) (rdA TS D9)) (fun k M' t fr hk hm => by
      have hk' : k = w.heap.size + 2 := hk
      subst hk'
      rw [HZY.out] at hm
      injection hm with e1
      injection e1 with _ e2
      subst e2
      exact ⟨by decide, by decide, by decide⟩))
    have HR9 := Lib.hid (HRY.out.put (A := rdA TS D9) HZY.out)
    refine bodyPost_ret (results_tct rfl _ _ _ _ _ _ _ rfl HS.out Try.underlying37 rfl (infoRD _ (rdA_size HRY.out.n3 HRY.out.m3))) rfl ?_
    exact ⟨db, TS, rfl, HX9.out, HR9.out, HK9.out⟩
  have m4 : (o.kind == 4) = false := beq_eq_false_iff_ne.2 n4
  have hd9 : d = D9 := (op5 (d := d) ⟨n0, n1, n2, n3, n4⟩).symm.trans HD9.out
  subst hd9
  clear n0 n1 n2 n3 n4 hc0 hc1 hc2 hc3 hc4
  have HCL := Lib.hid (clone_left w2 HX.out)
  have h0l : 0 < d.fs.length := by rw [HR.out.m3]; omega
  have HL0 := Lib.hid h0l
  clear h0l
  go_upto_region 17 with fail
  go_wp2_with fail
  refine HCL.out.mono ?_
  rintro e w3 ⟨nb, vs, rfl, hda, hb3, hstay⟩
  have hal : Below w3.heap.size w3 (w3.alloc (.cells #[.int .u8 77] 5)) := Below.allocs _ _
  have hbs : Bs (w3.alloc (.cells #[.int .u8 77] 5)) (some ⟨w3.heap.size, 0, none⟩) 1 1 [77] := bs_lit w3 [77] (by decide)
  have hb23 := hb3.trans (hal.mono hb3.size)
  have HCA := Lib.hid (append_in _ (hda.below hal) (Nat.le_trans HX.out.1 hb23.size) 0 HL0.out _ rfl _ 1 1 [77] hbs (by omega) (by
    have := HFEW.out 0
    rw [← fD_eq HL0.out] at this
    omega))
  have HAL := Lib.hid hal
  have HB3 := Lib.hid hb3
  have HST := Lib.hid hstay
  clear hda hb3 hstay hal hbs hb23 HCL
  go_wp2_with fail
  refine HCA.out.mono ?_
  rintro e w5 ⟨rfl, hl5⟩
  obtain ⟨vs5, hd5, ht5, hn5⟩ := LeftD.from HAL.out hl5
  have hfl : 0 < (doD d 0 (d.fs[0]'HL0.out) (.put [77])).fs.length := by rw [hd5.m3]; omega
  have HFL := Lib.hid hfl
  clear hfl
  have HCS := Lib.hid (sync_in w5 hd5 (Nat.le_trans HX.out.1 (Nat.le_trans HB3.out.size ht5.size)) 0 HFL.out _ rfl)
  have HT5 := Lib.hid ht5
  have HN5 := Lib.hid hn5
  clear hl5 hd5 ht5 hn5 HCA HAL
  go_wp2_with fail
  refine HCS.out.mono ?_
  rintro e Y ⟨rfl, hl6⟩
  obtain ⟨hxy, hkt⟩ := HST.out _ _ (LeftD.trans HN5.out HT5.out hl6)
  have HXY := Lib.hid hxy
  have HRY := Lib.hid (HR.out.step (kr_of_kt hkt))
  have HZY := Lib.hid (hkt.row HZX.out (by decide) (by decide))
  have HRW := Lib.hid (hkt.row HROW.out (by decide) (by decide))
  have HKY := Lib.hid ((KT.of_below HLOW.out).trans hkt)
  clear hl6 hxy hkt HST HN5 HT5 HCS HB3
  have HLA : Hid (∀ w', SZ base (w.heap.size + 2) Y w' → w'.rangeAt w.heap.size 0 (rdA ts d).toList) := fun w' hb => row_rangeR (SZ.row hb HRW.out (by decide) (by decide) (by omega))
  go_upto_region 20 with fail
  refine wp_region_tree (SZ base (w.heap.size + 2) Y) (.take 0 (.take 2 (.take 3 (.take 1 (.one 4 (.one 5 (.one 6 .nil))))))) (by kernel_rfl) (by kernel_rfl) (SZ.of_kt (KT.of_below (below_drew1 _ _))) ?_
  have hy0 : Below Y.heap.size Y Y.drew := below_drew1 _ _
  have hyy : KT base Y Y.drew := KT.of_below hy0
  repeat (apply tree_take; (· rfl); (· rfl); (· (intro w' hb'; go_simp; try with_reducible rfl)); try simp only [Act.put, List.setIfInBounds_toArray, List.set_cons_zero, List.set_cons_succ])
  refine tree_load rfl (by rfl) 37 _ rfl w.heap.size 0 rfl (rdA ts d) _ (fun w' hb => HLA.out w' hb) Try.underlying37 rfl (infoRD _ (rdA_size HRY.out.n3 HRY.out.m3)) ?_
  try simp only [Act.put, List.setIfInBounds_toArray, List.set_cons_zero, List.set_cons_succ]
  refine tree_one rfl (by rfl) (fun K hK => ?_)
  go_simp
  refine Shut.out hK _ _ (SZ.of_kt hyy) ?_
  clear hK K
  try simp only [Act.put, List.setIfInBounds_toArray, List.set_cons_zero, List.set_cons_succ]
  have hx := HXY.out.below hy0
  have hr := HRY.out.below hy0
  have hz2 := Below.keepOld hy0 HZY.out
  have hk := HKY.out.next hy0
  clear HXY HRY HZY HKY HRW
  have HXY := Lib.hid hx
  have HRY := Lib.hid hr
  have HZY := Lib.hid hz2
  have HKY := Lib.hid hk
  clear hx hr hz2 hk
  refine tree_one rfl (by rfl) (fun K hK => oper_of_list rfl ?_)
  refine wpList_store_row rfl 37 _ _ rfl (w.heap.size + 2) (rdA ts d) rfl rfl 37 zD HZY.out (infoRD _ (rdA_size HRY.out.n3 HRY.out.m3)) (by rw [rdA_size HRY.out.n3 HRY.out.m3]; rfl) (rdA_one HRY.out.n3 HRY.out.m3) ?_
  refine only_end (Shut.out hK _ _ (SZ.set hyy) ?_)
  clear hK K
  try simp only [Act.put, List.setIfInBounds_toArray, List.set_cons_zero, List.set_cons_succ]
  refine tree_one rfl (by rfl) (fun K hK => ?_)
  go_simp
  refine Shut.out hK _ _ (SZ.set hyy) ?_
  clear hK K
  try simp only [Act.put, List.setIfInBounds_toArray, List.set_cons_zero, List.set_cons_succ]
  refine tree_nil ?_
  clear hyy hy0 HLA
  generalize Y.drew = Z at *
  go_wp2_with fail
  skip
  -- the result: world Z, disk d at nb, the document's ts: HXY, HRY, HZY, HKY : KT base w Z
  have HS := Lib.hid (setRow_heap _ _ _ (rdA ts d) _ _ HZY.out)
  have HK9 := Lib.hid (kt_setRow (g := w.heap.size + 2) (A := rdA ts d) HKY.out (by omega))
  have HX9 := Lib.hid (HXY.out.turn (turns_setRow Z (w.heap.size + 2) (rdA ts d)) (fun k M' t fr hk hm => by
    have hk' : k = w.heap.size + 2 := hk
    subst hk'
    rw [HZY.out] at hm
    injection hm with e1
    injection e1 with _ e2
    subst e2
    exact ⟨by decide, by decide, by decide⟩))
  have HR9 := Lib.hid (HRY.out.put (A := rdA ts d) HZY.out)
  refine bodyPost_ret (results_tct rfl _ _ _ _ _ _ _ rfl HS.out Try.underlying37 rfl (infoRD _ (rdA_size HRY.out.n3 HRY.out.m3))) rfl ?_
  exact ⟨nb, ts, rfl, HX9.out, HR9.out, HK9.out⟩
end Go.Proofs.Ytbkkcejpkfbcjaa.Rk

namespace Go.Mir
open Go.RowKit

theorem wpAnyH_mono {P : Program} {md : Region.Mode} {ops : Array Oper} {Q : Exit → Act → World → Prop} {S S' : World → Prop} (hs : ∀ x, S' x → S x) :
    ∀ (n : Nat) (listed : Array Bool) (a : Act) (w : World), wpAnyH P md ops Q S' n listed a w → wpAnyH P md ops Q S n listed a w
  | 0, _, _, _, h => h
  | n + 1, _, _, _, h => ⟨h.1, fun i hi => wpOp_mono (fun a' w' h' => ⟨hs _ h'.1, wpAnyH_mono hs n _ a' w' h'.2⟩) (h.2 i hi)⟩
def wpEagerX (P : Program) (ops : Array Oper) (Q : Exit → Act → World → Prop) : List (Oper × Bool) → (World → Prop) → Act → World → Prop
  | [], _, a, w => Q .normal a w
  | (o, true) :: r, S, a, w => ∃ v, YieldsIf P ops S o v a ∧ wpEagerX P ops Q r S (a.put o.dst v) w
  | (o, false) :: r, S, a, w => if Region.wanted o (yielded ops a.tmps) then o.wp P a w (fun a' w' => ∃ S' : World → Prop, (∀ x, S' x → S x) ∧ S' w' ∧ wpEagerX P ops Q r S' a' w') Q else wpEagerX P ops Q r S (a.put o.dst undef) w
theorem wpAnyH_eagerX {P : Program} {l : List Oper} {ops : Array Oper} (hl : l.toArray = ops) {Q : Exit → Act → World → Prop} (hs : Region.noSelect ops = true) (hQ : ∀ c a d v w, Q (.panic c) (a.put d v) w → Q (.panic c) a w) :
    ∀ (π : List (Nat × Bool)) (listed : Array Bool) (S : World → Prop) (a : Act) (w : World), planB ops π listed = true → S w → wpEagerX P ops Q (planOps l π) S a w → wpAnyH P .any ops Q S π.length listed a w
  | [], listed, S, a, w, hp, _, h => by
    refine wpAnyH_done ?_ h _
    simpa [planB, List.isEmpty_iff] using hp
  | (i, true) :: r, listed, S, a, w, hp, hS, h => by
    simp only [planB, Bool.and_eq_true] at hp
    obtain ⟨⟨⟨h1, h2⟩, h3⟩, h4⟩ := hp
    obtain ⟨o, ho⟩ := Option.isSome_iff_exists.1 h1
    have hn : nthO l i = some o := by rw [← nthO_eq, hl]; exact ho
    simp only [planOps, hn, wpEagerX] at h
    obtain ⟨v, hy, h⟩ := h
    exact wpAnyH_take ho hs h2 h3 (fun c a w => hQ c a _ _ w) hy hS (wpAnyH_eagerX hl hs hQ r _ S _ _ h4 hS h)
  | (i, false) :: r, listed, S, a, w, hp, hS, h => by
    simp only [planB, Bool.and_eq_true, beq_iff_eq] at hp
    obtain ⟨⟨h1, h2⟩, h4⟩ := hp
    obtain ⟨o, ho⟩ := Option.isSome_iff_exists.1 h1
    have hn : nthO l i = some o := by rw [← nthO_eq, hl]; exact ho
    simp only [planOps, hn, wpEagerX] at h
    refine wpAnyH_all h2 (by simp) fun j hj => ?_
    rw [List.mem_singleton] at hj
    subst hj
    unfold wpOp
    simp only [ho]
    split at h
    · rename_i hw
      rw [if_pos hw]
      exact .inl (Oper.wp_mono (fun a' w' ⟨S', h5, h6, h7⟩ => ⟨h5 _ h6, wpAnyH_mono h5 _ _ _ _ (wpAnyH_eagerX hl hs hQ r _ S' _ _ h4 h6 h7)⟩) h)
    · rename_i hw
      rw [if_neg hw]
      exact ⟨hS, wpAnyH_eagerX hl hs hQ r _ S _ _ h4 hS h⟩
/-- the beginning -/
theorem wp_region_eager_x {P : Program} {id : Nat} {Q : Exit → Act → World → Prop} {a : Act} {w : World} {l : List Oper} (S : World → Prop) (π : List (Nat × Bool)) (hm : P.follows .mixedOrders = true)
    (hp : (planB l.toArray π (Array.replicate l.length false) && Region.noSelect l.toArray && π.length == l.length) = true) (hS : S w.drew)
    (h : wpEagerX P l.toArray (NoPanic Q) (planOps l π) S a w.drew) : (Code.region id l.toArray true).wp P Q a w := by
  refine wp_region_noPanic ?_
  simp only [Bool.and_eq_true, beq_iff_eq] at hp
  obtain ⟨⟨h1, h2⟩, h3⟩ := hp
  have := wpAnyH_eagerX (P := P) (Q := NoPanic Q) (l := l) rfl h2 (fun _ _ _ _ _ h => h) π (Array.replicate l.length false) S a w.drew h1 hS h
  refine wp_region_held hm (S := S) ?_
  rw [h3] at this
  have hz : l.toArray.size = l.length := List.size_toArray ..
  rw [hz]
  exact this
section
variable {P : Program} {ops : Array Oper} {S : World → Prop} {Q : Exit → Act → World → Prop}
theorem eagerXOpen {l : List Oper} {i : Nat} {b : Bool} {r : List (Nat × Bool)} {a : Act} {w : World} {o : Oper} (ho : nthO l i = some o)
    (h : wpEagerX P ops Q ((o, b) :: planOps l r) S a w) : wpEagerX P ops Q (planOps l ((i, b) :: r)) S a w := by
  unfold planOps; rw [ho]; exact h
theorem eagerXEnd {l : List Oper} {a : Act} {w : World} (h : Q .normal a w) : wpEagerX P ops (NoPanic Q) (planOps l []) S a w := h
theorem wpEagerX_take {o : Oper} {r : List (Oper × Bool)} {a : Act} {w : World} {v : Value} (hw : Region.wanted o (yielded ops a.tmps) = true)
    (hy : ∀ w', S w' → (execOp a.eval o).run P w' = .ok (.value v) w') (h : wpEagerX P ops Q r S (a.put o.dst v) w) : wpEagerX P ops Q ((o, true) :: r) S a w := ⟨v, .inl ⟨hw, hy⟩, h⟩
theorem wpEagerX_skip {o : Oper} {r : List (Oper × Bool)} {a : Act} {w : World} (hw : Region.wanted o (yielded ops a.tmps) = false)
    (h : wpEagerX P ops Q r S (a.put o.dst undef) w) : wpEagerX P ops Q ((o, true) :: r) S a w := ⟨undef, .inr ⟨hw, rfl⟩, h⟩
theorem wpEagerX_off {o : Oper} {r : List (Oper × Bool)} {a : Act} {w : World} (hw : Region.wanted o (yielded ops a.tmps) = false)
    (h : wpEagerX P ops Q r S (a.put o.dst undef) w) : wpEagerX P ops Q ((o, false) :: r) S a w := by
  unfold wpEagerX; rw [if_neg (by rw [hw]; exact Bool.false_ne_true)]; exact h
theorem wpEagerX_load {op : Oper} {r : List (Oper × Bool)} {a : Act} {w : World} (hw : Region.wanted op (yielded ops a.tmps) = true) (ty : TypeId) (x : Operand) (ho : op.op = .load ty x)
    (b o : Nat) (hx : a.eval x = .pointer (some ⟨b, o, none⟩)) (M : Array Value) (d : TypeDesc) (hc : ∀ w', S w' → w'.rangeAt b o M.toList)
    (hu : P.underlying ty = some d) (hd : d.isRow = true) (hi : (P.info? ty).map (·.size) = some M.size)
    (h : wpEagerX P ops Q r S (a.put op.dst (.agg M)) w) : wpEagerX P ops Q ((op, true) :: r) S a w := by
  refine wpEagerX_take hw (fun w' hb => ?_) h
  unfold execOp
  simp only [ho, hx, Instr.loadAt, Instr.sureAddr, Sem.run_bind, Sem.run_pure, Result.andThen_ok, run_loadVar_mid w' b o ty M.toList d (hc w' hb) hu hd (by simpa using hi)]
/-- at an operation that runs in its turn: the way back is shut till a condition is shown, at least as strong as the one before -/
theorem wpEagerX_op {o : Oper} {r : List (Oper × Bool)} {a : Act} {w : World} (hw : Region.wanted o (yielded ops a.tmps) = true)
    (h : ∀ K : Act → World → Prop, Shut (∀ (S' : World → Prop) a w, (∀ x, S' x → S x) → S' w → wpEagerX P ops Q r S' a w → K a w) → Oper.wp P o a w K Q) : wpEagerX P ops Q ((o, false) :: r) S a w := by
  unfold wpEagerX; rw [if_pos hw]; exact h _ fun S' _ _ h0 h1 h2 => ⟨S', h0, h1, h2⟩
theorem eagerXLoadAt {r : List (Oper × Bool)} {a : Act} {w : World} (n : Nat) {d : Option Nat} {ty : TypeId} {t : TypeId} {p : String} {af : Array Edge} {g : Option (Nat × Bool)} {b : Bool}
    (h : wpEagerX P ops Q ((⟨d, .load ty (.tmp n), t, p, af, g⟩, b) :: r) S a w) : wpEagerX P ops Q ((⟨d, .load ty (.tmp n), t, p, af, g⟩, b) :: r) S a w := h
theorem eagerXAt {r : List (Oper × Bool)} {a : Act} {w : World} (n : Nat) {op : Op} {t : TypeId} {p : String} {af : Array Edge} {g : Option (Nat × Bool)} {b : Bool}
    (h : wpEagerX P ops Q ((⟨some n, op, t, p, af, g⟩, b) :: r) S a w) : wpEagerX P ops Q ((⟨some n, op, t, p, af, g⟩, b) :: r) S a w := h
end
end Go.Mir

namespace Go.Proofs.Ytbkkcejpkfbcjaa.Rk
open Go.RowKit Go.Mir Go.Mir.Parts Dk Rol
open Cut

set_option maxRecDepth 100000 in
set_option maxHeartbeats 6400000 in
theorem like18_any {base db : Nat} {d : DD} {ts : List RF} (w : World) (h : DX base db d w) (hr : RDB w ts d) :
    Calls Try.prog 8 #[.pointer (some ⟨db, 0, none⟩), .agg (rdA ts d)] w fun e w' => e = .returned (.bool true) ∧ Below w.heap.size w w' := by
  have HB1 := Lib.hid (Below.allocs w (.cells (rdA ts d) 37))
  have HROW : Hid ((w.alloc (.cells (rdA ts d) 37)).heap[w.heap.size]? = some (.cells (rdA ts d) 37 (0, 0))) := heap_alloc_last _ _
  have HX := Lib.hid (h.below HB1.out)
  have HR := Lib.hid (hr.below HB1.out)
  clear h hr
  go_enter Try.func8, Try.ntmps8
  go_upto_region 1 with fail
  generalize w.alloc (.cells (rdA ts d) 37) = w1 at *
  go_wp2_with fail
  go_loopw [5] (fun j wr => ∃ k : Nat, k ≤ 3 ∧ j = .int .i64 k ∧ Below w1.heap.size w1 wr) (fun j _ => 3 - (intOf j).toNat)
  case atStart => exact ⟨0, by omega, rfl, Below.refl _ _⟩
  case round =>
    obtain ⟨k, hk, rfl, hbw⟩ := hrel
    have HBW := Lib.hid hbw
    clear hbw
    by_cases hlt : k < 3
    · have hd : decide ((k : Int) < (3 : Int)) = true := decide_eq_true (by omega)
      have hd2 : decide (k < 3) = true := decide_eq_true hlt
      have hk1 : (k : Int) < 3 := by omega
      have HXR := Lib.hid (HX.out.below HBW.out)
      have HRR := Lib.hid (HR.out.below HBW.out)
      have HRW := Lib.hid (Below.keepOld HBW.out HROW.out)
      have hti : k < ts.length := by rw [HRR.out.n3]; exact hlt
      have ht : ts[k]? = some (ts[k]'hti) := List.getElem?_eq_getElem hti
      generalize ts[k]'hti = t at *
      have HT := Lib.hid ht
      have HF := Lib.hid (HRR.out.fd hlt)
      have HFA := Lib.hid (HRR.out.each k t _ HT.out HF.out).1.now
      have HNB : Hid ((fD d k).need ≤ 1000000) := by
        obtain ⟨t', f', _, a, _, _, b⟩ := HRR.out.at.file k hlt
        rw [HF.out] at a
        cases a; exact b
      have HLF : Hid (∀ w', Below wr.heap.size wr w' → w'.rangeAt w.heap.size (k * 2) (fA t (fD d k)).toList) := fun w' hb => rd_range HRR.out.n3 HRR.out.m3 (Below.keepOld hb HRW.out) k HT.out HF.out
      have HKP : Hid (∀ w', Below wr.heap.size wr w' → w'.cell? ⟨w.heap.size, k * 2, none⟩ = some (.slice t.kp (fD d k).kept.length t.kc)) := fun w' hb => by
        rw [cell_of_row _ _ _ _ _ _ (Below.keepOld hb HRW.out)]; exact (rdA_file HRR.out.n3 HRR.out.m3 k HT.out HF.out).1
      have HC4 : Hid (∀ w', Below wr.heap.size wr w' → (convert 31 9 (.slice t.kp (fD d k).kept.length t.kc)).run Try.prog w' = .ok (.string (S (fD d k).kept)) w') := fun w' hb => bconv (HFA.out.kept.below hb)
      have hqu : ((unitsAll (fD d k).steps : Int) != (unitsAll (fD d k).steps : Int)) = false := bne_self_eq_false _
      have hql : (((fD d k).now.length : Int) != ((fD d k).now.length : Int)) = false := bne_self_eq_false _
      clear ht hti HRW
      go_upto_region 4 with fail
      refine wp_region_eager_x (Below wr.heap.size wr) [(0, true), (1, true), (4, true), (5, true), (6, true), (7, true), (2, false), (3, true), (8, false), (9, true), (10, true), (11, true), (12, true), (13, true), (16, true), (17, true), (18, true), (19, true), (20, true), (21, true), (14, false), (15, true), (22, true), (23, true), (24, true), (25, true), (26, true), (28, true), (29, true), (30, true), (31, true), (27, false), (32, false), (33, true), (34, true), (35, true), (36, true), (37, true), (39, true), (40, true), (41, true), (42, true), (38, false), (43, false), (44, true), (45, true), (46, true)] (by kernel_rfl) (by kernel_rfl) ?_ (eagerXOpen rfl ?_)
      · exact below_drew1 _ _
      have hy0 : Below wr.heap.size wr wr.drew := below_drew1 _ _
      repeat (first
        | ((with_reducible refine eagerXLoadAt 16 ?_); refine wpEagerX_load (by rfl) 34 _ rfl w.heap.size (k * 2) rfl (fA t (fD d k)) _ (fun w' hb => HLF.out w' hb) Try.underlying34 rfl (infoFi _ rfl) ?_; (try simp only [Act.put, List.setIfInBounds_toArray, List.set_cons_zero, List.set_cons_succ]); (try refine eagerXOpen rfl ?_))
        | (first | (apply wpEagerX_take; (· rfl); (· (intro w' hb'; go_simp; try with_reducible rfl)); (try simp only [Act.put, List.setIfInBounds_toArray, List.set_cons_zero, List.set_cons_succ]); (try refine eagerXOpen rfl ?_)) | (refine wpEagerX_skip (by rfl) ?_; (try simp only [Act.put, List.setIfInBounds_toArray, List.set_cons_zero, List.set_cons_succ]); (try refine eagerXOpen rfl ?_)) | (refine wpEager_off (by rfl) ?_; (try simp only [Act.put, List.setIfInBounds_toArray, List.set_cons_zero, List.set_cons_succ]); (try refine eagerXOpen rfl ?_))))
      (refine wpEagerX_op (by rfl) (fun K hK => ?_); go_simp; (refine (xread wr.drew (HXR.out.below hy0) k hlt).mono ?_; rintro e y ⟨p1, c1, rfl, ho, hb⟩; have HO1 := Lib.hid ho; have HY1 := Lib.hid (hy0.trans hb); have hsub : ∀ x, Below y.heap.size y x → Below wr.heap.size wr x := fun x hx => HY1.out.trans (hx.mono HY1.out.size); have hy1 : Below y.heap.size y y := Below.refl _ _; clear hb ho); refine Shut.out hK _ _ _ hsub (by assumption) ?_; clear hK K hsub; (try simp only [Act.put, List.setIfInBounds_toArray, List.set_cons_zero, List.set_cons_succ]); (try refine eagerXOpen rfl ?_))
      have HC1 : Hid (∀ w', Below y.heap.size y w' → (convert 31 9 (.slice p1 (fD d k).now.length c1)).run Try.prog w' = .ok (.string (S (fD d k).now)) w') := fun w' hb => bconv (HO1.out.below hb)
      repeat (first
        | (apply wpEagerX_take; (· rfl); (· (intro w' hb'; have hk' := (fun w' hb => HC1.out w' hb) w' hb'; go_split_ands; go_simp; try with_reducible rfl)); (try simp only [Act.put, List.setIfInBounds_toArray, List.set_cons_zero, List.set_cons_succ]); (try refine eagerXOpen rfl ?_))
        | (first | (apply wpEagerX_take; (· rfl); (· (intro w' hb'; go_simp; try with_reducible rfl)); (try simp only [Act.put, List.setIfInBounds_toArray, List.set_cons_zero, List.set_cons_succ]); (try refine eagerXOpen rfl ?_)) | (refine wpEagerX_skip (by rfl) ?_; (try simp only [Act.put, List.setIfInBounds_toArray, List.set_cons_zero, List.set_cons_succ]); (try refine eagerXOpen rfl ?_)) | (refine wpEager_off (by rfl) ?_; (try simp only [Act.put, List.setIfInBounds_toArray, List.set_cons_zero, List.set_cons_succ]); (try refine eagerXOpen rfl ?_))))
      (refine wpEagerX_op (by rfl) (fun K hK => ?_); go_simp; (refine (rholds_any t (fD d k) y (HFA.out.below HY1.out) HNB.out).mono ?_; rintro e y2 ⟨p2, c2, rfl, ho, hb⟩; have HO2 := Lib.hid (own_bs ho); have HY2 := Lib.hid (HY1.out.trans (hb.mono HY1.out.size)); have hsub : ∀ x, Below y2.heap.size y2 x → Below y.heap.size y x := fun x hx => hb.trans (hx.mono hb.size); have hy2 : Below y2.heap.size y2 y2 := Below.refl _ _; clear ho); refine Shut.out hK _ _ _ hsub (by assumption) ?_; clear hK K hsub; (try simp only [Act.put, List.setIfInBounds_toArray, List.set_cons_zero, List.set_cons_succ]); (try refine eagerXOpen rfl ?_))
      have HC2 : Hid (∀ w', Below y2.heap.size y2 w' → (convert 31 9 (.slice p2 (fD d k).now.length c2)).run Try.prog w' = .ok (.string (S (fD d k).now)) w') := fun w' hb => bconv (HO2.out.below hb)
      have HKP2 : Hid (∀ w', Below y2.heap.size y2 w' → w'.cell? ⟨w.heap.size, k * 2, none⟩ = some (.slice t.kp (fD d k).kept.length t.kc)) := fun w' hb => HKP.out w' (HY2.out.trans (hb.mono HY2.out.size))
      have HC42 : Hid (∀ w', Below y2.heap.size y2 w' → (convert 31 9 (.slice t.kp (fD d k).kept.length t.kc)).run Try.prog w' = .ok (.string (S (fD d k).kept)) w') := fun w' hb => HC4.out w' (HY2.out.trans (hb.mono HY2.out.size))
      repeat (first
        | (apply wpEagerX_take; (· rfl); (· (intro w' hb'; have hk' := (fun w' hb => HC2.out w' hb) w' hb'; go_split_ands; go_simp; try with_reducible rfl)); (try simp only [Act.put, List.setIfInBounds_toArray, List.set_cons_zero, List.set_cons_succ]); (try refine eagerXOpen rfl ?_))
        | (apply wpEagerX_take; (· rfl); (· (intro w' hb'; have hk' := (fun w' hb => HKP2.out w' hb) w' hb'; go_split_ands; go_simp; try with_reducible rfl)); (try simp only [Act.put, List.setIfInBounds_toArray, List.set_cons_zero, List.set_cons_succ]); (try refine eagerXOpen rfl ?_))
        | (apply wpEagerX_take; (· rfl); (· (intro w' hb'; have hk' := (fun w' hb => HC42.out w' hb) w' hb'; go_split_ands; go_simp; try with_reducible rfl)); (try simp only [Act.put, List.setIfInBounds_toArray, List.set_cons_zero, List.set_cons_succ]); (try refine eagerXOpen rfl ?_))
        | (first | (apply wpEagerX_take; (· rfl); (· (intro w' hb'; go_simp; try with_reducible rfl)); (try simp only [Act.put, List.setIfInBounds_toArray, List.set_cons_zero, List.set_cons_succ]); (try refine eagerXOpen rfl ?_)) | (refine wpEagerX_skip (by rfl) ?_; (try simp only [Act.put, List.setIfInBounds_toArray, List.set_cons_zero, List.set_cons_succ]); (try refine eagerXOpen rfl ?_)) | (refine wpEager_off (by rfl) ?_; (try simp only [Act.put, List.setIfInBounds_toArray, List.set_cons_zero, List.set_cons_succ]); (try refine eagerXOpen rfl ?_))))
      (refine wpEagerX_op (by rfl) (fun K hK => ?_); go_simp; (refine (xkept y2 (HXR.out.below HY2.out) k hlt).mono ?_; rintro e y3 ⟨p3, c3, rfl, ho, hb3⟩; have HO3 := Lib.hid ho; have HY3 := Lib.hid (HY2.out.trans (hb3.mono HY2.out.size)); have hsub : ∀ x, Below y3.heap.size y3 x → Below y2.heap.size y2 x := fun x hx => hb3.trans (hx.mono hb3.size); have hy3 : Below y3.heap.size y3 y3 := Below.refl _ _; clear ho); refine Shut.out hK _ _ _ hsub (by assumption) ?_; clear hK K hsub; (try simp only [Act.put, List.setIfInBounds_toArray, List.set_cons_zero, List.set_cons_succ]); (try refine eagerXOpen rfl ?_))
      have HC3 : Hid (∀ w', Below y3.heap.size y3 w' → (convert 31 9 (.slice p3 (fD d k).kept.length c3)).run Try.prog w' = .ok (.string (S (fD d k).kept)) w') := fun w' hb => bconv (HO3.out.below hb)
      have HLF3 : Hid (∀ w', Below y3.heap.size y3 w' → w'.rangeAt w.heap.size (k * 2) (fA t (fD d k)).toList) := fun w' hb => HLF.out w' (HY3.out.trans (hb.mono HY3.out.size))
      repeat (first
        | (apply wpEagerX_take; (· rfl); (· (intro w' hb'; have hk' := (fun w' hb => HC3.out w' hb) w' hb'; go_split_ands; go_simp; try with_reducible rfl)); (try simp only [Act.put, List.setIfInBounds_toArray, List.set_cons_zero, List.set_cons_succ]); (try refine eagerXOpen rfl ?_))
        | ((with_reducible refine eagerXLoadAt 40 ?_); refine wpEagerX_load (by rfl) 34 _ rfl w.heap.size (k * 2) rfl (fA t (fD d k)) _ (fun w' hb => HLF3.out w' hb) Try.underlying34 rfl (infoFi _ rfl) ?_; (try simp only [Act.put, List.setIfInBounds_toArray, List.set_cons_zero, List.set_cons_succ]); (try refine eagerXOpen rfl ?_))
        | (first | (apply wpEagerX_take; (· rfl); (· (intro w' hb'; go_simp; try with_reducible rfl)); (try simp only [Act.put, List.setIfInBounds_toArray, List.set_cons_zero, List.set_cons_succ]); (try refine eagerXOpen rfl ?_)) | (refine wpEagerX_skip (by rfl) ?_; (try simp only [Act.put, List.setIfInBounds_toArray, List.set_cons_zero, List.set_cons_succ]); (try refine eagerXOpen rfl ?_)) | (refine wpEager_off (by rfl) ?_; (try simp only [Act.put, List.setIfInBounds_toArray, List.set_cons_zero, List.set_cons_succ]); (try refine eagerXOpen rfl ?_))))
      (refine wpEagerX_op (by rfl) (fun K hK => ?_); go_simp; (refine (xunits y3 (HXR.out.below HY3.out) k hlt).mono ?_; rintro e y4 ⟨rfl, hb4⟩; have HY4 := Lib.hid (HY3.out.trans (hb4.mono HY3.out.size)); have hsub : ∀ x, Below y4.heap.size y4 x → Below y3.heap.size y3 x := fun x hx => hb4.trans (hx.mono hb4.size); have hy4 : Below y4.heap.size y4 y4 := Below.refl _ _); refine Shut.out hK _ _ _ hsub (by assumption) ?_; clear hK K hsub; (try simp only [Act.put, List.setIfInBounds_toArray, List.set_cons_zero, List.set_cons_succ]); (try refine eagerXOpen rfl ?_))
      repeat (first
        | (first | (apply wpEagerX_take; (· rfl); (· (intro w' hb'; go_simp; try with_reducible rfl)); (try simp only [Act.put, List.setIfInBounds_toArray, List.set_cons_zero, List.set_cons_succ]); (try refine eagerXOpen rfl ?_)) | (refine wpEagerX_skip (by rfl) ?_; (try simp only [Act.put, List.setIfInBounds_toArray, List.set_cons_zero, List.set_cons_succ]); (try refine eagerXOpen rfl ?_)) | (refine wpEager_off (by rfl) ?_; (try simp only [Act.put, List.setIfInBounds_toArray, List.set_cons_zero, List.set_cons_succ]); (try refine eagerXOpen rfl ?_))))
      (refine wpEagerX_op (by rfl) (fun K hK => ?_); go_simp; (refine (runits_any t (fD d k) y4 (HFA.out.below HY4.out)).mono ?_; rintro e y5 ⟨rfl, hb5⟩; have HY5 := Lib.hid (HY4.out.trans (hb5.mono HY4.out.size)); have hsub : ∀ x, Below y5.heap.size y5 x → Below y4.heap.size y4 x := fun x hx => hb5.trans (hx.mono hb5.size); have hy5 : Below y5.heap.size y5 y5 := Below.refl _ _); refine Shut.out hK _ _ _ hsub (by assumption) ?_; clear hK K hsub; (try simp only [Act.put, List.setIfInBounds_toArray, List.set_cons_zero, List.set_cons_succ]); (try refine eagerXOpen rfl ?_))
      have HLF5 : Hid (∀ w', Below y5.heap.size y5 w' → w'.rangeAt w.heap.size (k * 2) (fA t (fD d k)).toList) := fun w' hb => HLF.out w' (HY5.out.trans (hb.mono HY5.out.size))
      repeat (first
        | ((with_reducible refine eagerXLoadAt 51 ?_); refine wpEagerX_load (by rfl) 34 _ rfl w.heap.size (k * 2) rfl (fA t (fD d k)) _ (fun w' hb => HLF5.out w' hb) Try.underlying34 rfl (infoFi _ rfl) ?_; (try simp only [Act.put, List.setIfInBounds_toArray, List.set_cons_zero, List.set_cons_succ]); (try refine eagerXOpen rfl ?_))
        | (first | (apply wpEagerX_take; (· rfl); (· (intro w' hb'; go_simp; try with_reducible rfl)); (try simp only [Act.put, List.setIfInBounds_toArray, List.set_cons_zero, List.set_cons_succ]); (try refine eagerXOpen rfl ?_)) | (refine wpEagerX_skip (by rfl) ?_; (try simp only [Act.put, List.setIfInBounds_toArray, List.set_cons_zero, List.set_cons_succ]); (try refine eagerXOpen rfl ?_)) | (refine wpEager_off (by rfl) ?_; (try simp only [Act.put, List.setIfInBounds_toArray, List.set_cons_zero, List.set_cons_succ]); (try refine eagerXOpen rfl ?_))))
      (refine wpEagerX_op (by rfl) (fun K hK => ?_); go_simp; (refine (xsize y5 (HXR.out.below HY5.out) k hlt).mono ?_; rintro e y6 ⟨rfl, hb6⟩; have HY6 := Lib.hid (HY5.out.trans (hb6.mono HY5.out.size)); have hsub : ∀ x, Below y6.heap.size y6 x → Below y5.heap.size y5 x := fun x hx => hb6.trans (hx.mono hb6.size); have hy6 : Below y6.heap.size y6 y6 := Below.refl _ _); refine Shut.out hK _ _ _ hsub (by assumption) ?_; clear hK K hsub; (try simp only [Act.put, List.setIfInBounds_toArray, List.set_cons_zero, List.set_cons_succ]); (try refine eagerXOpen rfl ?_))
      repeat (first
        | (first | (apply wpEagerX_take; (· rfl); (· (intro w' hb'; go_simp; try with_reducible rfl)); (try simp only [Act.put, List.setIfInBounds_toArray, List.set_cons_zero, List.set_cons_succ]); (try refine eagerXOpen rfl ?_)) | (refine wpEagerX_skip (by rfl) ?_; (try simp only [Act.put, List.setIfInBounds_toArray, List.set_cons_zero, List.set_cons_succ]); (try refine eagerXOpen rfl ?_)) | (refine wpEager_off (by rfl) ?_; (try simp only [Act.put, List.setIfInBounds_toArray, List.set_cons_zero, List.set_cons_succ]); (try refine eagerXOpen rfl ?_))))
      (refine wpEagerX_op (by rfl) (fun K hK => ?_); go_simp; (refine (rholds_any t (fD d k) y6 (HFA.out.below HY6.out) HNB.out).mono ?_; rintro e y7 ⟨p7, c7, rfl, _, hb7⟩; have HY7 := Lib.hid (HY6.out.trans (hb7.mono HY6.out.size)); have hsub : ∀ x, Below y7.heap.size y7 x → Below y6.heap.size y6 x := fun x hx => hb7.trans (hx.mono hb7.size); have hy7 : Below y7.heap.size y7 y7 := Below.refl _ _); refine Shut.out hK _ _ _ hsub (by assumption) ?_; clear hK K hsub; (try simp only [Act.put, List.setIfInBounds_toArray, List.set_cons_zero, List.set_cons_succ]); (try refine eagerXOpen rfl ?_))
      repeat (first
        | (first | (apply wpEagerX_take; (· rfl); (· (intro w' hb'; go_simp; try with_reducible rfl)); (try simp only [Act.put, List.setIfInBounds_toArray, List.set_cons_zero, List.set_cons_succ]); (try refine eagerXOpen rfl ?_)) | (refine wpEagerX_skip (by rfl) ?_; (try simp only [Act.put, List.setIfInBounds_toArray, List.set_cons_zero, List.set_cons_succ]); (try refine eagerXOpen rfl ?_)) | (refine wpEager_off (by rfl) ?_; (try simp only [Act.put, List.setIfInBounds_toArray, List.set_cons_zero, List.set_cons_succ]); (try refine eagerXOpen rfl ?_))))
      refine eagerXEnd ?_
      have HBW2 := Lib.hid (HBW.out.trans (HY7.out.mono HBW.out.size))
      clear HC1 HC2 HC3 HC4 HC42 HKP HKP2 hy0 hy1 hy2 hy3 hy4 hy5 hy6 hy7 HO1 HO2 HO3 HLF HLF3 HLF5 HFA HNB HT HF HXR HRR HY1 HY2 HY3 HY4 HY5 HY6 HY7 HBW
      go_wp2_with fail
      go_roundw
      case rel => exact ⟨k + 1, by omega, by go_num, HBW2.out⟩
      case measure => simp [intOf]; omega
    · obtain rfl : k = 3 := by omega
      have hd : decide ((3 : Int) < (3 : Int)) = false := by decide
      have HXR := Lib.hid (HX.out.below HBW.out)
      have HRR := Lib.hid (HR.out.below HBW.out)
      have HRW := Lib.hid (Below.keepOld HBW.out HROW.out)
      have HB2 := Lib.hid (HB1.out.trans (HBW.out.mono HB1.out.size))
      have HLA : Hid (∀ w', Below wr.heap.size wr w' → w'.rangeAt w.heap.size 0 (rdA ts d).toList) := fun w' hb => row_rangeR (Below.keepOld hb HRW.out)
      have HC6 : Hid (∀ w', Below wr.heap.size wr w' → w'.cell? ⟨w.heap.size, 6, none⟩ = some (.int .i64 (d.room : Int))) := fun w' hb => (rd_cells HRR.out.n3 HRR.out.m3 (Below.keepOld hb HRW.out)).1
      have HC7 : Hid (∀ w', Below wr.heap.size wr w' → w'.cell? ⟨w.heap.size, 7, none⟩ = some (.int .i64 (d.fuse : Int))) := fun w' hb => (rd_cells HRR.out.n3 HRR.out.m3 (Below.keepOld hb HRW.out)).2.1
      have HC8 : Hid (∀ w', Below wr.heap.size wr w' → w'.cell? ⟨w.heap.size, 8, none⟩ = some (.bool d.down)) := fun w' hb => (rd_cells HRR.out.n3 HRR.out.m3 (Below.keepOld hb HRW.out)).2.2.1
      clear HX HR HROW HB1 HBW
      have hq1 : ((usedL d.fs : Int) == (usedL d.fs : Int)) = true := beq_self_eq_true _
      have hqr : ((d.room : Int) == (d.room : Int)) = true := beq_self_eq_true _
      have hq2 : ((d.fuse : Int) == (d.fuse : Int)) = true := beq_self_eq_true _
      have hq3 : (d.down == d.down) = true := beq_self_eq_true _
      go_upto_region 6 with fail
      refine wp_region_eager [(0, true), (2, true), (1, false), (3, false), (4, true), (5, true), (6, true), (8, true), (9, true), (7, false), (10, true), (11, true), (12, true), (13, true), (15, true), (16, true), (14, false), (17, true), (18, true), (19, true), (20, true), (22, true), (23, true), (21, false), (24, true), (25, true), (26, true)] (by kernel_rfl) (by kernel_rfl) (eagerOpen rfl ?_)
      have hy0 : Below wr.heap.size wr wr.drew := below_drew1 _ _
      repeat (first
        | ((with_reducible refine eagerLoadAt 3 ?_); refine wpEager_load (by rfl) 37 _ rfl w.heap.size 0 rfl (rdA ts d) _ (fun w' hb => HLA.out w' hb) Try.underlying37 rfl (infoRD _ (rdA_size HRR.out.n3 HRR.out.m3)) ?_; (try simp only [Act.put, List.setIfInBounds_toArray, List.set_cons_zero, List.set_cons_succ]); (try refine eagerOpen rfl ?_))
        | (first | (apply wpEager_take; (· rfl); (· (intro w' hb'; go_simp; try with_reducible rfl)); (try simp only [Act.put, List.setIfInBounds_toArray, List.set_cons_zero, List.set_cons_succ]); (try refine eagerOpen rfl ?_)) | (refine wpEager_skip (by rfl) ?_; (try simp only [Act.put, List.setIfInBounds_toArray, List.set_cons_zero, List.set_cons_succ]); (try refine eagerOpen rfl ?_)) | (refine wpEager_off (by rfl) ?_; (try simp only [Act.put, List.setIfInBounds_toArray, List.set_cons_zero, List.set_cons_succ]); (try refine eagerOpen rfl ?_))))
      (refine wpEager_op (by rfl) (fun K hK => ?_); go_simp; (refine (xused _ (HXR.out.below hy0)).mono ?_; rintro e y ⟨rfl, rfl⟩); refine Shut.out hK _ _ (by assumption) ?_; clear hK K; (try simp only [Act.put, List.setIfInBounds_toArray, List.set_cons_zero, List.set_cons_succ]); (try refine eagerOpen rfl ?_))
      (refine wpEager_op (by rfl) (fun K hK => ?_); go_simp; (refine (rused_any ts d _ (HRR.out.below hy0).at).mono ?_; rintro e y2 ⟨rfl, hb⟩; have hy2 := hy0.trans hb; clear hb); refine Shut.out hK _ _ (by assumption) ?_; clear hK K; (try simp only [Act.put, List.setIfInBounds_toArray, List.set_cons_zero, List.set_cons_succ]); (try refine eagerOpen rfl ?_))
      repeat (first
        | (first | (apply wpEager_take; (· rfl); (· (intro w' hb'; go_simp; try with_reducible rfl)); (try simp only [Act.put, List.setIfInBounds_toArray, List.set_cons_zero, List.set_cons_succ]); (try refine eagerOpen rfl ?_)) | (refine wpEager_skip (by rfl) ?_; (try simp only [Act.put, List.setIfInBounds_toArray, List.set_cons_zero, List.set_cons_succ]); (try refine eagerOpen rfl ?_)) | (refine wpEager_off (by rfl) ?_; (try simp only [Act.put, List.setIfInBounds_toArray, List.set_cons_zero, List.set_cons_succ]); (try refine eagerOpen rfl ?_)))
        | (apply wpEager_take; (· rfl); (· (intro w' hb'; have hk' := (fun w' hb => HC6.out w' hb) w' hb'; go_split_ands; go_simp; try with_reducible rfl)); (try simp only [Act.put, List.setIfInBounds_toArray, List.set_cons_zero, List.set_cons_succ]); (try refine eagerOpen rfl ?_)))
      (refine wpEager_op (by rfl) (fun K hK => ?_); go_simp; (refine (xroom _ (HXR.out.below hy2)).mono ?_; rintro e y ⟨rfl, rfl⟩); refine Shut.out hK _ _ (by assumption) ?_; clear hK K; (try simp only [Act.put, List.setIfInBounds_toArray, List.set_cons_zero, List.set_cons_succ]); (try refine eagerOpen rfl ?_))
      repeat (first
        | (first | (apply wpEager_take; (· rfl); (· (intro w' hb'; go_simp; try with_reducible rfl)); (try simp only [Act.put, List.setIfInBounds_toArray, List.set_cons_zero, List.set_cons_succ]); (try refine eagerOpen rfl ?_)) | (refine wpEager_skip (by rfl) ?_; (try simp only [Act.put, List.setIfInBounds_toArray, List.set_cons_zero, List.set_cons_succ]); (try refine eagerOpen rfl ?_)) | (refine wpEager_off (by rfl) ?_; (try simp only [Act.put, List.setIfInBounds_toArray, List.set_cons_zero, List.set_cons_succ]); (try refine eagerOpen rfl ?_)))
        | (apply wpEager_take; (· rfl); (· (intro w' hb'; have hk' := (fun w' hb => HC7.out w' hb) w' hb'; go_split_ands; go_simp; try with_reducible rfl)); (try simp only [Act.put, List.setIfInBounds_toArray, List.set_cons_zero, List.set_cons_succ]); (try refine eagerOpen rfl ?_)))
      (refine wpEager_op (by rfl) (fun K hK => ?_); go_simp; (refine (xfuse _ (HXR.out.below hy2)).mono ?_; rintro e y ⟨rfl, rfl⟩); refine Shut.out hK _ _ (by assumption) ?_; clear hK K; (try simp only [Act.put, List.setIfInBounds_toArray, List.set_cons_zero, List.set_cons_succ]); (try refine eagerOpen rfl ?_))
      repeat (first
        | (first | (apply wpEager_take; (· rfl); (· (intro w' hb'; go_simp; try with_reducible rfl)); (try simp only [Act.put, List.setIfInBounds_toArray, List.set_cons_zero, List.set_cons_succ]); (try refine eagerOpen rfl ?_)) | (refine wpEager_skip (by rfl) ?_; (try simp only [Act.put, List.setIfInBounds_toArray, List.set_cons_zero, List.set_cons_succ]); (try refine eagerOpen rfl ?_)) | (refine wpEager_off (by rfl) ?_; (try simp only [Act.put, List.setIfInBounds_toArray, List.set_cons_zero, List.set_cons_succ]); (try refine eagerOpen rfl ?_)))
        | (apply wpEager_take; (· rfl); (· (intro w' hb'; have hk' := (fun w' hb => HC8.out w' hb) w' hb'; go_split_ands; go_simp; try with_reducible rfl)); (try simp only [Act.put, List.setIfInBounds_toArray, List.set_cons_zero, List.set_cons_succ]); (try refine eagerOpen rfl ?_)))
      (refine wpEager_op (by rfl) (fun K hK => ?_); go_simp; (refine (xdown _ (HXR.out.below hy2)).mono ?_; rintro e y ⟨rfl, rfl⟩); refine Shut.out hK _ _ (by assumption) ?_; clear hK K; (try simp only [Act.put, List.setIfInBounds_toArray, List.set_cons_zero, List.set_cons_succ]); (try refine eagerOpen rfl ?_))
      repeat (first
        | (first | (apply wpEager_take; (· rfl); (· (intro w' hb'; go_simp; try with_reducible rfl)); (try simp only [Act.put, List.setIfInBounds_toArray, List.set_cons_zero, List.set_cons_succ]); (try refine eagerOpen rfl ?_)) | (refine wpEager_skip (by rfl) ?_; (try simp only [Act.put, List.setIfInBounds_toArray, List.set_cons_zero, List.set_cons_succ]); (try refine eagerOpen rfl ?_)) | (refine wpEager_off (by rfl) ?_; (try simp only [Act.put, List.setIfInBounds_toArray, List.set_cons_zero, List.set_cons_succ]); (try refine eagerOpen rfl ?_))))
      refine eagerEnd ?_
      have HB3 := Lib.hid (HB2.out.trans (hy2.mono HB2.out.size))
      clear hy0 hy2
      go_wp2_with fail
      go_ret
      exact ⟨rfl, HB3.out⟩
end Go.Proofs.Ytbkkcejpkfbcjaa.Rk

namespace Go.Proofs.Ytbkkcejpkfbcjaa.Rk
open Go.RowKit Go.Mir Go.Mir.Parts Dk Rol

def T0 : List RF := [⟨none, 0, none, 0⟩, ⟨none, 0, none, 0⟩, ⟨none, 0, none, 0⟩]
theorem rb_none (w : World) : Rb 0 w ⟨none, 0, none, 0⟩ FD.none := ⟨[], fun y _ =>
  ⟨Cut.own_bs (World.ownsRow_nil _ 0 _ _), ⟨Sl.nil _ _, fun _ h => (nomatch h), rfl⟩, fun i r s h => (nomatch h), ⟨rfl, trivial, fun u => Nat.le_refl _, Nat.le_refl _, fun s hs => (nomatch hs)⟩, Nat.zero_le _⟩⟩
theorem rdb_new (w : World) (room : Nat) (h : 1 ≤ room ∧ room ≤ 65536) : RDB w T0 (DD.new room) := by
  refine ⟨rfl, rfl, fun i t f a b => ?_, h, Nat.zero_le _, Nat.zero_le _⟩
  match i, a, b with
  | 0, a, b => cases a; cases b; exact ⟨rb_none w, nd_none⟩
  | 1, a, b => cases a; cases b; exact ⟨rb_none w, nd_none⟩
  | 2, a, b => cases a; cases b; exact ⟨rb_none w, nd_none⟩
  | i + 3, a, b => cases a
theorem built_rd (room : Nat) : Try.prog.built 37 [(1, .int .i64 (room : Int))] = some (rdA T0 (DD.new room)) := by kernel_rfl
def caseV (room : Int) (p : Option Addr) (n c : Nat) : Array Value := #[.int .i64 room, .slice p n c]
/-- what stands at the loop's head -/
structure LS (w1 : World) (db rg : Nat) (T : List RF) (d : DD) (wr : World) : Prop where
  dx : DX w1.heap.size db d wr
  box : wr.heap[rg]? = some (.cells (rdA T d) 37 (0, 0))
  rd : RDB wr T d
  low : Below w1.heap.size w1 wr
  at_ : w1.heap.size ≤ rg
theorem LS.put {w1 wr : World} {db rg : Nat} {T : List RF} {d : DD} {M : Array Value} (h1 : DX w1.heap.size db d wr) (h3 : wr.heap[rg]? = some (.cells M 37 (0, 0))) (h4 : RDB wr T d) (h5 : Below w1.heap.size w1 wr) (h6 : w1.heap.size ≤ rg) : LS w1 db rg T d (wr.setRow rg (rdA T d)) := by
  refine ⟨h1.turn (turns_setRow wr rg _) (fun k M' t fr hk hm => ?_), setRow_heap _ _ _ _ _ _ h3, h4.put h3, below_setRow h5 h6 _, h6⟩
  have hk' : k = rg := hk
  subst hk'
  rw [h3] at hm
  injection hm with e1
  injection e1 with _ e2
  subst e2
  exact ⟨by decide, by decide, by decide⟩
theorem LS.next {w1 wr y : World} {db rg : Nat} {T : List RF} {d : DD} (h : LS w1 db rg T d wr) (hb : Below wr.heap.size wr y) : LS w1 db rg T d y :=
  ⟨h.dx.below hb, Below.keepOld hb h.box, h.rd.below hb, h.low.trans (hb.mono h.low.size), h.at_⟩
theorem fewFd {d : DD} {N : Nat} (h : FewD d N) (i : Nat) : (fD d i).steps.length ≤ N := by
  unfold fD
  cases he : d.fs[i]? with
  | none => exact Nat.zero_le _
  | some f => exact h f (List.mem_of_getElem? he)
theorem few_new (R : Nat) : FewD (DD.new R) 0 := fun f hf => by
  have : f = FD.none := by simpa [DD.new] using hf
  subst this; exact Nat.zero_le _
set_option maxRecDepth 100000 in
set_option maxHeartbeats 12800000 in
theorem law_does18 (room : Int) (p : Option Addr) (c : Nat) (os : List DOp) (rows : List (List Value)) (w : World) (hO : DOps w p os.length c os rows) (hs : os.length + dsum os ≤ 4611686018427387904) :
    Calls Try.prog 3 #[.agg (caseV room p os.length c)] w fun e w' => e = .returned (.bool true) ∧ Below w.heap.size w w' := by
  have HB1 := Lib.hid (Below.allocs w (.cells (caseV room p os.length c) 24))
  have hrow : (w.alloc (.cells (caseV room p os.length c) 24)).heap[w.heap.size]? = some (.cells (caseV room p os.length c) 24 (0, 0)) := heap_alloc_last _ _
  have hc1 : (w.alloc (.cells (caseV room p os.length c) 24)).cell? ⟨w.heap.size, 1, none⟩ = some (.slice p os.length c) := by rw [cell_of_row _ _ _ _ _ _ hrow]; rfl
  have HROW := Lib.hid hrow
  have HO := Lib.hid (hO.below HB1.out)
  have HSUM := Lib.hid hs
  clear hO hs hrow
  go_enter Try.func3, Try.ntmps3
  go_upto_region 1 with fail
  generalize w.alloc (.cells (caseV room p os.length c) 24) = w1 at *
  have HSM := Lib.hid (small18_any os p c rows w1 HO.out HSUM.out)
  go_wp2_with fail
  refine HSM.out.mono ?_
  rintro e w2 ⟨rfl, hb2⟩
  have HW2 := Lib.hid hb2
  have HB2 := Lib.hid (HB1.out.trans (hb2.mono HB1.out.size))
  have hr2 := Below.keepOld hb2 HROW.out
  have hc0 : w2.cell? ⟨w.heap.size, 0, none⟩ = some (.int .i64 room) := by rw [cell_of_row _ _ _ _ _ _ hr2]; rfl
  have HO2 := Lib.hid (HO.out.below hb2)
  have HROW2 := Lib.hid hr2
  clear hb2 hc1 HSM HROW HO HB1 hr2
  by_cases hsm : os.length + dsum os ≤ 1500
  rotate_left
  · have hq : decide (os.length + dsum os ≤ 1500) = false := decide_eq_false hsm
    rw [hq]
    clear hsm hq hc0
    skip
    -- alive, in world w2, with HB2 : Below w.heap.size w w2
    have HA := Lib.hid (alive_any w2)
    go_wp2_with fail
    refine HA.out.mono ?_
    rintro e w9 ⟨rfl, hb9⟩
    have HB9 := Lib.hid (HB2.out.trans (hb9.mono HB2.out.size))
    go_wp2_with fail
    go_ret
    exact ⟨rfl, HB9.out⟩
  have hq : decide (os.length + dsum os ≤ 1500) = true := decide_eq_true hsm
  rw [hq]
  have HSL := Lib.hid hsm
  clear hsm hq
  by_cases hroom : room < 1 ∨ 65536 < room
  · go_wp2_with fail
    refine (new_bad room w2 hroom).mono ?_
    rintro e w3 ⟨rfl, rfl⟩
    by_cases hr1 : room < 1
    · have hd1 : decide (room < 1) = true := decide_eq_true hr1
      clear hroom
      skip
      -- alive, in world w2, with HB2 : Below w.heap.size w w2
      have HA := Lib.hid (alive_any w2)
      go_wp2_with fail
      refine HA.out.mono ?_
      rintro e w9 ⟨rfl, hb9⟩
      have HB9 := Lib.hid (HB2.out.trans (hb9.mono HB2.out.size))
      go_wp2_with fail
      go_ret
      exact ⟨rfl, HB9.out⟩
    · have hd1 : decide (room < 1) = false := decide_eq_false hr1
      have hd2 : decide (65536 < room) = true := decide_eq_true (by omega)
      clear hroom
      skip
      -- alive, in world w2, with HB2 : Below w.heap.size w w2
      have HA := Lib.hid (alive_any w2)
      go_wp2_with fail
      refine HA.out.mono ?_
      rintro e w9 ⟨rfl, hb9⟩
      have HB9 := Lib.hid (HB2.out.trans (hb9.mono HB2.out.size))
      go_wp2_with fail
      go_ret
      exact ⟨rfl, HB9.out⟩
  obtain ⟨R, rfl⟩ : ∃ R : Nat, room = (R : Int) := ⟨room.toNat, by omega⟩
  have hR : 1 ≤ R ∧ R ≤ 65536 := by omega
  have HRB := Lib.hid hR
  have hd1 : decide ((R : Int) < 1) = false := decide_eq_false (by omega)
  have hd2 : decide ((65536 : Int) < (R : Int)) = false := decide_eq_false (by omega)
  have hd3 : decide (65536 < R) = false := decide_eq_false (by omega)
  clear hroom hR
  have HNW := Lib.hid (new_any R w2 HRB.out)
  go_wp2_with fail
  refine HNW.out.mono ?_
  rintro e w3 ⟨db, vs, rfl, hd, hb3⟩
  have HX3 : Hid (DX w2.heap.size db (DD.new R) w3) := ⟨hb3.size, vs, hd⟩
  have HW3 := Lib.hid hb3
  have hr3 := Below.keepOld hb3 HROW2.out
  have hc0 : w3.cell? ⟨w.heap.size, 0, none⟩ = some (.int .i64 (R : Int)) := by rw [cell_of_row _ _ _ _ _ _ hr3]; rfl
  have hc1 : w3.cell? ⟨w.heap.size, 1, none⟩ = some (.slice p os.length c) := by rw [cell_of_row _ _ _ _ _ _ hr3]; rfl
  have HROW3 := Lib.hid hr3
  clear hd hb3 hr3 HNW HROW2
  have hz := zeroD
  go_upto_region 8 with fail
  go_upto_region 9 with (first
    | refine Rdr.wpList_build rfl 37 _ rfl [(1, .int .i64 (R : Int))] rfl _ (built_rd R) ?_
    | refine wpList_store_row rfl 37 _ _ rfl w3.heap.size (rdA T0 (DD.new R)) rfl rfl 37 zD (heap_alloc_last _ _) (infoRD _ (rdA_size (ts := T0) (d := DD.new R) rfl rfl)) (by rw [rdA_size (ts := T0) (d := DD.new R) rfl rfl]; rfl) (rdA_one (ts := T0) (d := DD.new R) rfl rfl) ?_)
  try simp only [Act.put, List.setIfInBounds_toArray, List.set_cons_zero, List.set_cons_succ]
  have hal := Below.allocs w3 (.cells zD 37)
  have HLS := Lib.hid (LS.put (w1 := w2) (T := T0) (HX3.out.below hal) (heap_alloc_last w3 (.cells zD 37)) (rdb_new _ R HRB.out) (HW3.out.trans (hal.mono HW3.out.size)) HW3.out.size)
  have hb4 : Below w3.heap.size w3 ((w3.alloc (.cells zD 37)).setRow w3.heap.size (rdA T0 (DD.new R))) := below_setRow hal (Nat.le_refl _) _
  have hr4 := Below.keepOld hb4 HROW3.out
  have HFD := Lib.hid (few_new R)
  clear hc0 hc1 hal hb4 hd1 hd2 hd3 HX3 HW3 HROW3
  generalize (w3.alloc (.cells zD 37)).setRow w3.heap.size (rdA T0 (DD.new R)) = w4 at *
  generalize w3.heap.size = rg at *
  generalize DD.new R = D0 at *
  clear w3 vs
  have hc1 : w4.cell? ⟨w.heap.size, 1, none⟩ = some (.slice p os.length c) := by rw [cell_of_row _ _ _ _ _ _ hr4]; rfl
  have hle := HO2.out.rs.sl.le
  have hmax := HO2.out.rs.sl.max
  clear hr4
  go_wp2_with fail
  obtain ⟨Z, hzo, hZ⟩ := zDOp
  have HZZ := Lib.hid hZ
  clear hc1 hZ
  go_loopw [3, 7, 8, 9, 10, 51] (fun dv ob xv yv kv j wr => ∃ k : Nat, k ≤ os.length ∧ j = .int .i64 k ∧ ∃ db T d, dv = .pointer (some ⟨db, 0, none⟩) ∧ LS w2 db rg T d wr ∧ FewD d k) (fun _ _ _ _ _ j _ => os.length - (intOf j).toNat)
  case atStart => exact ⟨0, by omega, rfl, db, T0, D0, rfl, HLS.out, HFD.out⟩
  case round =>
    clear HLS HFD
    obtain ⟨k, hk, rfl, db, T, d, rfl, hls, hfd⟩ := hrel
    have HLS := Lib.hid hls
    have HFD := Lib.hid hfd
    clear hls hfd
    by_cases hlt : k < os.length
    · have hd : decide ((k : Int) < (os.length : Int)) = true := decide_eq_true (by omega)
      have hd2 : decide (k < os.length) = true := decide_eq_true hlt
      obtain ⟨b, o, rfl⟩ := HO2.out.rs.sl.addr (by omega) (by omega)
      obtain ⟨pb, cb, pu, cu, hbs, hns, hrg⟩ := HO2.out.at k hlt
      have hkr : k < rows.length := by rw [HO2.out.rs.count]; exact hlt
      have HNB := Lib.hid (HO2.out.each k _ os[k] (List.getElem?_eq_getElem hkr) (List.getElem?_eq_getElem hlt)).nB.2
      have HRG := Lib.hid (range_below hrg HLS.out.low)
      have HBLN : Hid ((os[k]).b.length ≤ 60000) := by
        show _ ≤ _
        have h1 := dsum_mem (List.getElem_mem hlt)
        have h2 := HSL.out
        omega
      have HFW : Hid (∀ i, (fD d i).steps.length + 1 ≤ 2199023255552) := fun i => by
        have h1 := fewFd HFD.out i
        have h2 := HSL.out
        omega
      have HBS := Lib.hid hbs
      have HNS := Lib.hid hns
      clear hbs hns hrg hkr
      have HFD2 := Lib.hid (HFD.out.opD os[k])
      generalize os[k] = oo at *
      obtain ⟨A, hA⟩ : ∃ A, A = dopA oo pb cb pu cu := ⟨_, rfl⟩
      have HOS : Hid (A.size = 5) := by show _ = _; rw [hA]; rfl
      have HOO : Hid (A.all (·.oneCell') = true) := by show _ = _; rw [hA]; exact dopA_one _ _ _ _ _
      have HOL : Hid (A.toList.length = 5) := by show _ = _; rw [Array.length_toList]; exact HOS.out
      have HNW := Lib.hid (box_new wr Z 40)
      have HBR := Lib.hid (box_row wr Z A 40)
      have HBB := Lib.hid (box_below wr Z A 40)
      have HLS2 := Lib.hid (HLS.out.next HBB.out)
      have HAE := Lib.hid hA
      rw [← hA] at HRG
      clear hA
      go_upto_region 12 with (first
        | ((with_reducible refine wpAt 54 ?_); refine wpList_load_mid rfl 40 _ rfl b (o + k * 5) rfl A.toList _ HRG.out Try.underlying40 rfl (infoDOp _ HOL.out) ?_)
        | ((with_reducible refine wpStoreAt 7 ?_); refine wpList_store_row rfl 40 _ _ rfl wr.heap.size A rfl rfl 40 Z HNW.out (infoDOp _ HOS.out) (HZZ.out.trans HOS.out.symm) HOO.out ?_))
      generalize (wr.alloc (.cells Z 40)).setRow wr.heap.size A = w8 at *
      have hst := step_any oo pb cb pu cu w2 w8 HLS2.out.low (Nat.le_refl _) HLS2.out.dx HLS2.out.rd HBS.out HNS.out HBLN.out HNB.out HFW.out
      rw [← HAE.out] at hst
      have HST := Lib.hid hst
      clear HRG HNW HBB HOO HOL HLS HFD hst HAE HBS HNS HBLN HNB HFW
      go_wp2_with (first
        | ((with_reducible refine wpAt 57 ?_); refine wpList_load_row rfl 37 _ rfl rg rfl 37 (rdA T d) (0, 0) _ HLS2.out.box Try.underlying37 rfl (infoRD _ (rdA_size HLS2.out.rd.n3 HLS2.out.rd.m3)) ?_)
        | ((with_reducible refine wpAt 58 ?_); refine wpList_load_row rfl 40 _ rfl wr.heap.size rfl 40 A (0, 0) _ HBR.out Try.underlying40 rfl (infoDOp _ HOS.out) ?_))
      refine HST.out.mono ?_
      rintro e wA ⟨db2, T2, rfl, hdx, hrd, hkt⟩
      have hal := Below.allocs wA (.cells zD 37)
      have hbx := hkt.row HLS2.out.box (by decide) (by decide)
      have hlo := HLS2.out.low.trans (hkt.below HLS2.out.low.size)
      have HAG := Lib.hid HLS2.out.at_
      have HN3 := Lib.hid HLS2.out.rd.n3
      have HM3 := Lib.hid HLS2.out.rd.m3
      have HDX := Lib.hid (hdx.below hal)
      have HRD := Lib.hid (hrd.below hal)
      have HBX := Lib.hid (Below.keepOld hal hbx)
      have HLO := Lib.hid (hlo.trans (hal.mono hlo.size))
      have HGE : Hid (w2.heap.size ≤ wA.heap.size) := hlo.size
      have HNE : Hid (rg ≠ wA.heap.size) := fun e => by
        have := (Array.getElem?_eq_some_iff.1 hbx).1
        omega
      clear hdx hrd hkt hbx hlo hal HST HLS2 HBR HOS
      generalize opD d oo = DM at *
      go_upto_region 13 with (refine wpList_store_row rfl 37 _ _ rfl wA.heap.size (rdA T2 DM) rfl rfl 37 zD (heap_alloc_last _ _) (infoRD _ (rdA_size HRD.out.n3 HRD.out.m3)) (by rw [rdA_size HRD.out.n3 HRD.out.m3]; rfl) (rdA_one HRD.out.n3 HRD.out.m3) ?_)
      try simp only [Act.put, List.setIfInBounds_toArray, List.set_cons_zero, List.set_cons_succ]
      have HL1 := Lib.hid (LS.put HDX.out (heap_alloc_last wA (.cells zD 37)) HRD.out HLO.out HGE.out)
      have hbx2 : ((wA.alloc (.cells zD 37)).setRow wA.heap.size (rdA T2 DM)).heap[rg]? = some (.cells (rdA T d) 37 (0, 0)) := by rw [setRow_other _ _ _ _ HNE.out]; exact HBX.out
      have HBX2 := Lib.hid hbx2
      clear hbx2 HDX HRD HBX HLO HGE
      generalize (wA.alloc (.cells zD 37)).setRow wA.heap.size (rdA T2 DM) = wB at *
      generalize wA.heap.size = gy at *
      have HLA : Hid (∀ w', SZ w2.heap.size rg wB w' → w'.rangeAt gy 0 (rdA T2 DM).toList) := fun w' hb => row_rangeR (SZ.row hb HL1.out.box (by decide) (by decide) HNE.out.symm)
      refine wp_region_tree (SZ w2.heap.size rg wB) (.take 0 (.take 1 (.one 2 (.one 3 .nil)))) (by kernel_rfl) (by kernel_rfl) (SZ.of_kt (KT.of_below (below_drew1 _ _))) ?_
      have hy0 : Below wB.heap.size wB wB.drew := below_drew1 _ _
      have hyy : KT w2.heap.size wB wB.drew := KT.of_below hy0
      (apply tree_take; (· rfl); (· rfl); (· (intro w' hb'; go_simp; try with_reducible rfl)); try simp only [Act.put, List.setIfInBounds_toArray, List.set_cons_zero, List.set_cons_succ])
      refine tree_load rfl (by rfl) 37 _ rfl gy 0 rfl (rdA T2 DM) _ (fun w' hb => HLA.out w' hb) Try.underlying37 rfl (infoRD _ (rdA_size HL1.out.rd.n3 HL1.out.rd.m3)) ?_
      try simp only [Act.put, List.setIfInBounds_toArray, List.set_cons_zero, List.set_cons_succ]
      refine tree_one rfl (by rfl) (fun K hK => ?_)
      go_simp
      refine Shut.out hK _ _ (SZ.of_kt hyy) ?_
      clear hK K
      try simp only [Act.put, List.setIfInBounds_toArray, List.set_cons_zero, List.set_cons_succ]
      have HL2 := Lib.hid (HL1.out.next hy0)
      have HBX3 := Lib.hid (Below.keepOld hy0 HBX2.out)
      refine tree_one rfl (by rfl) (fun K hK => oper_of_list rfl ?_)
      refine wpList_store_row rfl 37 _ _ rfl rg (rdA T2 DM) rfl rfl 37 (rdA T d) HBX3.out (infoRD _ (rdA_size HL2.out.rd.n3 HL2.out.rd.m3)) (by rw [rdA_size HL2.out.rd.n3 HL2.out.rd.m3, rdA_size HN3.out HM3.out]) (rdA_one HL2.out.rd.n3 HL2.out.rd.m3) ?_
      refine only_end (Shut.out hK _ _ (SZ.set hyy) ?_)
      clear hK K
      try simp only [Act.put, List.setIfInBounds_toArray, List.set_cons_zero, List.set_cons_succ]
      refine tree_nil ?_
      clear HL1 HBX2 HLA hy0 hyy
      generalize wB.drew = wC at *
      have HL3 := Lib.hid (LS.put HL2.out.dx HBX3.out HL2.out.rd HL2.out.low HAG.out)
      clear HL2 HBX3 HN3 HM3 HNE
      try simp only [Act.put, List.setIfInBounds_toArray, List.set_cons_zero, List.set_cons_succ]
      generalize wC.setRow rg (rdA T2 DM) = wD at *
      have HLK := Lib.hid (like18_any wD HL3.out.dx HL3.out.rd)
      go_wp2_with ((with_reducible refine wpAt 69 ?_); refine wpList_load_row_g (by rfl) 37 _ rfl rg rfl 37 (rdA T2 DM) (0, 0) _ HL3.out.box Try.underlying37 rfl (infoRD _ (rdA_size HL3.out.rd.n3 HL3.out.rd.m3)) ?_)
      refine HLK.out.mono ?_
      rintro e wE ⟨rfl, hbE⟩
      have HL4 := Lib.hid (HL3.out.next hbE)
      clear hbE HL3 HLK
      go_wp2_with fail
      go_roundw
      case rel => exact ⟨k + 1, by omega, by go_num, db2, T2, DM, rfl, HL4.out, HFD2.out⟩
      case measure => simp [intOf]; omega
    · have hd : decide ((k : Int) < (os.length : Int)) = false := decide_eq_false (by omega)
      have hd2 : decide (k < os.length) = false := decide_eq_false hlt
      have HBF := Lib.hid (HB2.out.trans (HLS.out.low.mono HB2.out.size))
      skip
      -- alive, in world wr, with HBF : Below w.heap.size w wr
      have HA := Lib.hid (alive_any wr)
      go_wp2_with fail
      refine HA.out.mono ?_
      rintro e w9 ⟨rfl, hb9⟩
      have HB9 := Lib.hid (HBF.out.trans (hb9.mono HBF.out.size))
      go_wp2_with fail
      go_ret
      exact ⟨rfl, HB9.out⟩
end Go.Proofs.Ytbkkcejpkfbcjaa.Rk

namespace Go.Proofs.Ytbkkcejpkfbcjaa.bulks
open Go.Mir

theorem one_le {H : Type} (d : DataW H) : 1 ≤ Rows.uptoBulk d := by
  cases d with
  | lit l => cases l <;> simp [Rows.uptoBulk]
  | nil => simp [Rows.uptoBulk]
  | ptr d => simp [Rows.uptoBulk]
  | slice elems spare => simp [Rows.uptoBulk]
  | agg parts => simp [Rows.uptoBulk]
  | iface t d => simp [Rows.uptoBulk]
  | map entries => simp [Rows.uptoBulk]
  | held h => simp [Rows.uptoBulk]
theorem bulkAll_cons {H : Type} (d : DataW H) (r : List (DataW H)) : Rows.uptoBulkAll (d :: r) = Rows.uptoBulk d + Rows.uptoBulkAll r := by simp only [Rows.uptoBulkAll]
theorem bulkAll_nil {H : Type} : Rows.uptoBulkAll ([] : List (DataW H)) = 0 := by simp only [Rows.uptoBulkAll]
theorem length_le {H : Type} (l : List (DataW H)) : l.length ≤ Rows.uptoBulkAll l := by
  induction l with
  | nil => simp [Rows.uptoBulkAll]
  | cons x r ih => have := one_le x; simp only [Rows.uptoBulkAll, List.length_cons]; omega
theorem slice_eq {H : Type} (elems spare : List (DataW H)) : Rows.uptoBulk (.slice elems spare) = Rows.uptoBulkAll elems + Rows.uptoBulkAll spare + 1 := by
  simp only [Rows.uptoBulk]
theorem agg_eq {H : Type} (ds : List (DataW H)) : Rows.uptoBulk (.agg ds) = Rows.uptoBulkAll ds + 1 := by
  simp only [Rows.uptoBulk]
theorem dlen_le {H : Type} (d : DataW H) : dlen d + 1 ≤ Rows.uptoBulk d := by
  cases d with
  | slice elems spare => have := length_le elems; rw [slice_eq]; simp only [dlen]; omega
  | _ => exact one_le _
theorem dlens_le {H : Type} (l : List (DataW H)) : (l.map dlen).sum + l.length ≤ Rows.uptoBulkAll l := by
  induction l with
  | nil => simp [Rows.uptoBulkAll]
  | cons x r ih => have := dlen_le x; simp only [Rows.uptoBulkAll, List.length_cons, List.map_cons, List.sum_cons]; omega
theorem bound {H : Type} {l : List (DataW H)} (hk : Rows.uptoSmall H l = true) : Rows.uptoBulkAll l ≤ 1048576 := of_decide_eq_true hk
end Go.Proofs.Ytbkkcejpkfbcjaa.bulks

namespace Go.Proofs.Ytbkkcejpkfbcjaa.Dk
open Go.ChangeShapes Go.WideShapes Go.ChangeAt Go.RowKit Go.Mir

theorem trod_ns {P : Program} {W : World} {H : Type} {enc : TypeId × Value → H} {base fuel t e : Nat} {held : Bool} {cs : List Value} {x : DataW H × List MemPlace}
    (ht : P.underlying t = some (.slice e)) (he : P.underlying e = some (.int .i64)) (hc : P.cellsOf e = 1) (h : DataW.trod enc P W base (fun _ => true) held fuel t cs = some x) :
    ∃ p n c l, cs = [.slice p n c] ∧ Ns W p n c l ∧ dlen x.1 = n := by
  rcases Deep.open_slice1 ht hc h with ⟨rfl, rfl⟩ | ⟨a, len, cap, m, k, V, D, Pl, rfl, hb, hl, hm, hmm, rfl, hx⟩
  · exact ⟨_, _, _, [], rfl, ⟨Sl.nil _ _, rfl, fun x h => by simp at h⟩, rfl⟩
  · simp only [if_true] at hmm
    subst hmm
    have key : ∀ i, i < m → ∃ z : Int, V i = .int .i64 z ∧ -9223372036854775808 ≤ z ∧ z ≤ 9223372036854775807 := by
      intro i hi
      obtain ⟨z, hz, _, hw⟩ := DataW.trod_int he (hx i hi).2
      exact ⟨z, by simpa using hz, i64_bd hw⟩
    refine ⟨_, _, _, (List.range len).map (fun i => intOf (V i)), rfl, ⟨⟨?_, hl, by simpa [maxLen] using hm, fun h => (by cases h), fun a' ha j u hu => ?_⟩, by simp, fun x hx' => ?_⟩, by simp [dlen]⟩
    · simp
    · obtain rfl := Option.some.inj ha
      have hj : j < len := by
        have := (List.getElem?_eq_some_iff.1 hu).1
        simpa using this
      rw [(hx j (by omega)).1, ← hu]
      obtain ⟨z, hz, _⟩ := key j (by omega)
      rw [hz]
      simp [hj, hz, intOf]
    · simp only [List.mem_map, List.mem_range] at hx'
      obtain ⟨i, hi, rfl⟩ := hx'
      obtain ⟨z, hz, h1, h2⟩ := key i (by omega)
      rw [hz]
      exact ⟨h1, h2⟩
theorem split5 {cs : List Value} (h : cs.length = 5) : cs = (cs.drop 0).take 1 ++ (cs.drop 1).take 1 ++ (cs.drop 2).take 1 ++ (cs.drop 3).take 1 ++ (cs.drop 4).take 1 := by
  match cs, h with
  | [a, b, c, d, e], _ => rfl
theorem trod_dop {W : World} {H : Type} {enc : TypeId × Value → H} {base fuel : Nat} {held : Bool} {cs : List Value} {x : DataW H × List MemPlace}
    (h : DataW.trod enc Try.prog W base (fun _ => true) held fuel 40 cs = some x) :
    ∃ o : DOp, DOpAt W cs o ∧ ∃ d0 d1 d2 d3 d4, x.1 = .agg [d0, d1, d2, d3, d4] ∧ dlen d3 = o.b.length ∧ dlen d4 = o.us.length := by
  obtain ⟨xs, m, rfl, rfl, hl, hxl, hx⟩ := DataW.trod_struct Try.underlying40 h
  have hl' : cs.length = 5 := by rw [hl]; kernel_rfl
  have hxl' : xs.length = 5 := by rw [hxl]; rfl
  match xs, hxl' with
  | [x0, x1, x2, x3, x4], _ =>
    have h0 := hx 0 _ rfl
    have h1 := hx 1 _ rfl
    have h2 := hx 2 _ rfl
    have h3 := hx 3 _ rfl
    have h4 := hx 4 _ rfl
    obtain ⟨z0, e0, _, w0⟩ := DataW.trod_int Try.underlying3 h0
    obtain ⟨z1, e1, _, w1⟩ := DataW.trod_int Try.underlying3 h1
    obtain ⟨z2, e2, _, w2⟩ := DataW.trod_int Try.underlying3 h2
    obtain ⟨p3, n3, c3, l3, e3, b3, dl3⟩ := trod_bs Try.underlying31 Try.underlying5 rfl h3
    obtain ⟨p4, n4, c4, l4, e4, b4, dl4⟩ := trod_ns Try.underlying38 Try.underlying3 rfl h4
    obtain rfl := b3.length
    obtain rfl := b4.count
    refine ⟨⟨z0, z1, z2, l3, l4⟩, ⟨⟨p3, c3, p4, c4, ?_, b3, b4⟩, i64_bd w0, i64_bd w1, i64_bd w2⟩, x0.1, x1.1, x2.1, x3.1, x4.1, rfl, dl3, dl4⟩
    have hs := split5 hl'
    have e0' : (cs.drop 0).take 1 = [.int .i64 z0] := e0
    have e1' : (cs.drop 1).take 1 = [.int .i64 z1] := e1
    have e2' : (cs.drop 2).take 1 = [.int .i64 z2] := e2
    have e3' : (cs.drop 3).take 1 = [.slice p3 l3.length c3] := e3
    have e4' : (cs.drop 4).take 1 = [.slice p4 l4.length c4] := e4
    rw [e0', e1', e2', e3', e4'] at hs
    rw [hs]
    rfl
/-- what an op holds, and how long -/
def DopB (W : World) {H : Type} (o : DOp) (cs : List Value) (d : DataW H) : Prop := DOpAt W cs o ∧ ∃ d0 d1 d2 d3 d4, d = .agg [d0, d1, d2, d3, d4] ∧ dlen d3 = o.b.length ∧ dlen d4 = o.us.length
theorem dbulk_le {H : Type} (W : World) : ∀ (L : List (List Value × DOp)) (elems : List (DataW H)), elems.length = L.length → (∀ i (h1 : i < elems.length) (h2 : i < L.length), DopB W L[i].2 L[i].1 elems[i]) → L.length + dsum (L.map (·.2)) ≤ Rows.uptoBulkAll elems
  | [], elems, _, _ => by simp [dsum]
  | x :: L, [], h, _ => by simp at h
  | x :: L, d :: elems, h, hR => by
    obtain ⟨_, d0, d1, d2, d3, d4, hd, h3, h4⟩ := hR 0 (by simp) (by simp)
    have ih := dbulk_le W L elems (by simpa using h) (fun i h1 h2 => hR (i + 1) (by simpa using h1) (by simpa using h2))
    have hd' : d = .agg [d0, d1, d2, d3, d4] := hd
    have h3' : dlen d3 = x.2.b.length := h3
    have h4' : dlen d4 = x.2.us.length := h4
    have b3 := bulks.dlen_le d3
    have b4 := bulks.dlen_le d4
    have b0 := bulks.one_le d0
    rw [bulks.bulkAll_cons, hd', bulks.agg_eq, List.length_cons]
    simp only [bulks.bulkAll_cons, bulks.bulkAll_nil, List.map_cons, dsum]
    omega
set_option maxRecDepth 100000 in
theorem trod_dopsB {W : World} {H : Type} {enc : TypeId × Value → H} {base fuel : Nat} {held : Bool} {cs : List Value} {x : DataW H × List MemPlace}
    (h : DataW.trod enc Try.prog W base (fun _ => true) held fuel 22 cs = some x) :
    ∃ p c os rows, cs = [.slice p os.length c] ∧ DOps W p os.length c os rows ∧ os.length + dsum os ≤ Rows.uptoBulk x.1 := by
  obtain ⟨p, n, c, L, hcs, hr, hdl, hL⟩ := trod_rows (size := 5) (R := fun (o : DOp) cs' d => DopB W o cs' d) Try.underlying22 (by kernel_rfl) (by omega) (fun m cs' y hy => by
    obtain ⟨o, ho, x0, x1, x2, x3, x4, hy1, hy2, hy3⟩ := trod_dop hy
    exact ⟨o, ho, x0, x1, x2, x3, x4, hy1, hy2, hy3⟩) h
  have hc : (L.map (·.2)).length = n := by
    have := hr.count
    simpa using this
  refine ⟨p, c, L.map (·.2), L.map (·.1), by rw [hc]; exact hcs, ⟨by rw [hc]; exact hr, rfl, fun i r o h1 h2 => ?_⟩, ?_⟩
  · simp only [List.getElem?_map, Option.map_eq_some_iff] at h1 h2
    obtain ⟨x1, hx1, rfl⟩ := h1
    obtain ⟨x2, hx2, rfl⟩ := h2
    rw [hx1] at hx2
    cases hx2
    have hlt := (List.getElem?_eq_some_iff.1 hx1).1
    rcases hL with ⟨_, hL⟩ | ⟨elems, spare, hd, hlen, hall⟩
    · subst hL; simp at hlt
    · have := hall i (by omega) hlt
      rw [List.getElem?_eq_getElem hlt] at hx1
      cases hx1
      exact this.1
  · rcases hL with ⟨_, hL⟩ | ⟨elems, spare, hd, hlen, hall⟩
    · subst hL; simp [dsum]
    · have h1 := dbulk_le W L elems hlen hall
      rw [hd, bulks.slice_eq, List.length_map]
      omega
theorem split2 {cs : List Value} (h : cs.length = 2) : cs = (cs.drop 0).take 1 ++ (cs.drop 1).take 1 := by
  match cs, h with
  | [a, b], _ => rfl
/-- a Case, that came in -/
def caseA (room : Int) (p : Option Addr) (n c : Nat) : Array Value := #[.int .i64 room, .slice p n c]
set_option maxRecDepth 100000 in
theorem open_case18 {W : World} {H : Type} {enc : TypeId × Value → H} {base : Nat} {v : Value} {d : DataW H} {ps : List MemPlace} (hval : Value.okWide Try.prog W .any base 24 v) (h : DataW.Trod enc Try.prog W 0 (fun _ => true) true 24 v d ps) :
    ∃ room p c os rows, v = .agg (caseA room p os.length c) ∧ (-9223372036854775808 ≤ room ∧ room ≤ 9223372036854775807) ∧ DOps W p os.length c os rows ∧ os.length + dsum os ≤ Rows.uptoBulk d := by
  obtain ⟨cs, rfl, hcs⟩ := okWide_struct Try.underlying24 hval
  obtain ⟨fuel, hf⟩ := h
  have hf' : DataW.trod enc Try.prog W 0 (fun _ => true) true fuel 24 cs.toList = some (d, ps) := hf
  obtain ⟨xs, m, rfl, hd, hl, hxl, hx⟩ := DataW.trod_struct Try.underlying24 hf'
  have hl' : cs.toList.length = 2 := by rw [hl]; kernel_rfl
  have hxl' : xs.length = 2 := by rw [hxl]; rfl
  match xs, hxl' with
  | [x0, x1], _ =>
    have h0 := hx 0 _ rfl
    have h1 := hx 1 _ rfl
    obtain ⟨z0, e0, _, w0⟩ := DataW.trod_int Try.underlying3 h0
    obtain ⟨p, c, os, rows, e1, hO, hb1⟩ := trod_dopsB h1
    have hs := split2 hl'
    have e0' : (cs.toList.drop 0).take 1 = [.int .i64 z0] := e0
    have e1' : (cs.toList.drop 1).take 1 = [.slice p os.length c] := e1
    rw [e0', e1'] at hs
    have hd' : d = .agg [x0.1, x1.1] := by
      have := congrArg Prod.fst hd
      exact this
    refine ⟨z0, p, c, os, rows, ?_, i64_bd w0, hO, ?_⟩
    · have : cs = [Value.int .i64 z0, Value.slice p os.length c].toArray := by rw [← Array.toArray_toList (xs := cs), hs]; rfl
      rw [this]; rfl
    · rw [hd', bulks.agg_eq]
      simp only [bulks.bulkAll_cons, bulks.bulkAll_nil]
      omega
end Go.Proofs.Ytbkkcejpkfbcjaa.Dk
