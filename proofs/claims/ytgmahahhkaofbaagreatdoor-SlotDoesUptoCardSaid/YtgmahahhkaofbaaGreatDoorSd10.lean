/- PARTS, JOINED: SLOTS: the reference: Put. Conditions: sizes that fit. -/
import Derived.Test.YtgmahahhkaofbaaGreatDoorSd1
import Derived.Test.YtgmahahhkaofbaaGreatDoorSd2
import Derived.Test.YtgmahahhkaofbaaGreatDoorSd3
import Derived.Test.YtgmahahhkaofbaaGreatDoorSd4
import Derived.Test.YtgmahahhkaofbaaGreatDoorSd5
import Derived.Test.YtgmahahhkaofbaaGreatDoorSd6
import Derived.Test.YtgmahahhkaofbaaGreatDoorSd7
import Derived.Test.YtgmahahhkaofbaaGreatDoorSd8
import Derived.Test.YtgmahahhkaofbaaGreatDoorSd9
namespace Go.Proofs.YtgmahahhkaofbaaGreatDoor.Slt
open Go.RowKit Go.Mir Go.Mir.Parts Dk Rol Rk Wr
open Frm (frame)

theorem results_cells2_tmp {P : Program} {fn : Func} {p q r : Tmp} {ty ty' : TypeId} (h : fn.results = #[.cell p ty, .cell q ty', .tmp r]) (tmps : Array Value) (w : World) (g g' : Nat) (t t' : TypeId) (cs cs' : Array Value) (fr fr' : Nat × Nat) (d d' : TypeDesc)
    (hp : tmps.getD p undef = .pointer (some ⟨g, 0, none⟩)) (hq : tmps.getD q undef = .pointer (some ⟨g', 0, none⟩)) (hg : w.heap[g]? = some (.cells cs t fr)) (hg' : w.heap[g']? = some (.cells cs' t' fr'))
    (hu : P.underlying ty = some d) (hd : (match d with | .struct _ | .array _ _ => true | _ => false) = true) (hi : (P.info? ty).map (·.size) = some cs.size)
    (hu' : P.underlying ty' = some d') (hd' : (match d' with | .struct _ | .array _ _ => true | _ => false) = true) (hi' : (P.info? ty').map (·.size) = some cs'.size) :
    (results fn tmps).run P w = .ok (.tuple #[.agg cs, .agg cs', tmps.getD r undef]) w := by
  have hp' : tmps[p]?.getD undef = .pointer (some ⟨g, 0, none⟩) := by simpa using hp
  have hq' : tmps[q]?.getD undef = .pointer (some ⟨g', 0, none⟩) := by simpa using hq
  simp [results, h, hp', hq', asAddr, run_loadVar_row w g t ty cs fr d hg hu hd hi, run_loadVar_row w g' t' ty' cs' fr' d' hg' hu' hd' hi']
/-- the four boxes of Put -/
structure PQ (w : World) (a b : Nat) (T : List RF) (D : DD) (s : SS) (p : Option Addr) (c : Nat) (X : World) : Prop where
  r3 : X.heap[w.heap.size]? = some (.cells (rdA T D) 37 (0, 0))
  r4 : X.heap[w.heap.size + 1]? = some (.cells (rsA a b s p c) 46 (0, 0))
  r6 : X.heap[w.heap.size + 2]? = some (.cells zD 37 (0, 0))
  r7 : X.heap[w.heap.size + 3]? = some (.cells zS 46 (0, 0))
  rd : RDB X T D
  rb : RBs X p s.body.length c s.body
  low : Below w.heap.size w X
theorem PQ.next {w : World} {a b : Nat} {T : List RF} {D : DD} {s : SS} {p : Option Addr} {c : Nat} {X Y : World} (h : PQ w a b T D s p c X) (hb : Below X.heap.size X Y) : PQ w a b T D s p c Y :=
  ⟨Below.keepOld hb h.r3, Below.keepOld hb h.r4, Below.keepOld hb h.r6, Below.keepOld hb h.r7, h.rd.below hb, h.rb.below hb, h.low.trans (hb.mono h.low.size)⟩
/-- the disk's box stored anew -/
theorem PQ.disk {w : World} {a b : Nat} {T T' : List RF} {D D' : DD} {s : SS} {p : Option Addr} {c : Nat} {X : World} (h : PQ w a b T D s p c X) (hr : RDB X T' D') : PQ w a b T' D' s p c (X.setRow w.heap.size (rdA T' D')) := by
  have hk : KR 0 X (X.setRow w.heap.size (rdA T' D')) := kr_turn (turns_setRow _ _ _) h.r3 (by decide) (by decide)
  exact ⟨setRow_heap _ _ _ _ _ _ h.r3, by rw [setRow_other _ _ _ _ (by omega)]; exact h.r4, by rw [setRow_other _ _ _ _ (by omega)]; exact h.r6, by rw [setRow_other _ _ _ _ (by omega)]; exact h.r7, hr.step hk, h.rb.step hk, below_setRow h.low (Nat.le_refl _) _⟩
/-- the slots' box: now, turn, body stored anew -/
theorem PQ.set3 {w : World} {a b : Nat} {T : List RF} {D : DD} {s : SS} {p : Option Addr} {c : Nat} {X : World} (h : PQ w a b T D s p c X) (n : Int) (t : Nat) (p' : Option Addr) (c' : Nat) (l : List UInt8) (hl : RBs X p' l.length c' l) :
    PQ w a b T D ⟨n, t, l⟩ p' c' (((X.setCell ⟨w.heap.size + 1, 2, none⟩ (.int .i64 n)).setCell ⟨w.heap.size + 1, 3, none⟩ (.int .u64 (t : Int))).setCell ⟨w.heap.size + 1, 4, none⟩ (.slice p' l.length c')) := by
  obtain ⟨h1, h2⟩ := rs_set3 h.r4 n t p' c' l
  have hk : KR 0 X _ := kr_turn h2 h.r4 (by decide) (by decide)
  exact ⟨h2.keep h.r3 (by omega), h1, h2.keep h.r6 (by omega), h2.keep h.r7 (by omega), h.rd.step hk, hl.step hk, h.low.trans (h2.below h.low.size (fun k hk => by have hk : k = w.heap.size + 1 := hk; omega))⟩
theorem PQ.cell {w : World} {a b : Nat} {T : List RF} {D : DD} {s s' : SS} {p p' : Option Addr} {c c' : Nat} {X : World} (h : PQ w a b T D s p c X) (off : Nat) (v : Value) (hv : (rsA a b s p c).setIfInBounds off v = rsA a b s' p' c') (hb : RBs X p' s'.body.length c' s'.body) :
    PQ w a b T D s' p' c' (X.setCell ⟨w.heap.size + 1, off, none⟩ v) := by
  have e1 := Dk.cell_put (off := off) v h.r4
  have t1 : Turns (fun k => k = w.heap.size + 1) X (X.setCell ⟨w.heap.size + 1, off, none⟩ v) := Turns.setCell (S := fun k => k = w.heap.size + 1) (p := ⟨w.heap.size + 1, off, none⟩) (Turns.refl _ X) (fun _ => rfl) v
  have hk : KR 0 X _ := kr_turn t1 h.r4 (by decide) (by decide)
  rw [hv] at e1
  exact ⟨t1.keep h.r3 (by omega), e1, t1.keep h.r6 (by omega), t1.keep h.r7 (by omega), h.rd.step hk, hb.step hk, h.low.trans (t1.below h.low.size (fun k hk => by have hk : k = w.heap.size + 1 := hk; omega))⟩
theorem four_boxes (w : World) (a b : Nat) (T : List RF) (D : DD) (s : SS) (p : Option Addr) (c : Nat) (hR : RDB w T D) (hB : RBs w p s.body.length c s.body) :
    PQ w a b T D s p c ((((w.alloc (.cells (rdA T D) 37)).alloc (.cells (rsA a b s p c) 46)).alloc (.cells zD 37)).alloc (.cells zS 46)) := by
  obtain ⟨a1, a2, a3, a4⟩ := two_allocs w (.cells (rdA T D) 37) (.cells (rsA a b s p c) 46)
  generalize (w.alloc (.cells (rdA T D) 37)).alloc (.cells (rsA a b s p c) 46) = w1 at *
  obtain ⟨b1, b2, b3, b4⟩ := two_allocs w1 (.cells zD 37) (.cells zS 46)
  rw [a3] at b1 b2
  have hb := a4.trans (b4.mono a4.size)
  exact ⟨Below.keepOld b4 a1, Below.keepOld b4 a2, b1, b2, (hR.below a4).below b4, (hB.below a4).below b4, hb⟩
def RPuP (d : DD) (s : SS) (a b : Nat) (x : List UInt8) (w : World) (e : Ending) (w' : World) : Prop := ∃ ts p c, e = .returned (.tuple #[.agg (rdA ts (putSD d s a b x)), .agg (rsA a b (putSS d s a b x) p c), .int .i64 (putSE d s a b x)]) ∧ RDB w' ts (putSD d s a b x) ∧ RBs w' p (putSS d s a b x).body.length c (putSS d s a b x).body ∧ Below w.heap.size w w'
theorem used_doD {d : DD} {i : Nat} {s : St} (hi : i < d.fs.length) (h : usedL d.fs ≤ d.room) : usedL (doD d i (fD d i) s).fs ≤ (doD d i (fD d i) s).room := by
  unfold doD
  split
  · exact h
  · split
    · exact h
    · rename_i h1 h2
      rw [(Rk.burn_fs _).1, (Rk.burn_fs _).2]
      have := used_take (s := s) hi (fD_eq hi)
      show usedL (setF d i ((fD d i).take s)).fs ≤ d.room
      omega
theorem used_synD {d : DD} {i : Nat} (hi : i < d.fs.length) (hok : (fD d i).Ok) (h : usedL d.fs ≤ d.room) : usedL (syncD d i (fD d i)).fs ≤ (syncD d i (fD d i)).room := by
  unfold syncD
  split
  · exact h
  · split
    · rw [(Rk.burn_fs _).1, (Rk.burn_fs _).2]; exact h
    · have h1 := used_setF (d := d.burn) (i := i) (by rw [(Rk.burn_fs _).1]; exact hi) ((fD d i).settle (unitsAll (fD d i).steps))
      have h2 : ((fD d i).settle (unitsAll (fD d i).steps)).need ≤ (fD d i).need := hok.all _
      have hfb : fD d.burn i = fD d i := by unfold fD; rw [(Rk.burn_fs _).1]
      rw [hfb, (Rk.burn_fs _).1] at h1
      show usedL (setF d.burn i _).fs ≤ d.burn.room
      rw [(Rk.burn_fs _).2]
      omega
theorem RDB.okF {w : World} {T : List RF} {D : DD} (h : RDB w T D) {i : Nat} (hi : i < 3) : (fD D i).Ok := by
  have ht : i < T.length := by rw [h.n3]; exact hi
  exact (h.each i _ _ (List.getElem?_eq_getElem ht) (h.fd hi)).1.now.ok
/-- what is still to be done of a Put: calls L to file i, of disk D -/
def Pnd (d : DD) (s : SS) (a b : Nat) (x : List UInt8) (i : Nat) (L : List LA) (D : DD) : Prop :=
  putSD d s a b x = layD i L D ∧ putSE d s a b x = layE i L D ∧ putSS d s a b x = if layE i L D = 0 then ⟨(i : Int), s.turn + 1, x⟩ else s
theorem Pnd.ok {d : DD} {s : SS} {a b : Nat} {x : List UInt8} {i : Nat} {A : LA} {L : List LA} {D : DD} (h : Pnd d s a b x i (A :: L) D) (he : stpE D i A = 0) : Pnd d s a b x i L (stpD D i A) := by
  obtain ⟨e1, e2⟩ := lay_ok (r := L) he
  unfold Pnd at h ⊢
  rwa [e1, e2] at h
theorem Pnd.no {d : DD} {s : SS} {a b : Nat} {x : List UInt8} {i : Nat} {A : LA} {L : List LA} {D : DD} (h : Pnd d s a b x i (A :: L) D) (he : ¬ stpE D i A = 0) : putSD d s a b x = stpD D i A ∧ putSS d s a b x = s ∧ putSE d s a b x = stpE D i A := by
  obtain ⟨e1, e2⟩ := lay_no (r := L) he
  unfold Pnd at h
  rw [e1, e2, if_neg he] at h
  exact ⟨h.1, h.2.2, h.2.1⟩
theorem Pnd.end {d : DD} {s : SS} {a b : Nat} {x : List UInt8} {i : Nat} {D : DD} (h : Pnd d s a b x i [] D) : putSD d s a b x = D ∧ putSS d s a b x = ⟨(i : Int), s.turn + 1, x⟩ ∧ putSE d s a b x = 0 := ⟨h.1, h.2.2, h.2.1⟩
/-- a disk that may go on -/
structure Gd (D : DD) (N : Nat) : Prop where
  used : usedL D.fs ≤ D.room
  few : FewD D N
theorem fewfd {d : DD} {N i : Nat} (h : FewD d N) : (fD d i).steps.length ≤ N := by
  unfold fD
  cases hf : d.fs[i]? with
  | none => exact Nat.zero_le _
  | some f => exact h f (List.mem_of_getElem? hf)
theorem Gd.did {D : DD} {N i : Nat} (h : Gd D N) (hi : i < D.fs.length) (s : St) : Gd (doD D i (fD D i) s) (N + 1) := ⟨used_doD hi h.used, h.few.doD (fewfd h.few)⟩
theorem Gd.synd {D : DD} {N i : Nat} (h : Gd D N) (hi : i < D.fs.length) (hok : (fD D i).Ok) : Gd (syncD D i (fD D i)) N := ⟨used_synD hi hok h.used, h.few.syncD⟩
theorem number8 (w : World) (n : Nat) (hn : n < 18446744073709551616) :
    Calls Tryz.prog 65 #[.int .u64 (n : Int), .int .i64 8] w fun e w' => ∃ p c, e = .returned (.slice p 8 c) ∧ w'.ownsRow w.heap.size 5 1 (.slice p 8 c) 8 (bytesV (be n 8)) ∧ Below w.heap.size w w' := by
  refine (Rdr.number_any w n 8 hn (by omega)).mono ?_
  rintro e w' ⟨p, c, he, ho, hb⟩
  rw [← Cod.be_numB _ _ (by omega), be_length] at he ho
  exact ⟨p, c, he, ho, hb⟩
theorem loadMidG {P : Program} {ops : Array Oper} {rest : List Oper} {op : Oper} {a : Act} {w : World} {Q : Exit → Act → World → Prop} (hw : Region.wanted op (yielded ops a.tmps) = true) (ty : TypeId) (x : Operand) (ho : op.op = .load ty x)
    (b o : Nat) (hx : a.eval x = .pointer (some ⟨b, o, none⟩)) (M : Array Value) (d : TypeDesc) (hc : w.rangeAt b o M.toList)
    (hu : P.underlying ty = some d) (hd : d.isRow = true) (hi : (P.info? ty).map (·.size) = some M.size)
    (h : wpList P ops Q rest (a.put op.dst (.agg M)) w) : wpList P ops Q (op :: rest) a w :=
  wpList_unguard hw (wpList_load_mid rfl ty x ho b o hx M.toList d hc hu hd (by rw [Array.length_toList]; exact hi) (by rw [Array.toArray_toList]; exact h))
set_option maxRecDepth 100000 in
set_option maxHeartbeats 6400000 in
theorem rputS_any (ts : List RF) (d : DD) (s : SS) (a b N : Nat) (ha : a < 3) (hb : b < 3) (p : Option Addr) (c : Nat) (w : World) (hR : RDB w ts d) (hB : RBs w p s.body.length c s.body) (hg : Gd d N) (hN : N ≤ 4398046000000 / 4) (q : Option Addr) (x : List UInt8) (k : Nat) (hx : Bs w q x.length k x) (hxl : x.length ≤ 3000) (hst : s.turn < 18446744073709551616) :
    Calls Tryz.prog 27 #[.agg (rdA ts d), .agg (rsA a b s p c), .slice q x.length k] w (RPuP d s a b x w) := by
  have hz := zeroD
  have hz2 := zeroRS
  have HPQ := Lib.hid (four_boxes w a b ts d s p c hR hB)
  have HB4 := Lib.hid HPQ.out.low
  have HX := Lib.hid hx
  have d1 : decide ((65528 : Int) < (x.length : Int)) = false := decide_eq_false (by omega)
  have d2 : decide (65528 < x.length) = false := decide_eq_false (by omega)
  have HG := Lib.hid hg
  have hqx := hx.le
  have hqm := hx.max
  clear hR hB hx hg
  go_enter Tryz.func27, Tryz.ntmps27
  go_upto_region 1 with fail
  generalize ((((w.alloc (.cells (rdA ts d) 37)).alloc (.cells (rsA a b s p c) 46)).alloc (.cells zD 37)).alloc (.cells zS 46)) = w4 at *
  obtain ⟨c0, c1, c2, c3, c4, hfz⟩ := rs_cells HPQ.out.r4
  by_cases ht : s.turn + 1 < 18446744073709551616
  rotate_left
  · have hw : IntKind.u64.wrap ((s.turn : Int) + 1) = 0 := by rw [IntKind.wrap_u64]; omega
    have HFIN : Hid (putSD d s a b x = d ∧ putSS d s a b x = s ∧ putSE d s a b x = 1) := by
      have hf : fits s x = false := by unfold fits; rw [decide_eq_false ht]; simp
      unfold putSD putSS putSE
      rw [hf]
      exact ⟨rfl, rfl, rfl⟩
    clear ht
    go_upto_region 2 with fail
    clear c0 c1 c2 c3 c4 hfz
    skip
    -- the results stored and told: region's tree .take 0 (.take 1 (.one 2 (.one 3 (.one 4 .nil)))); HPQ : Hid (PQ w a b ts d s p c w4), the error EX; HFIN : Hid (putSD .. = d ∧ putSS .. = s ∧ putSE .. = EX)
    have HL3 : Hid (∀ w', Turns (fun k => k = w.heap.size + 2 ∨ k = w.heap.size + 3) w4 w' → w'.rangeAt w.heap.size 0 (rdA ts d).toList) := fun w' hb => row_rangeR (hb.keep HPQ.out.r3 (by rintro (h | h) <;> omega))
    have HL4 : Hid (∀ w', Turns (fun k => k = w.heap.size + 2 ∨ k = w.heap.size + 3) w4 w' → w'.rangeAt (w.heap.size + 1) 0 (rsA a b s p c).toList) := fun w' hb => row_rangeR (hb.keep HPQ.out.r4 (by rintro (h | h) <;> omega))
    refine wp_region_tree (Turns (fun k => k = w.heap.size + 2 ∨ k = w.heap.size + 3) w4) (.take 0 (.take 1 (.one 2 (.one 3 (.one 4 .nil))))) (by kernel_rfl) (by kernel_rfl) (Turns.of_below (below_drew1 _ _)) ?_
    have hy0 : Below w4.heap.size w4 w4.drew := below_drew1 _ _
    refine tree_load rfl (by rfl) 37 _ rfl w.heap.size 0 rfl (rdA ts d) _ (fun w' hb => HL3.out w' hb) Tryz.underlying37 rfl (infoRD _ (rdA_size HPQ.out.rd.n3 HPQ.out.rd.m3)) ?_
    try simp only [Act.put, List.setIfInBounds_toArray, List.set_cons_zero, List.set_cons_succ]
    refine tree_load rfl (by rfl) 46 _ rfl (w.heap.size + 1) 0 rfl (rsA a b s p c) _ (fun w' hb => HL4.out w' hb) Tryz.underlying46 rfl (infoRS _ rfl) ?_
    try simp only [Act.put, List.setIfInBounds_toArray, List.set_cons_zero, List.set_cons_succ]
    repeat (apply tree_take; (· rfl); (· rfl); (· (intro w' hb'; go_simp; try with_reducible rfl)); try simp only [Act.put, List.setIfInBounds_toArray, List.set_cons_zero, List.set_cons_succ])
    have hq1 := HPQ.out.next hy0
    have ht0 : Turns (fun k => k = w.heap.size + 2 ∨ k = w.heap.size + 3) w4 w4.drew := Turns.of_below hy0
    clear HL3 HL4 HPQ hy0
    generalize w4.drew = wD at *
    refine tree_one rfl (by rfl) (fun K hK => oper_of_list rfl ?_)
    refine wpList_store_row rfl 37 _ _ rfl (w.heap.size + 2) (rdA ts d) rfl rfl 37 zD hq1.r6 (infoRD _ (rdA_size hq1.rd.n3 hq1.rd.m3)) (by rw [rdA_size hq1.rd.n3 hq1.rd.m3]; rfl) (rdA_one hq1.rd.n3 hq1.rd.m3) ?_
    have ht1 := ht0.trans (turns_setRow wD (w.heap.size + 2) (rdA ts d)) (fun k _ hk => .inl hk)
    refine only_end (Shut.out hK _ _ ht1 ?_)
    clear hK K
    try simp only [Act.put]
    have hr7 : (wD.setRow (w.heap.size + 2) (rdA ts d)).heap[w.heap.size + 3]? = some (.cells zS 46 (0, 0)) := by rw [setRow_other _ _ _ _ (by omega)]; exact hq1.r7
    refine tree_one rfl (by rfl) (fun K hK => oper_of_list rfl ?_)
    refine wpList_store_row rfl 46 _ _ rfl (w.heap.size + 3) (rsA a b s p c) rfl rfl 46 zS hr7 (infoRS _ rfl) rfl (rsA_one _ _ _ _ _) ?_
    have ht2 := ht1.trans (turns_setRow (wD.setRow (w.heap.size + 2) (rdA ts d)) (w.heap.size + 3) (rsA a b s p c)) (fun k _ hk => .inr hk)
    refine only_end (Shut.out hK _ _ ht2 ?_)
    clear hK K
    try simp only [Act.put]
    refine tree_one rfl (by rfl) (fun K hK => ?_)
    go_simp
    refine Shut.out hK _ _ ht2 ?_
    clear hK K
    try simp only [Act.put, List.setIfInBounds_toArray, List.set_cons_zero, List.set_cons_succ]
    refine tree_nil ?_
    go_wp2_with fail
    have hs1 : ((wD.setRow (w.heap.size + 2) (rdA ts d)).setRow (w.heap.size + 3) (rsA a b s p c)).heap[w.heap.size + 2]? = some (.cells (rdA ts d) 37 (0, 0)) := by rw [setRow_other _ _ _ _ (by omega)]; exact setRow_heap _ _ _ _ _ _ hq1.r6
    have hs2 := setRow_heap _ _ _ (rsA a b s p c) _ _ hr7
    have hk : KR 0 wD ((wD.setRow (w.heap.size + 2) (rdA ts d)).setRow (w.heap.size + 3) (rsA a b s p c)) := (kr_turn (turns_setRow _ _ _) hq1.r6 (by decide) (by decide)).trans (kr_turn (turns_setRow _ _ _) hr7 (by decide) (by decide))
    refine bodyPost_ret (results_cells2_tmp rfl _ _ _ _ _ _ _ _ _ _ _ _ rfl rfl hs1 hs2 Tryz.underlying37 rfl (infoRD _ (rdA_size hq1.rd.n3 hq1.rd.m3)) Tryz.underlying46 rfl (infoRS _ rfl)) rfl ?_
    obtain ⟨f1, f2, f3⟩ := HFIN.out
    unfold RPuP
    rw [f1, f2, f3]
    exact ⟨ts, p, c, rfl, hq1.rd.step hk, hq1.rb.step hk, below_setRow (below_setRow hq1.low (by omega) _) (by omega) _⟩
  · have hw : IntKind.u64.wrap ((s.turn : Int) + 1) = ((s.turn + 1 : Nat) : Int) := by rw [IntKind.wrap_u64]; omega
    have hne : (((s.turn + 1 : Nat) : Int) == 0) = false := by rw [beq_eq_false_iff_ne]; omega
    have HFIT : Hid (fits s x = true) := by show _ = _; unfold fits; rw [decide_eq_true (show x.length ≤ 65528 by omega), decide_eq_true ht]; rfl
    have HFD : Hid (∀ i, (fD d i).steps.length ≤ N) := fun i => by
      unfold fD
      cases h : d.fs[i]? with
      | none => exact Nat.zero_le _
      | some f => exact HG.out.few f (List.mem_of_getElem? h)
    have HTL := Lib.hid ht
    clear ht
    obtain ⟨TN, hTN⟩ : ∃ TN, s.turn + 1 = TN := ⟨_, rfl⟩
    rw [hTN] at hw hne HTL
    have HTN := Lib.hid hTN
    clear hTN
    by_cases hna : s.now = (a : Int)
    · have e1 : (s.now == (a : Int)) = true := beq_iff_eq.2 hna
      have HNX : Hid (nxt s a b = b) := if_pos hna
      clear hna
      go_upto_region 7 with fail
      skip
      -- behind region 6: i = b; world w4
      have HPN : Hid (Pnd d s a b x b (acts d b (wrapB s x)) d) := by
        have hf := HFIT.out
        refine ⟨?_, ?_, ?_⟩
        · unfold putSD; rw [if_pos hf, HNX.out]
        · unfold putSE; rw [if_pos hf, HNX.out]
        · unfold putSS; rw [HNX.out]; simp only [hf, true_and]
      have HI3 : Hid (b < 3) := by assumption
      have hI3 : (b : Int) < 3 := by have := HI3.out; omega
      have hti : b < ts.length := by rw [HPQ.out.rd.n3]; exact HI3.out
      have ht : ts[b]? = some (ts[b]'hti) := List.getElem?_eq_getElem hti
      generalize ts[b]'hti = t at *
      have HF := Lib.hid (HPQ.out.rd.fd HI3.out)
      have HT := Lib.hid ht
      have HNB : Hid ((fD d b).need ≤ 1000000) := by
        obtain ⟨t', f', _, a', _, _, b'⟩ := HPQ.out.rd.at.file b HI3.out
        rw [HF.out] at a'
        cases a'; exact b'
      clear ht hti
      have HRG := Lib.hid (rd_range HPQ.out.rd.n3 HPQ.out.rd.m3 HPQ.out.r3 b HT.out HF.out)
      have HHO := Lib.hid (rholds_any t (fD d b) w4 (HPQ.out.rd.each b t _ HT.out HF.out).1.now HNB.out)
      have HUN := Lib.hid (fun y (hb : Below w4.heap.size w4 y) => runits_any t (fD d b) y ((HPQ.out.rd.below hb).each b t _ HT.out HF.out).1.now)
      clear c0 c1 c2 c3 c4 hfz
      go_upto_region 7 with fail
      go_wp2_with (refine wpList_load_mid rfl 34 _ rfl w.heap.size (b * 2) rfl (fA t (fD d b)).toList _ HRG.out Tryz.underlying34 rfl (infoFi (fA t (fD d b)) rfl) ?_)
      try rw [Array.toArray_toList]
      refine HHO.out.mono ?_
      rintro e w5 ⟨p5, c5, rfl, _, hb5⟩
      have HB5 := Lib.hid hb5
      have HPQ5 := Lib.hid (HPQ.out.next hb5)
      have HRG5 := Lib.hid (range_below HRG.out hb5)
      clear hb5 HHO HRG HPQ
      by_cases hl : 0 < (fD d b).now.length
      · have q1 : decide ((0 : Int) < ((fD d b).now.length : Int)) = true := decide_eq_true (by omega)
        have q2 : decide (0 < (fD d b).now.length) = true := decide_eq_true hl
        have HFULL : Hid (full d b = true) := by show _ = _; unfold full; rw [decide_eq_true hl]; rfl
        have HPQ := HPQ5
        clear HPQ5 HUN HRG5
        skip
        -- file b holds something: cut, sync, put, sync
        have HAC : Hid (acts d b (wrapB s x) = [.cut, .sync, .put (wrapB s x), .sync]) := by show _ = _; unfold acts; rw [if_pos HFULL.out]
        rw [HAC.out] at HPN
        have HIL : Hid (b < d.fs.length) := by show _ < _; rw [HPQ.out.rd.m3]; exact HI3.out
        have HC : Hid (Calls Tryz.prog 63 #[.agg (rdA ts d), .int .i64 (b : Int), .int .i64 0] w5 (ROut (stpD d b .cut) (stpE d b .cut) w5)) := rcut_in ts d b HI3.out 0 (Nat.zero_le _) w5 HPQ.out.rd HG.out.used (by have := HFD.out b; omega)
        go_upto_region 8 with fail
        skip
        -- one call of the reference's disk: world w5, boxes HPQ (disk ts, d); HC : Hid (Calls .. w5 (ROut (stpD d i .cut) (stpE d i .cut) w5)); HPN: pending .cut :: ..; 9: the region behind it
        go_wp2_with (refine wpList_load_row rfl 37 _ rfl w.heap.size rfl 37 (rdA ts d) (0, 0) _ HPQ.out.r3 Tryz.underlying37 rfl (infoRD _ (rdA_size HPQ.out.rd.n3 HPQ.out.rd.m3)) ?_)
        refine HC.out.mono ?_
        rintro e y1 ⟨T1, rfl, hr, hb⟩
        have hq := HPQ.out.next hb
        have HQR := Lib.hid hq.r3
        have HSZ3 : Hid ((rdA ts d).size = (rdA T1 (stpD d b .cut)).size) := by show _ = _; rw [rdA_size hq.rd.n3 hq.rd.m3, rdA_size hr.n3 hr.m3]
        have HP1 := Lib.hid (hq.disk hr)
        have HOK1 : Hid (stpE d b .cut = 0 → Pnd d s a b x b [.sync, .put (wrapB s x), .sync] (stpD d b .cut)) := fun h => HPN.out.ok h
        have HNO1 : Hid (¬ stpE d b .cut = 0 → putSD d s a b x = stpD d b .cut ∧ putSS d s a b x = s ∧ putSE d s a b x = stpE d b .cut) := fun h => HPN.out.no h
        clear hq hr hb HPQ HC HPN
        have HG1 : Hid (Gd (stpD d b .cut) (N + 1)) := HG.out.did HIL.out (.cut 0)
        generalize stpE d b .cut = E1 at *
        generalize stpD d b .cut = D1 at *
        go_upto_region 9 with (refine wpList_store_row rfl 37 _ _ rfl w.heap.size (rdA T1 D1) rfl rfl 37 (rdA ts d) HQR.out (infoRD _ (rdA_size HP1.out.rd.n3 HP1.out.rd.m3)) HSZ3.out (rdA_one HP1.out.rd.n3 HP1.out.rd.m3) ?_)
        try simp only [Act.put, List.setIfInBounds_toArray, List.set_cons_zero, List.set_cons_succ]
        clear HQR HSZ3
        generalize y1.setRow w.heap.size (rdA T1 D1) = z1 at *
        by_cases he1 : E1 = 0
        rotate_left
        · have q1 : (E1 != 0) = true := bne_iff_ne.2 he1
          have HFIN := Lib.hid (HNO1.out he1)
          have HPQ := HP1
          clear he1 HOK1
          go_upto_region 10 with fail
          skip
          -- the results stored and told: region's tree .take 0 (.take 1 (.take 2 (.one 3 (.one 4 (.one 5 .nil))))); HPQ : Hid (PQ w a b T1 D1 s p c z1), the error EX; HFIN : Hid (putSD .. = D1 ∧ putSS .. = s ∧ putSE .. = EX)
          have HL3 : Hid (∀ w', Turns (fun k => k = w.heap.size + 2 ∨ k = w.heap.size + 3) z1 w' → w'.rangeAt w.heap.size 0 (rdA T1 D1).toList) := fun w' hb => row_rangeR (hb.keep HPQ.out.r3 (by rintro (h | h) <;> omega))
          have HL4 : Hid (∀ w', Turns (fun k => k = w.heap.size + 2 ∨ k = w.heap.size + 3) z1 w' → w'.rangeAt (w.heap.size + 1) 0 (rsA a b s p c).toList) := fun w' hb => row_rangeR (hb.keep HPQ.out.r4 (by rintro (h | h) <;> omega))
          refine wp_region_tree (Turns (fun k => k = w.heap.size + 2 ∨ k = w.heap.size + 3) z1) (.take 0 (.take 1 (.take 2 (.one 3 (.one 4 (.one 5 .nil)))))) (by kernel_rfl) (by kernel_rfl) (Turns.of_below (below_drew1 _ _)) ?_
          have hy0 : Below z1.heap.size z1 z1.drew := below_drew1 _ _
          refine tree_load rfl (by rfl) 37 _ rfl w.heap.size 0 rfl (rdA T1 D1) _ (fun w' hb => HL3.out w' hb) Tryz.underlying37 rfl (infoRD _ (rdA_size HPQ.out.rd.n3 HPQ.out.rd.m3)) ?_
          try simp only [Act.put, List.setIfInBounds_toArray, List.set_cons_zero, List.set_cons_succ]
          refine tree_load rfl (by rfl) 46 _ rfl (w.heap.size + 1) 0 rfl (rsA a b s p c) _ (fun w' hb => HL4.out w' hb) Tryz.underlying46 rfl (infoRS _ rfl) ?_
          try simp only [Act.put, List.setIfInBounds_toArray, List.set_cons_zero, List.set_cons_succ]
          repeat (apply tree_take; (· rfl); (· rfl); (· (intro w' hb'; go_simp; try with_reducible rfl)); try simp only [Act.put, List.setIfInBounds_toArray, List.set_cons_zero, List.set_cons_succ])
          have hq1 := HPQ.out.next hy0
          have ht0 : Turns (fun k => k = w.heap.size + 2 ∨ k = w.heap.size + 3) z1 z1.drew := Turns.of_below hy0
          clear HL3 HL4 HPQ hy0
          generalize z1.drew = wD at *
          refine tree_one rfl (by rfl) (fun K hK => oper_of_list rfl ?_)
          refine wpList_store_row rfl 37 _ _ rfl (w.heap.size + 2) (rdA T1 D1) rfl rfl 37 zD hq1.r6 (infoRD _ (rdA_size hq1.rd.n3 hq1.rd.m3)) (by rw [rdA_size hq1.rd.n3 hq1.rd.m3]; rfl) (rdA_one hq1.rd.n3 hq1.rd.m3) ?_
          have ht1 := ht0.trans (turns_setRow wD (w.heap.size + 2) (rdA T1 D1)) (fun k _ hk => .inl hk)
          refine only_end (Shut.out hK _ _ ht1 ?_)
          clear hK K
          try simp only [Act.put]
          have hr7 : (wD.setRow (w.heap.size + 2) (rdA T1 D1)).heap[w.heap.size + 3]? = some (.cells zS 46 (0, 0)) := by rw [setRow_other _ _ _ _ (by omega)]; exact hq1.r7
          refine tree_one rfl (by rfl) (fun K hK => oper_of_list rfl ?_)
          refine wpList_store_row rfl 46 _ _ rfl (w.heap.size + 3) (rsA a b s p c) rfl rfl 46 zS hr7 (infoRS _ rfl) rfl (rsA_one _ _ _ _ _) ?_
          have ht2 := ht1.trans (turns_setRow (wD.setRow (w.heap.size + 2) (rdA T1 D1)) (w.heap.size + 3) (rsA a b s p c)) (fun k _ hk => .inr hk)
          refine only_end (Shut.out hK _ _ ht2 ?_)
          clear hK K
          try simp only [Act.put]
          refine tree_one rfl (by rfl) (fun K hK => ?_)
          go_simp
          refine Shut.out hK _ _ ht2 ?_
          clear hK K
          try simp only [Act.put, List.setIfInBounds_toArray, List.set_cons_zero, List.set_cons_succ]
          refine tree_nil ?_
          go_wp2_with fail
          have hs1 : ((wD.setRow (w.heap.size + 2) (rdA T1 D1)).setRow (w.heap.size + 3) (rsA a b s p c)).heap[w.heap.size + 2]? = some (.cells (rdA T1 D1) 37 (0, 0)) := by rw [setRow_other _ _ _ _ (by omega)]; exact setRow_heap _ _ _ _ _ _ hq1.r6
          have hs2 := setRow_heap _ _ _ (rsA a b s p c) _ _ hr7
          have hk : KR 0 wD ((wD.setRow (w.heap.size + 2) (rdA T1 D1)).setRow (w.heap.size + 3) (rsA a b s p c)) := (kr_turn (turns_setRow _ _ _) hq1.r6 (by decide) (by decide)).trans (kr_turn (turns_setRow _ _ _) hr7 (by decide) (by decide))
          refine bodyPost_ret (results_cells2_tmp rfl _ _ _ _ _ _ _ _ _ _ _ _ rfl rfl hs1 hs2 Tryz.underlying37 rfl (infoRD _ (rdA_size hq1.rd.n3 hq1.rd.m3)) Tryz.underlying46 rfl (infoRS _ rfl)) rfl ?_
          obtain ⟨f1, f2, f3⟩ := HFIN.out
          unfold RPuP
          rw [f1, f2, f3]
          exact ⟨T1, p, c, rfl, hq1.rd.step hk, hq1.rb.step hk, below_setRow (below_setRow hq1.low (by omega) _) (by omega) _⟩
        have q1 : (E1 != 0) = false := by rw [bne_eq_false_iff_eq]; exact he1
        have HPN := Lib.hid (HOK1.out he1)
        have HPQ := HP1
        have HIL : Hid (b < D1.fs.length) := by show _ < _; rw [HPQ.out.rd.m3]; exact HI3.out
        have HOKF : Hid (fD D1 b).Ok := RDB.okF HPQ.out.rd HI3.out
        have HC : Hid (Calls Tryz.prog 34 #[.agg (rdA T1 D1), .int .i64 (b : Int)] z1 (ROut (stpD D1 b .sync) (stpE D1 b .sync) z1)) := rsync_in T1 D1 b HI3.out (fD D1 b) (HPQ.out.rd.fd HI3.out) z1 HPQ.out.rd
        clear he1 HOK1 HNO1 HP1
        go_upto_region 11 with fail
        clear q1
        skip
        -- one call of the reference's disk: world z1, boxes HPQ (disk T1, D1); HC : Hid (Calls .. z1 (ROut (stpD D1 i .sync) (stpE D1 i .sync) z1)); HPN: pending .sync :: ..; 12: the region behind it
        go_wp2_with (refine wpList_load_row rfl 37 _ rfl w.heap.size rfl 37 (rdA T1 D1) (0, 0) _ HPQ.out.r3 Tryz.underlying37 rfl (infoRD _ (rdA_size HPQ.out.rd.n3 HPQ.out.rd.m3)) ?_)
        refine HC.out.mono ?_
        rintro e y2 ⟨T2, rfl, hr, hb⟩
        have hq := HPQ.out.next hb
        have HQR := Lib.hid hq.r3
        have HSZ3 : Hid ((rdA T1 D1).size = (rdA T2 (stpD D1 b .sync)).size) := by show _ = _; rw [rdA_size hq.rd.n3 hq.rd.m3, rdA_size hr.n3 hr.m3]
        have HP2 := Lib.hid (hq.disk hr)
        have HOK3 : Hid (stpE D1 b .sync = 0 → Pnd d s a b x b [.put (wrapB s x), .sync] (stpD D1 b .sync)) := fun h => HPN.out.ok h
        have HNO3 : Hid (¬ stpE D1 b .sync = 0 → putSD d s a b x = stpD D1 b .sync ∧ putSS d s a b x = s ∧ putSE d s a b x = stpE D1 b .sync) := fun h => HPN.out.no h
        clear hq hr hb HPQ HC HPN
        have HG2 : Hid (Gd (stpD D1 b .sync) (N + 1)) := HG1.out.synd HIL.out HOKF.out
        generalize stpE D1 b .sync = E2 at *
        generalize stpD D1 b .sync = D2 at *
        go_upto_region 12 with (refine wpList_store_row rfl 37 _ _ rfl w.heap.size (rdA T2 D2) rfl rfl 37 (rdA T1 D1) HQR.out (infoRD _ (rdA_size HP2.out.rd.n3 HP2.out.rd.m3)) HSZ3.out (rdA_one HP2.out.rd.n3 HP2.out.rd.m3) ?_)
        try simp only [Act.put, List.setIfInBounds_toArray, List.set_cons_zero, List.set_cons_succ]
        clear HQR HSZ3
        generalize y2.setRow w.heap.size (rdA T2 D2) = z2 at *
        by_cases he1 : E2 = 0
        rotate_left
        · have q1 : (E2 != 0) = true := bne_iff_ne.2 he1
          have HFIN := Lib.hid (HNO3.out he1)
          have HPQ := HP2
          clear he1 HOK3
          go_upto_region 13 with fail
          skip
          -- the results stored and told: region's tree .take 0 (.take 1 (.take 2 (.one 3 (.one 4 (.one 5 .nil))))); HPQ : Hid (PQ w a b T2 D2 s p c z2), the error EX; HFIN : Hid (putSD .. = D2 ∧ putSS .. = s ∧ putSE .. = EX)
          have HL3 : Hid (∀ w', Turns (fun k => k = w.heap.size + 2 ∨ k = w.heap.size + 3) z2 w' → w'.rangeAt w.heap.size 0 (rdA T2 D2).toList) := fun w' hb => row_rangeR (hb.keep HPQ.out.r3 (by rintro (h | h) <;> omega))
          have HL4 : Hid (∀ w', Turns (fun k => k = w.heap.size + 2 ∨ k = w.heap.size + 3) z2 w' → w'.rangeAt (w.heap.size + 1) 0 (rsA a b s p c).toList) := fun w' hb => row_rangeR (hb.keep HPQ.out.r4 (by rintro (h | h) <;> omega))
          refine wp_region_tree (Turns (fun k => k = w.heap.size + 2 ∨ k = w.heap.size + 3) z2) (.take 0 (.take 1 (.take 2 (.one 3 (.one 4 (.one 5 .nil)))))) (by kernel_rfl) (by kernel_rfl) (Turns.of_below (below_drew1 _ _)) ?_
          have hy0 : Below z2.heap.size z2 z2.drew := below_drew1 _ _
          refine tree_load rfl (by rfl) 37 _ rfl w.heap.size 0 rfl (rdA T2 D2) _ (fun w' hb => HL3.out w' hb) Tryz.underlying37 rfl (infoRD _ (rdA_size HPQ.out.rd.n3 HPQ.out.rd.m3)) ?_
          try simp only [Act.put, List.setIfInBounds_toArray, List.set_cons_zero, List.set_cons_succ]
          refine tree_load rfl (by rfl) 46 _ rfl (w.heap.size + 1) 0 rfl (rsA a b s p c) _ (fun w' hb => HL4.out w' hb) Tryz.underlying46 rfl (infoRS _ rfl) ?_
          try simp only [Act.put, List.setIfInBounds_toArray, List.set_cons_zero, List.set_cons_succ]
          repeat (apply tree_take; (· rfl); (· rfl); (· (intro w' hb'; go_simp; try with_reducible rfl)); try simp only [Act.put, List.setIfInBounds_toArray, List.set_cons_zero, List.set_cons_succ])
          have hq1 := HPQ.out.next hy0
          have ht0 : Turns (fun k => k = w.heap.size + 2 ∨ k = w.heap.size + 3) z2 z2.drew := Turns.of_below hy0
          clear HL3 HL4 HPQ hy0
          generalize z2.drew = wD at *
          refine tree_one rfl (by rfl) (fun K hK => oper_of_list rfl ?_)
          refine wpList_store_row rfl 37 _ _ rfl (w.heap.size + 2) (rdA T2 D2) rfl rfl 37 zD hq1.r6 (infoRD _ (rdA_size hq1.rd.n3 hq1.rd.m3)) (by rw [rdA_size hq1.rd.n3 hq1.rd.m3]; rfl) (rdA_one hq1.rd.n3 hq1.rd.m3) ?_
          have ht1 := ht0.trans (turns_setRow wD (w.heap.size + 2) (rdA T2 D2)) (fun k _ hk => .inl hk)
          refine only_end (Shut.out hK _ _ ht1 ?_)
          clear hK K
          try simp only [Act.put]
          have hr7 : (wD.setRow (w.heap.size + 2) (rdA T2 D2)).heap[w.heap.size + 3]? = some (.cells zS 46 (0, 0)) := by rw [setRow_other _ _ _ _ (by omega)]; exact hq1.r7
          refine tree_one rfl (by rfl) (fun K hK => oper_of_list rfl ?_)
          refine wpList_store_row rfl 46 _ _ rfl (w.heap.size + 3) (rsA a b s p c) rfl rfl 46 zS hr7 (infoRS _ rfl) rfl (rsA_one _ _ _ _ _) ?_
          have ht2 := ht1.trans (turns_setRow (wD.setRow (w.heap.size + 2) (rdA T2 D2)) (w.heap.size + 3) (rsA a b s p c)) (fun k _ hk => .inr hk)
          refine only_end (Shut.out hK _ _ ht2 ?_)
          clear hK K
          try simp only [Act.put]
          refine tree_one rfl (by rfl) (fun K hK => ?_)
          go_simp
          refine Shut.out hK _ _ ht2 ?_
          clear hK K
          try simp only [Act.put, List.setIfInBounds_toArray, List.set_cons_zero, List.set_cons_succ]
          refine tree_nil ?_
          go_wp2_with fail
          have hs1 : ((wD.setRow (w.heap.size + 2) (rdA T2 D2)).setRow (w.heap.size + 3) (rsA a b s p c)).heap[w.heap.size + 2]? = some (.cells (rdA T2 D2) 37 (0, 0)) := by rw [setRow_other _ _ _ _ (by omega)]; exact setRow_heap _ _ _ _ _ _ hq1.r6
          have hs2 := setRow_heap _ _ _ (rsA a b s p c) _ _ hr7
          have hk : KR 0 wD ((wD.setRow (w.heap.size + 2) (rdA T2 D2)).setRow (w.heap.size + 3) (rsA a b s p c)) := (kr_turn (turns_setRow _ _ _) hq1.r6 (by decide) (by decide)).trans (kr_turn (turns_setRow _ _ _) hr7 (by decide) (by decide))
          refine bodyPost_ret (results_cells2_tmp rfl _ _ _ _ _ _ _ _ _ _ _ _ rfl rfl hs1 hs2 Tryz.underlying37 rfl (infoRD _ (rdA_size hq1.rd.n3 hq1.rd.m3)) Tryz.underlying46 rfl (infoRS _ rfl)) rfl ?_
          obtain ⟨f1, f2, f3⟩ := HFIN.out
          unfold RPuP
          rw [f1, f2, f3]
          exact ⟨T2, p, c, rfl, hq1.rd.step hk, hq1.rb.step hk, below_setRow (below_setRow hq1.low (by omega) _) (by omega) _⟩
        have q1 : (E2 != 0) = false := by rw [bne_eq_false_iff_eq]; exact he1
        have HPN := Lib.hid (HOK3.out he1)
        have HPQ := HP2
        clear he1 HOK3 HNO3 HP2 HIL HOKF HG1
        go_upto_region 14 with fail
        clear q1
        skip
        -- from region 14: put and sync; world z2, disk T2 D2
        have HIL : Hid (b < D2.fs.length) := by show _ < _; rw [HPQ.out.rd.m3]; exact HI3.out
        have HL3 : Hid (∀ w', Below z2.heap.size z2 w' → w'.rangeAt w.heap.size 0 (rdA T2 D2).toList) := fun w' hb => row_rangeR (Below.keepOld hb HPQ.out.r3)
        have HT3 : Hid (∀ w', Below z2.heap.size z2 w' → w'.cell? ⟨w.heap.size + 1, 3, none⟩ = some (.int .u64 (s.turn : Int))) := fun w' hb => (rs_cells (Below.keepOld hb HPQ.out.r4)).2.2.2.1
        have HXB := Lib.hid (HX.out.below HPQ.out.low)
        refine wp_region_eager_u (Below z2.heap.size z2) [0, 1, 2, 3, 4, 6] [(0, true), (1, true), (2, true), (3, true), (4, true), (6, true), (5, false), (7, false), (8, false), (9, false)] (.take 10 (.take 11 (.take 12 (.one 13 (.one 14 .nil))))) (by kernel_rfl) (by kernel_rfl) ?_ (eagerUOpen rfl ?_)
        · exact below_drew1 _ _
        have hy0 : Below z2.heap.size z2 z2.drew := below_drew1 _ _
        repeat (first
          | ((with_reducible refine eagerULoadAt 3 ?_); refine wpEagerU_load (by rfl) 37 _ rfl w.heap.size 0 rfl (rdA T2 D2) _ (fun w' hb => HL3.out w' hb) Tryz.underlying37 rfl (infoRD _ (rdA_size HPQ.out.rd.n3 HPQ.out.rd.m3)) ?_; (try simp only [Act.put, List.setIfInBounds_toArray, List.set_cons_zero, List.set_cons_succ]); (try refine eagerUOpen rfl ?_))
          | (apply wpEagerU_take; (· rfl); (· (intro w' hb'; have hk' := (HT3.out) w' hb'; go_split_ands; go_simp; try with_reducible rfl)); (try simp only [Act.put, List.setIfInBounds_toArray, List.set_cons_zero, List.set_cons_succ]); (try refine eagerUOpen rfl ?_))
          | (first | (apply wpEagerU_take; (· rfl); (· (intro w' hb'; go_simp; try with_reducible rfl)); (try simp only [Act.put, List.setIfInBounds_toArray, List.set_cons_zero, List.set_cons_succ]); (try refine eagerUOpen rfl ?_)) | (refine wpEagerU_skip (by rfl) ?_; (try simp only [Act.put, List.setIfInBounds_toArray, List.set_cons_zero, List.set_cons_succ]); (try refine eagerUOpen rfl ?_))))
        (refine wpEagerU_op (by rfl) (fun K hK => ?_); go_simp; (refine (number8 z2.drew TN HTL.out).mono ?_; rintro e y8 ⟨p8, c8, rfl, ho, hb⟩; have hy1 : Below z2.heap.size z2 y8 := hy0.trans hb; have HO8 := Lib.hid ho; clear ho hb); refine Shut.out hK _ _ (by assumption) ?_; clear hK K; (try simp only [Act.put, List.setIfInBounds_toArray, List.set_cons_zero, List.set_cons_succ]); (try refine eagerUOpen rfl ?_))
        have HB8 : Hid (z2.heap.size ≤ y8.heap.size) := hy1.size
        have HXS := Lib.hid (HXB.out.below hy1)
        refine wpEagerU_op (by rfl) (fun K hK => oper_of_list rfl ?_)
        refine wpList_append_nx rfl _ _ 22 rfl (base := z2.drew.heap.size) Tryz.underlying22 Frm.info8b rfl (by omega) rfl HO8.out rfl HXS.out (bytesV_one _) ⟨by omega, by omega⟩ HB8.out ?_
        intro p9 c9 y9 ho9 hgr hnx _
        have hb9 := own_below HO8.out hgr HB8.out
        have hy2 : Below z2.heap.size z2 y9 := hy1.trans (show Below z2.heap.size y8 y9 from hb9)
        have HFB : Hid (Bs y9 p9 (8 + x.length) c9 (be TN 8 ++ x)) := by
          rw [← bytesV_append] at ho9
          exact Cut.own_bs ho9
        have HWB : Hid (frame (be TN 8 ++ x) = wrapB s x) := by show _ = _; unfold wrapB; rw [HTN.out]
        have HWL : Hid ((wrapB s x).length ≤ 60000) := by show _ ≤ _; rw [← HWB.out, Frm.frame_length, List.length_append, be_length]; omega
        have HFR := Lib.hid (Frm.rbytes_any p9 (8 + x.length) c9 (be TN 8 ++ x) y9 HFB.out (by omega))
        rw [HWB.out] at HFR
        refine only_end (Shut.out hK _ _ hy2 ?_)
        clear hK K ho9 hgr hnx hb9 HO8 HXS HB8 HFB HWB
        (try simp only [Act.put, List.setIfInBounds_toArray, List.set_cons_zero, List.set_cons_succ]); (try refine eagerUOpen rfl ?_)
        (refine wpEagerU_op (by rfl) (fun K hK => ?_); go_simp; (refine HFR.out.mono ?_; rintro e yF ⟨pF, cF, rfl, ho, hb⟩; have HOF := Lib.hid (Cut.own_bs ho); have hy3 : Below z2.heap.size z2 yF := hy2.trans (hb.mono hy2.size); clear ho hb); refine Shut.out hK _ _ (by assumption) ?_; clear hK K; (try simp only [Act.put, List.setIfInBounds_toArray, List.set_cons_zero, List.set_cons_succ]); (try refine eagerUOpen rfl ?_))
        have HPC : Hid (Calls Tryz.prog 8 #[.agg (rdA T2 D2), .int .i64 (b : Int), .slice pF (wrapB s x).length cF] yF (ROut (stpD D2 b (.put (wrapB s x))) (stpE D2 b (.put (wrapB s x))) yF)) := rput_in T2 D2 b HI3.out pF (wrapB s x) cF yF (HPQ.out.rd.below hy3) HG2.out.used HOF.out HWL.out (by have := fewfd (i := b) HG2.out.few; omega)
        (refine wpEagerU_op (by rfl) (fun K hK => ?_); go_simp; (refine HPC.out.mono ?_; rintro e yP ⟨T5, rfl, hr, hb⟩; have HR5 := Lib.hid hr; have hy4 : Below z2.heap.size z2 yP := hy3.trans (hb.mono hy3.size); clear hr hb); refine Shut.out hK _ _ (by assumption) ?_; clear hK K; (try simp only [Act.put, List.setIfInBounds_toArray, List.set_cons_zero, List.set_cons_succ]); (try refine eagerUOpen rfl ?_))
        refine eagerUEnd ?_
        have hq := HPQ.out.next hy4
        have HQR := Lib.hid hq.r3
        have HSZ3 : Hid ((rdA T2 D2).size = (rdA T5 (stpD D2 b (.put (wrapB s x)))).size) := by show _ = _; rw [rdA_size hq.rd.n3 hq.rd.m3, rdA_size HR5.out.n3 HR5.out.m3]
        have HP5 := Lib.hid (hq.disk HR5.out)
        have HOK5 : Hid (stpE D2 b (.put (wrapB s x)) = 0 → Pnd d s a b x b [.sync] (stpD D2 b (.put (wrapB s x)))) := fun h => HPN.out.ok h
        have HNO5 : Hid (¬ stpE D2 b (.put (wrapB s x)) = 0 → putSD d s a b x = stpD D2 b (.put (wrapB s x)) ∧ putSS d s a b x = s ∧ putSE d s a b x = stpE D2 b (.put (wrapB s x))) := fun h => HPN.out.no h
        obtain ⟨M5, HG5⟩ : ∃ M, Hid (Gd (stpD D2 b (.put (wrapB s x))) M) := ⟨_, HG2.out.did HIL.out _⟩
        clear hq HPN HPQ HL3 HT3 HXB HPC HFR HOF HWL hy0 hy1 hy2 hy3 hy4 HIL HG2 HR5
        generalize stpE D2 b (.put (wrapB s x)) = E5 at *
        generalize stpD D2 b (.put (wrapB s x)) = D5 at *
        repeat (apply tree_take; (· rfl); (· rfl); (· (intro w' hb'; go_simp; try with_reducible rfl)); try simp only [Act.put, List.setIfInBounds_toArray, List.set_cons_zero, List.set_cons_succ])
        refine tree_one rfl (by rfl) (fun K hK => oper_of_list rfl ?_)
        refine wpList_store_row rfl 37 _ _ rfl w.heap.size (rdA T5 D5) rfl rfl 37 (rdA T2 D2) HQR.out (infoRD _ (rdA_size HP5.out.rd.n3 HP5.out.rd.m3)) HSZ3.out (rdA_one HP5.out.rd.n3 HP5.out.rd.m3) ?_
        refine only_end (Shut.out hK _ _ trivial ?_)
        clear hK K HQR HSZ3
        try simp only [Act.put]
        generalize yP.setRow w.heap.size (rdA T5 D5) = z5 at *
        refine tree_one rfl (by rfl) (fun K hK => ?_)
        go_simp
        refine Shut.out hK _ _ trivial ?_
        clear hK K
        try simp only [Act.put, List.setIfInBounds_toArray, List.set_cons_zero, List.set_cons_succ]
        refine tree_nil ?_
        by_cases he1 : E5 = 0
        rotate_left
        · have q1 : (E5 != 0) = true := bne_iff_ne.2 he1
          have HFIN := Lib.hid (HNO5.out he1)
          have HPQ := HP5
          clear he1 HOK5
          go_upto_region 16 with fail
          skip
          -- the results stored and told: region's tree .take 0 (.take 1 (.take 2 (.one 3 (.one 4 (.one 5 .nil))))); HPQ : Hid (PQ w a b T5 D5 s p c z5), the error EX; HFIN : Hid (putSD .. = D5 ∧ putSS .. = s ∧ putSE .. = EX)
          have HL3 : Hid (∀ w', Turns (fun k => k = w.heap.size + 2 ∨ k = w.heap.size + 3) z5 w' → w'.rangeAt w.heap.size 0 (rdA T5 D5).toList) := fun w' hb => row_rangeR (hb.keep HPQ.out.r3 (by rintro (h | h) <;> omega))
          have HL4 : Hid (∀ w', Turns (fun k => k = w.heap.size + 2 ∨ k = w.heap.size + 3) z5 w' → w'.rangeAt (w.heap.size + 1) 0 (rsA a b s p c).toList) := fun w' hb => row_rangeR (hb.keep HPQ.out.r4 (by rintro (h | h) <;> omega))
          refine wp_region_tree (Turns (fun k => k = w.heap.size + 2 ∨ k = w.heap.size + 3) z5) (.take 0 (.take 1 (.take 2 (.one 3 (.one 4 (.one 5 .nil)))))) (by kernel_rfl) (by kernel_rfl) (Turns.of_below (below_drew1 _ _)) ?_
          have hy0 : Below z5.heap.size z5 z5.drew := below_drew1 _ _
          refine tree_load rfl (by rfl) 37 _ rfl w.heap.size 0 rfl (rdA T5 D5) _ (fun w' hb => HL3.out w' hb) Tryz.underlying37 rfl (infoRD _ (rdA_size HPQ.out.rd.n3 HPQ.out.rd.m3)) ?_
          try simp only [Act.put, List.setIfInBounds_toArray, List.set_cons_zero, List.set_cons_succ]
          refine tree_load rfl (by rfl) 46 _ rfl (w.heap.size + 1) 0 rfl (rsA a b s p c) _ (fun w' hb => HL4.out w' hb) Tryz.underlying46 rfl (infoRS _ rfl) ?_
          try simp only [Act.put, List.setIfInBounds_toArray, List.set_cons_zero, List.set_cons_succ]
          repeat (apply tree_take; (· rfl); (· rfl); (· (intro w' hb'; go_simp; try with_reducible rfl)); try simp only [Act.put, List.setIfInBounds_toArray, List.set_cons_zero, List.set_cons_succ])
          have hq1 := HPQ.out.next hy0
          have ht0 : Turns (fun k => k = w.heap.size + 2 ∨ k = w.heap.size + 3) z5 z5.drew := Turns.of_below hy0
          clear HL3 HL4 HPQ hy0
          generalize z5.drew = wD at *
          refine tree_one rfl (by rfl) (fun K hK => oper_of_list rfl ?_)
          refine wpList_store_row rfl 37 _ _ rfl (w.heap.size + 2) (rdA T5 D5) rfl rfl 37 zD hq1.r6 (infoRD _ (rdA_size hq1.rd.n3 hq1.rd.m3)) (by rw [rdA_size hq1.rd.n3 hq1.rd.m3]; rfl) (rdA_one hq1.rd.n3 hq1.rd.m3) ?_
          have ht1 := ht0.trans (turns_setRow wD (w.heap.size + 2) (rdA T5 D5)) (fun k _ hk => .inl hk)
          refine only_end (Shut.out hK _ _ ht1 ?_)
          clear hK K
          try simp only [Act.put]
          have hr7 : (wD.setRow (w.heap.size + 2) (rdA T5 D5)).heap[w.heap.size + 3]? = some (.cells zS 46 (0, 0)) := by rw [setRow_other _ _ _ _ (by omega)]; exact hq1.r7
          refine tree_one rfl (by rfl) (fun K hK => oper_of_list rfl ?_)
          refine wpList_store_row rfl 46 _ _ rfl (w.heap.size + 3) (rsA a b s p c) rfl rfl 46 zS hr7 (infoRS _ rfl) rfl (rsA_one _ _ _ _ _) ?_
          have ht2 := ht1.trans (turns_setRow (wD.setRow (w.heap.size + 2) (rdA T5 D5)) (w.heap.size + 3) (rsA a b s p c)) (fun k _ hk => .inr hk)
          refine only_end (Shut.out hK _ _ ht2 ?_)
          clear hK K
          try simp only [Act.put]
          refine tree_one rfl (by rfl) (fun K hK => ?_)
          go_simp
          refine Shut.out hK _ _ ht2 ?_
          clear hK K
          try simp only [Act.put, List.setIfInBounds_toArray, List.set_cons_zero, List.set_cons_succ]
          refine tree_nil ?_
          go_wp2_with fail
          have hs1 : ((wD.setRow (w.heap.size + 2) (rdA T5 D5)).setRow (w.heap.size + 3) (rsA a b s p c)).heap[w.heap.size + 2]? = some (.cells (rdA T5 D5) 37 (0, 0)) := by rw [setRow_other _ _ _ _ (by omega)]; exact setRow_heap _ _ _ _ _ _ hq1.r6
          have hs2 := setRow_heap _ _ _ (rsA a b s p c) _ _ hr7
          have hk : KR 0 wD ((wD.setRow (w.heap.size + 2) (rdA T5 D5)).setRow (w.heap.size + 3) (rsA a b s p c)) := (kr_turn (turns_setRow _ _ _) hq1.r6 (by decide) (by decide)).trans (kr_turn (turns_setRow _ _ _) hr7 (by decide) (by decide))
          refine bodyPost_ret (results_cells2_tmp rfl _ _ _ _ _ _ _ _ _ _ _ _ rfl rfl hs1 hs2 Tryz.underlying37 rfl (infoRD _ (rdA_size hq1.rd.n3 hq1.rd.m3)) Tryz.underlying46 rfl (infoRS _ rfl)) rfl ?_
          obtain ⟨f1, f2, f3⟩ := HFIN.out
          unfold RPuP
          rw [f1, f2, f3]
          exact ⟨T5, p, c, rfl, hq1.rd.step hk, hq1.rb.step hk, below_setRow (below_setRow hq1.low (by omega) _) (by omega) _⟩
        have q1 : (E5 != 0) = false := by rw [bne_eq_false_iff_eq]; exact he1
        have HPN := Lib.hid (HOK5.out he1)
        have HPQ := HP5
        have HIL : Hid (b < D5.fs.length) := by show _ < _; rw [HPQ.out.rd.m3]; exact HI3.out
        have HOKF : Hid (fD D5 b).Ok := RDB.okF HPQ.out.rd HI3.out
        have HC : Hid (Calls Tryz.prog 34 #[.agg (rdA T5 D5), .int .i64 (b : Int)] z5 (ROut (stpD D5 b .sync) (stpE D5 b .sync) z5)) := rsync_in T5 D5 b HI3.out (fD D5 b) (HPQ.out.rd.fd HI3.out) z5 HPQ.out.rd
        clear he1 HOK5 HNO5 HP5
        go_upto_region 17 with fail
        clear q1
        skip
        -- one call of the reference's disk: world z5, boxes HPQ (disk T5, D5); HC : Hid (Calls .. z5 (ROut (stpD D5 i .sync) (stpE D5 i .sync) z5)); HPN: pending .sync :: ..; 18: the region behind it
        go_wp2_with (refine wpList_load_row rfl 37 _ rfl w.heap.size rfl 37 (rdA T5 D5) (0, 0) _ HPQ.out.r3 Tryz.underlying37 rfl (infoRD _ (rdA_size HPQ.out.rd.n3 HPQ.out.rd.m3)) ?_)
        refine HC.out.mono ?_
        rintro e y6 ⟨T6, rfl, hr, hb⟩
        have hq := HPQ.out.next hb
        have HQR := Lib.hid hq.r3
        have HSZ3 : Hid ((rdA T5 D5).size = (rdA T6 (stpD D5 b .sync)).size) := by show _ = _; rw [rdA_size hq.rd.n3 hq.rd.m3, rdA_size hr.n3 hr.m3]
        have HP6 := Lib.hid (hq.disk hr)
        have HOK6 : Hid (stpE D5 b .sync = 0 → Pnd d s a b x b [] (stpD D5 b .sync)) := fun h => HPN.out.ok h
        have HNO6 : Hid (¬ stpE D5 b .sync = 0 → putSD d s a b x = stpD D5 b .sync ∧ putSS d s a b x = s ∧ putSE d s a b x = stpE D5 b .sync) := fun h => HPN.out.no h
        clear hq hr hb HPQ HC HPN
        have HG6 : Hid (Gd (stpD D5 b .sync) (M5)) := HG5.out.synd HIL.out HOKF.out
        generalize stpE D5 b .sync = E6 at *
        generalize stpD D5 b .sync = D6 at *
        go_upto_region 18 with (refine wpList_store_row rfl 37 _ _ rfl w.heap.size (rdA T6 D6) rfl rfl 37 (rdA T5 D5) HQR.out (infoRD _ (rdA_size HP6.out.rd.n3 HP6.out.rd.m3)) HSZ3.out (rdA_one HP6.out.rd.n3 HP6.out.rd.m3) ?_)
        try simp only [Act.put, List.setIfInBounds_toArray, List.set_cons_zero, List.set_cons_succ]
        clear HQR HSZ3
        generalize y6.setRow w.heap.size (rdA T6 D6) = z6 at *
        by_cases he1 : E6 = 0
        rotate_left
        · have q1 : (E6 != 0) = true := bne_iff_ne.2 he1
          have HFIN := Lib.hid (HNO6.out he1)
          have HPQ := HP6
          clear he1 HOK6
          go_upto_region 19 with fail
          skip
          -- the results stored and told: region's tree .take 0 (.take 1 (.take 2 (.one 3 (.one 4 (.one 5 .nil))))); HPQ : Hid (PQ w a b T6 D6 s p c z6), the error EX; HFIN : Hid (putSD .. = D6 ∧ putSS .. = s ∧ putSE .. = EX)
          have HL3 : Hid (∀ w', Turns (fun k => k = w.heap.size + 2 ∨ k = w.heap.size + 3) z6 w' → w'.rangeAt w.heap.size 0 (rdA T6 D6).toList) := fun w' hb => row_rangeR (hb.keep HPQ.out.r3 (by rintro (h | h) <;> omega))
          have HL4 : Hid (∀ w', Turns (fun k => k = w.heap.size + 2 ∨ k = w.heap.size + 3) z6 w' → w'.rangeAt (w.heap.size + 1) 0 (rsA a b s p c).toList) := fun w' hb => row_rangeR (hb.keep HPQ.out.r4 (by rintro (h | h) <;> omega))
          refine wp_region_tree (Turns (fun k => k = w.heap.size + 2 ∨ k = w.heap.size + 3) z6) (.take 0 (.take 1 (.take 2 (.one 3 (.one 4 (.one 5 .nil)))))) (by kernel_rfl) (by kernel_rfl) (Turns.of_below (below_drew1 _ _)) ?_
          have hy0 : Below z6.heap.size z6 z6.drew := below_drew1 _ _
          refine tree_load rfl (by rfl) 37 _ rfl w.heap.size 0 rfl (rdA T6 D6) _ (fun w' hb => HL3.out w' hb) Tryz.underlying37 rfl (infoRD _ (rdA_size HPQ.out.rd.n3 HPQ.out.rd.m3)) ?_
          try simp only [Act.put, List.setIfInBounds_toArray, List.set_cons_zero, List.set_cons_succ]
          refine tree_load rfl (by rfl) 46 _ rfl (w.heap.size + 1) 0 rfl (rsA a b s p c) _ (fun w' hb => HL4.out w' hb) Tryz.underlying46 rfl (infoRS _ rfl) ?_
          try simp only [Act.put, List.setIfInBounds_toArray, List.set_cons_zero, List.set_cons_succ]
          repeat (apply tree_take; (· rfl); (· rfl); (· (intro w' hb'; go_simp; try with_reducible rfl)); try simp only [Act.put, List.setIfInBounds_toArray, List.set_cons_zero, List.set_cons_succ])
          have hq1 := HPQ.out.next hy0
          have ht0 : Turns (fun k => k = w.heap.size + 2 ∨ k = w.heap.size + 3) z6 z6.drew := Turns.of_below hy0
          clear HL3 HL4 HPQ hy0
          generalize z6.drew = wD at *
          refine tree_one rfl (by rfl) (fun K hK => oper_of_list rfl ?_)
          refine wpList_store_row rfl 37 _ _ rfl (w.heap.size + 2) (rdA T6 D6) rfl rfl 37 zD hq1.r6 (infoRD _ (rdA_size hq1.rd.n3 hq1.rd.m3)) (by rw [rdA_size hq1.rd.n3 hq1.rd.m3]; rfl) (rdA_one hq1.rd.n3 hq1.rd.m3) ?_
          have ht1 := ht0.trans (turns_setRow wD (w.heap.size + 2) (rdA T6 D6)) (fun k _ hk => .inl hk)
          refine only_end (Shut.out hK _ _ ht1 ?_)
          clear hK K
          try simp only [Act.put]
          have hr7 : (wD.setRow (w.heap.size + 2) (rdA T6 D6)).heap[w.heap.size + 3]? = some (.cells zS 46 (0, 0)) := by rw [setRow_other _ _ _ _ (by omega)]; exact hq1.r7
          refine tree_one rfl (by rfl) (fun K hK => oper_of_list rfl ?_)
          refine wpList_store_row rfl 46 _ _ rfl (w.heap.size + 3) (rsA a b s p c) rfl rfl 46 zS hr7 (infoRS _ rfl) rfl (rsA_one _ _ _ _ _) ?_
          have ht2 := ht1.trans (turns_setRow (wD.setRow (w.heap.size + 2) (rdA T6 D6)) (w.heap.size + 3) (rsA a b s p c)) (fun k _ hk => .inr hk)
          refine only_end (Shut.out hK _ _ ht2 ?_)
          clear hK K
          try simp only [Act.put]
          refine tree_one rfl (by rfl) (fun K hK => ?_)
          go_simp
          refine Shut.out hK _ _ ht2 ?_
          clear hK K
          try simp only [Act.put, List.setIfInBounds_toArray, List.set_cons_zero, List.set_cons_succ]
          refine tree_nil ?_
          go_wp2_with fail
          have hs1 : ((wD.setRow (w.heap.size + 2) (rdA T6 D6)).setRow (w.heap.size + 3) (rsA a b s p c)).heap[w.heap.size + 2]? = some (.cells (rdA T6 D6) 37 (0, 0)) := by rw [setRow_other _ _ _ _ (by omega)]; exact setRow_heap _ _ _ _ _ _ hq1.r6
          have hs2 := setRow_heap _ _ _ (rsA a b s p c) _ _ hr7
          have hk : KR 0 wD ((wD.setRow (w.heap.size + 2) (rdA T6 D6)).setRow (w.heap.size + 3) (rsA a b s p c)) := (kr_turn (turns_setRow _ _ _) hq1.r6 (by decide) (by decide)).trans (kr_turn (turns_setRow _ _ _) hr7 (by decide) (by decide))
          refine bodyPost_ret (results_cells2_tmp rfl _ _ _ _ _ _ _ _ _ _ _ _ rfl rfl hs1 hs2 Tryz.underlying37 rfl (infoRD _ (rdA_size hq1.rd.n3 hq1.rd.m3)) Tryz.underlying46 rfl (infoRS _ rfl)) rfl ?_
          obtain ⟨f1, f2, f3⟩ := HFIN.out
          unfold RPuP
          rw [f1, f2, f3]
          exact ⟨T6, p, c, rfl, hq1.rd.step hk, hq1.rb.step hk, below_setRow (below_setRow hq1.low (by omega) _) (by omega) _⟩
        have q1 : (E6 != 0) = false := by rw [bne_eq_false_iff_eq]; exact he1
        have HFIN0 := Lib.hid (HOK6.out he1).end
        have HPQ := HP6
        clear he1 HOK6 HNO6 HP6 HIL HOKF HG5 HG6
        obtain ⟨_, _, c2, c3, c4, hfz⟩ := rs_cells HPQ.out.r4
        have hq1 := HPQ.out.cell (s' := ⟨(b : Int), s.turn, s.body⟩) (p' := p) (c' := c) 2 (.int .i64 (b : Int)) rfl HPQ.out.rb
        have hq2 := hq1.cell (s' := ⟨(b : Int), TN, s.body⟩) (p' := p) (c' := c) 3 (.int .u64 (TN : Int)) rfl hq1.rb
        go_upto_region 22 with fail
        clear c2 c3 c4 hfz hq1 HPQ q1
        generalize (z6.setCell ⟨w.heap.size + 1, 2, none⟩ (.int .i64 (b : Int))).setCell ⟨w.heap.size + 1, 3, none⟩ (.int .u64 (TN : Int)) = z8 at *
        have HQ2 := Lib.hid hq2
        have hal := Below.allocs z8 (.cells #[] 5)
        have HO0 : Hid ((z8.alloc (.cells #[] 5)).ownsRow z8.heap.size 5 1 (.slice (some ⟨z8.heap.size, 0, none⟩) 0 0) 0 []) := own_made0 z8 _ _ _ _ rfl (Nat.le_refl _)
        have HXS := Lib.hid ((HX.out.below hq2.low).below hal)
        have HZS := Lib.hid hal.size
        have HZL := Lib.hid hal
        clear hq2 hal
        go_wp2_with (at_builtin; refine wpList_append_nx rfl _ _ 22 rfl (base := z8.heap.size) Tryz.underlying22 Frm.info8b rfl (by omega) rfl HO0.out rfl HXS.out (bytesV_one _) ⟨by omega, by omega⟩ HZS.out ?_)
        intro p9 c9 y9 ho9 hgr hnx _
        have hb9 := HZL.out.trans (own_below HO0.out hgr HZS.out)
        have hq3 := HQ2.out.next hb9
        try simp only [Nat.zero_add, List.nil_append] at ho9
        try simp only [Nat.zero_add]
        obtain ⟨_, _, _, _, c4, hfz⟩ := rs_cells hq3.r4
        have HPQ := Lib.hid (hq3.cell (s' := ⟨(b : Int), TN, x⟩) (p' := p9) (c' := c9) 4 (.slice p9 x.length c9) rfl (RBs.own ho9))
        have HFIN : Hid (putSD d s a b x = D6 ∧ putSS d s a b x = ⟨(b : Int), TN, x⟩ ∧ putSE d s a b x = 0) := by
          have h := HFIN0.out
          rw [HTN.out] at h
          exact h
        clear ho9 hgr hnx hb9 hq3 HQ2 HO0 HXS HZS HZL HFIN0
        go_upto_region 23 with fail
        clear c4 hfz
        generalize y9.setCell ⟨w.heap.size + 1, 4, none⟩ (.slice p9 x.length c9) = z9 at *
        skip
        -- the results stored and told: region's tree .take 0 (.take 1 (.one 2 (.one 3 (.one 4 .nil)))); HPQ : Hid (PQ w a b T6 D6 ⟨(b : Int), TN, x⟩ p9 c9 z9), the error EX; HFIN : Hid (putSD .. = D6 ∧ putSS .. = ⟨(b : Int), TN, x⟩ ∧ putSE .. = EX)
        have HL3 : Hid (∀ w', Turns (fun k => k = w.heap.size + 2 ∨ k = w.heap.size + 3) z9 w' → w'.rangeAt w.heap.size 0 (rdA T6 D6).toList) := fun w' hb => row_rangeR (hb.keep HPQ.out.r3 (by rintro (h | h) <;> omega))
        have HL4 : Hid (∀ w', Turns (fun k => k = w.heap.size + 2 ∨ k = w.heap.size + 3) z9 w' → w'.rangeAt (w.heap.size + 1) 0 (rsA a b ⟨(b : Int), TN, x⟩ p9 c9).toList) := fun w' hb => row_rangeR (hb.keep HPQ.out.r4 (by rintro (h | h) <;> omega))
        refine wp_region_tree (Turns (fun k => k = w.heap.size + 2 ∨ k = w.heap.size + 3) z9) (.take 0 (.take 1 (.one 2 (.one 3 (.one 4 .nil))))) (by kernel_rfl) (by kernel_rfl) (Turns.of_below (below_drew1 _ _)) ?_
        have hy0 : Below z9.heap.size z9 z9.drew := below_drew1 _ _
        refine tree_load rfl (by rfl) 37 _ rfl w.heap.size 0 rfl (rdA T6 D6) _ (fun w' hb => HL3.out w' hb) Tryz.underlying37 rfl (infoRD _ (rdA_size HPQ.out.rd.n3 HPQ.out.rd.m3)) ?_
        try simp only [Act.put, List.setIfInBounds_toArray, List.set_cons_zero, List.set_cons_succ]
        refine tree_load rfl (by rfl) 46 _ rfl (w.heap.size + 1) 0 rfl (rsA a b ⟨(b : Int), TN, x⟩ p9 c9) _ (fun w' hb => HL4.out w' hb) Tryz.underlying46 rfl (infoRS _ rfl) ?_
        try simp only [Act.put, List.setIfInBounds_toArray, List.set_cons_zero, List.set_cons_succ]
        repeat (apply tree_take; (· rfl); (· rfl); (· (intro w' hb'; go_simp; try with_reducible rfl)); try simp only [Act.put, List.setIfInBounds_toArray, List.set_cons_zero, List.set_cons_succ])
        have hq1 := HPQ.out.next hy0
        have ht0 : Turns (fun k => k = w.heap.size + 2 ∨ k = w.heap.size + 3) z9 z9.drew := Turns.of_below hy0
        clear HL3 HL4 HPQ hy0
        generalize z9.drew = wD at *
        refine tree_one rfl (by rfl) (fun K hK => oper_of_list rfl ?_)
        refine wpList_store_row rfl 37 _ _ rfl (w.heap.size + 2) (rdA T6 D6) rfl rfl 37 zD hq1.r6 (infoRD _ (rdA_size hq1.rd.n3 hq1.rd.m3)) (by rw [rdA_size hq1.rd.n3 hq1.rd.m3]; rfl) (rdA_one hq1.rd.n3 hq1.rd.m3) ?_
        have ht1 := ht0.trans (turns_setRow wD (w.heap.size + 2) (rdA T6 D6)) (fun k _ hk => .inl hk)
        refine only_end (Shut.out hK _ _ ht1 ?_)
        clear hK K
        try simp only [Act.put]
        have hr7 : (wD.setRow (w.heap.size + 2) (rdA T6 D6)).heap[w.heap.size + 3]? = some (.cells zS 46 (0, 0)) := by rw [setRow_other _ _ _ _ (by omega)]; exact hq1.r7
        refine tree_one rfl (by rfl) (fun K hK => oper_of_list rfl ?_)
        refine wpList_store_row rfl 46 _ _ rfl (w.heap.size + 3) (rsA a b ⟨(b : Int), TN, x⟩ p9 c9) rfl rfl 46 zS hr7 (infoRS _ rfl) rfl (rsA_one _ _ _ _ _) ?_
        have ht2 := ht1.trans (turns_setRow (wD.setRow (w.heap.size + 2) (rdA T6 D6)) (w.heap.size + 3) (rsA a b ⟨(b : Int), TN, x⟩ p9 c9)) (fun k _ hk => .inr hk)
        refine only_end (Shut.out hK _ _ ht2 ?_)
        clear hK K
        try simp only [Act.put]
        refine tree_one rfl (by rfl) (fun K hK => ?_)
        go_simp
        refine Shut.out hK _ _ ht2 ?_
        clear hK K
        try simp only [Act.put, List.setIfInBounds_toArray, List.set_cons_zero, List.set_cons_succ]
        refine tree_nil ?_
        go_wp2_with fail
        have hs1 : ((wD.setRow (w.heap.size + 2) (rdA T6 D6)).setRow (w.heap.size + 3) (rsA a b ⟨(b : Int), TN, x⟩ p9 c9)).heap[w.heap.size + 2]? = some (.cells (rdA T6 D6) 37 (0, 0)) := by rw [setRow_other _ _ _ _ (by omega)]; exact setRow_heap _ _ _ _ _ _ hq1.r6
        have hs2 := setRow_heap _ _ _ (rsA a b ⟨(b : Int), TN, x⟩ p9 c9) _ _ hr7
        have hk : KR 0 wD ((wD.setRow (w.heap.size + 2) (rdA T6 D6)).setRow (w.heap.size + 3) (rsA a b ⟨(b : Int), TN, x⟩ p9 c9)) := (kr_turn (turns_setRow _ _ _) hq1.r6 (by decide) (by decide)).trans (kr_turn (turns_setRow _ _ _) hr7 (by decide) (by decide))
        refine bodyPost_ret (results_cells2_tmp rfl _ _ _ _ _ _ _ _ _ _ _ _ rfl rfl hs1 hs2 Tryz.underlying37 rfl (infoRD _ (rdA_size hq1.rd.n3 hq1.rd.m3)) Tryz.underlying46 rfl (infoRS _ rfl)) rfl ?_
        obtain ⟨f1, f2, f3⟩ := HFIN.out
        unfold RPuP
        rw [f1, f2, f3]
        exact ⟨T6, p9, c9, rfl, hq1.rd.step hk, hq1.rb.step hk, below_setRow (below_setRow hq1.low (by omega) _) (by omega) _⟩
      · have q1 : decide ((0 : Int) < ((fD d b).now.length : Int)) = false := decide_eq_false (by omega)
        have q2 : decide (0 < (fD d b).now.length) = false := decide_eq_false hl
        go_wp2_with ((with_reducible refine wpAt 42 ?_); refine loadMidG rfl 34 _ rfl w.heap.size (b * 2) rfl (fA t (fD d b)) _ HRG5.out Tryz.underlying34 rfl (infoFi (fA t (fD d b)) rfl) ?_)
        refine (HUN.out w5 HB5.out).mono ?_
        rintro e w6 ⟨rfl, hb6⟩
        have HPQ := Lib.hid (HPQ5.out.next hb6)
        clear hb6 HPQ5 HUN HRG5 HB5 q1 q2
        by_cases hu : 0 < unitsAll (fD d b).steps
        · have q3 : decide ((0 : Int) < (unitsAll (fD d b).steps : Int)) = true := decide_eq_true (by omega)
          have q4 : decide (0 < unitsAll (fD d b).steps) = true := decide_eq_true hu
          have HFULL : Hid (full d b = true) := by show _ = _; unfold full; rw [decide_eq_true hu, Bool.or_true]
          skip
          -- file b holds something: cut, sync, put, sync
          have HAC : Hid (acts d b (wrapB s x) = [.cut, .sync, .put (wrapB s x), .sync]) := by show _ = _; unfold acts; rw [if_pos HFULL.out]
          rw [HAC.out] at HPN
          have HIL : Hid (b < d.fs.length) := by show _ < _; rw [HPQ.out.rd.m3]; exact HI3.out
          have HC : Hid (Calls Tryz.prog 63 #[.agg (rdA ts d), .int .i64 (b : Int), .int .i64 0] w6 (ROut (stpD d b .cut) (stpE d b .cut) w6)) := rcut_in ts d b HI3.out 0 (Nat.zero_le _) w6 HPQ.out.rd HG.out.used (by have := HFD.out b; omega)
          go_upto_region 8 with fail
          skip
          -- one call of the reference's disk: world w6, boxes HPQ (disk ts, d); HC : Hid (Calls .. w6 (ROut (stpD d i .cut) (stpE d i .cut) w6)); HPN: pending .cut :: ..; 9: the region behind it
          go_wp2_with (refine wpList_load_row rfl 37 _ rfl w.heap.size rfl 37 (rdA ts d) (0, 0) _ HPQ.out.r3 Tryz.underlying37 rfl (infoRD _ (rdA_size HPQ.out.rd.n3 HPQ.out.rd.m3)) ?_)
          refine HC.out.mono ?_
          rintro e y1 ⟨T1, rfl, hr, hb⟩
          have hq := HPQ.out.next hb
          have HQR := Lib.hid hq.r3
          have HSZ3 : Hid ((rdA ts d).size = (rdA T1 (stpD d b .cut)).size) := by show _ = _; rw [rdA_size hq.rd.n3 hq.rd.m3, rdA_size hr.n3 hr.m3]
          have HP1 := Lib.hid (hq.disk hr)
          have HOK1 : Hid (stpE d b .cut = 0 → Pnd d s a b x b [.sync, .put (wrapB s x), .sync] (stpD d b .cut)) := fun h => HPN.out.ok h
          have HNO1 : Hid (¬ stpE d b .cut = 0 → putSD d s a b x = stpD d b .cut ∧ putSS d s a b x = s ∧ putSE d s a b x = stpE d b .cut) := fun h => HPN.out.no h
          clear hq hr hb HPQ HC HPN
          have HG1 : Hid (Gd (stpD d b .cut) (N + 1)) := HG.out.did HIL.out (.cut 0)
          generalize stpE d b .cut = E1 at *
          generalize stpD d b .cut = D1 at *
          go_upto_region 9 with (refine wpList_store_row rfl 37 _ _ rfl w.heap.size (rdA T1 D1) rfl rfl 37 (rdA ts d) HQR.out (infoRD _ (rdA_size HP1.out.rd.n3 HP1.out.rd.m3)) HSZ3.out (rdA_one HP1.out.rd.n3 HP1.out.rd.m3) ?_)
          try simp only [Act.put, List.setIfInBounds_toArray, List.set_cons_zero, List.set_cons_succ]
          clear HQR HSZ3
          generalize y1.setRow w.heap.size (rdA T1 D1) = z1 at *
          by_cases he1 : E1 = 0
          rotate_left
          · have q1 : (E1 != 0) = true := bne_iff_ne.2 he1
            have HFIN := Lib.hid (HNO1.out he1)
            have HPQ := HP1
            clear he1 HOK1
            go_upto_region 10 with fail
            skip
            -- the results stored and told: region's tree .take 0 (.take 1 (.take 2 (.one 3 (.one 4 (.one 5 .nil))))); HPQ : Hid (PQ w a b T1 D1 s p c z1), the error EX; HFIN : Hid (putSD .. = D1 ∧ putSS .. = s ∧ putSE .. = EX)
            have HL3 : Hid (∀ w', Turns (fun k => k = w.heap.size + 2 ∨ k = w.heap.size + 3) z1 w' → w'.rangeAt w.heap.size 0 (rdA T1 D1).toList) := fun w' hb => row_rangeR (hb.keep HPQ.out.r3 (by rintro (h | h) <;> omega))
            have HL4 : Hid (∀ w', Turns (fun k => k = w.heap.size + 2 ∨ k = w.heap.size + 3) z1 w' → w'.rangeAt (w.heap.size + 1) 0 (rsA a b s p c).toList) := fun w' hb => row_rangeR (hb.keep HPQ.out.r4 (by rintro (h | h) <;> omega))
            refine wp_region_tree (Turns (fun k => k = w.heap.size + 2 ∨ k = w.heap.size + 3) z1) (.take 0 (.take 1 (.take 2 (.one 3 (.one 4 (.one 5 .nil)))))) (by kernel_rfl) (by kernel_rfl) (Turns.of_below (below_drew1 _ _)) ?_
            have hy0 : Below z1.heap.size z1 z1.drew := below_drew1 _ _
            refine tree_load rfl (by rfl) 37 _ rfl w.heap.size 0 rfl (rdA T1 D1) _ (fun w' hb => HL3.out w' hb) Tryz.underlying37 rfl (infoRD _ (rdA_size HPQ.out.rd.n3 HPQ.out.rd.m3)) ?_
            try simp only [Act.put, List.setIfInBounds_toArray, List.set_cons_zero, List.set_cons_succ]
            refine tree_load rfl (by rfl) 46 _ rfl (w.heap.size + 1) 0 rfl (rsA a b s p c) _ (fun w' hb => HL4.out w' hb) Tryz.underlying46 rfl (infoRS _ rfl) ?_
            try simp only [Act.put, List.setIfInBounds_toArray, List.set_cons_zero, List.set_cons_succ]
            repeat (apply tree_take; (· rfl); (· rfl); (· (intro w' hb'; go_simp; try with_reducible rfl)); try simp only [Act.put, List.setIfInBounds_toArray, List.set_cons_zero, List.set_cons_succ])
            have hq1 := HPQ.out.next hy0
            have ht0 : Turns (fun k => k = w.heap.size + 2 ∨ k = w.heap.size + 3) z1 z1.drew := Turns.of_below hy0
            clear HL3 HL4 HPQ hy0
            generalize z1.drew = wD at *
            refine tree_one rfl (by rfl) (fun K hK => oper_of_list rfl ?_)
            refine wpList_store_row rfl 37 _ _ rfl (w.heap.size + 2) (rdA T1 D1) rfl rfl 37 zD hq1.r6 (infoRD _ (rdA_size hq1.rd.n3 hq1.rd.m3)) (by rw [rdA_size hq1.rd.n3 hq1.rd.m3]; rfl) (rdA_one hq1.rd.n3 hq1.rd.m3) ?_
            have ht1 := ht0.trans (turns_setRow wD (w.heap.size + 2) (rdA T1 D1)) (fun k _ hk => .inl hk)
            refine only_end (Shut.out hK _ _ ht1 ?_)
            clear hK K
            try simp only [Act.put]
            have hr7 : (wD.setRow (w.heap.size + 2) (rdA T1 D1)).heap[w.heap.size + 3]? = some (.cells zS 46 (0, 0)) := by rw [setRow_other _ _ _ _ (by omega)]; exact hq1.r7
            refine tree_one rfl (by rfl) (fun K hK => oper_of_list rfl ?_)
            refine wpList_store_row rfl 46 _ _ rfl (w.heap.size + 3) (rsA a b s p c) rfl rfl 46 zS hr7 (infoRS _ rfl) rfl (rsA_one _ _ _ _ _) ?_
            have ht2 := ht1.trans (turns_setRow (wD.setRow (w.heap.size + 2) (rdA T1 D1)) (w.heap.size + 3) (rsA a b s p c)) (fun k _ hk => .inr hk)
            refine only_end (Shut.out hK _ _ ht2 ?_)
            clear hK K
            try simp only [Act.put]
            refine tree_one rfl (by rfl) (fun K hK => ?_)
            go_simp
            refine Shut.out hK _ _ ht2 ?_
            clear hK K
            try simp only [Act.put, List.setIfInBounds_toArray, List.set_cons_zero, List.set_cons_succ]
            refine tree_nil ?_
            go_wp2_with fail
            have hs1 : ((wD.setRow (w.heap.size + 2) (rdA T1 D1)).setRow (w.heap.size + 3) (rsA a b s p c)).heap[w.heap.size + 2]? = some (.cells (rdA T1 D1) 37 (0, 0)) := by rw [setRow_other _ _ _ _ (by omega)]; exact setRow_heap _ _ _ _ _ _ hq1.r6
            have hs2 := setRow_heap _ _ _ (rsA a b s p c) _ _ hr7
            have hk : KR 0 wD ((wD.setRow (w.heap.size + 2) (rdA T1 D1)).setRow (w.heap.size + 3) (rsA a b s p c)) := (kr_turn (turns_setRow _ _ _) hq1.r6 (by decide) (by decide)).trans (kr_turn (turns_setRow _ _ _) hr7 (by decide) (by decide))
            refine bodyPost_ret (results_cells2_tmp rfl _ _ _ _ _ _ _ _ _ _ _ _ rfl rfl hs1 hs2 Tryz.underlying37 rfl (infoRD _ (rdA_size hq1.rd.n3 hq1.rd.m3)) Tryz.underlying46 rfl (infoRS _ rfl)) rfl ?_
            obtain ⟨f1, f2, f3⟩ := HFIN.out
            unfold RPuP
            rw [f1, f2, f3]
            exact ⟨T1, p, c, rfl, hq1.rd.step hk, hq1.rb.step hk, below_setRow (below_setRow hq1.low (by omega) _) (by omega) _⟩
          have q1 : (E1 != 0) = false := by rw [bne_eq_false_iff_eq]; exact he1
          have HPN := Lib.hid (HOK1.out he1)
          have HPQ := HP1
          have HIL : Hid (b < D1.fs.length) := by show _ < _; rw [HPQ.out.rd.m3]; exact HI3.out
          have HOKF : Hid (fD D1 b).Ok := RDB.okF HPQ.out.rd HI3.out
          have HC : Hid (Calls Tryz.prog 34 #[.agg (rdA T1 D1), .int .i64 (b : Int)] z1 (ROut (stpD D1 b .sync) (stpE D1 b .sync) z1)) := rsync_in T1 D1 b HI3.out (fD D1 b) (HPQ.out.rd.fd HI3.out) z1 HPQ.out.rd
          clear he1 HOK1 HNO1 HP1
          go_upto_region 11 with fail
          clear q1
          skip
          -- one call of the reference's disk: world z1, boxes HPQ (disk T1, D1); HC : Hid (Calls .. z1 (ROut (stpD D1 i .sync) (stpE D1 i .sync) z1)); HPN: pending .sync :: ..; 12: the region behind it
          go_wp2_with (refine wpList_load_row rfl 37 _ rfl w.heap.size rfl 37 (rdA T1 D1) (0, 0) _ HPQ.out.r3 Tryz.underlying37 rfl (infoRD _ (rdA_size HPQ.out.rd.n3 HPQ.out.rd.m3)) ?_)
          refine HC.out.mono ?_
          rintro e y2 ⟨T2, rfl, hr, hb⟩
          have hq := HPQ.out.next hb
          have HQR := Lib.hid hq.r3
          have HSZ3 : Hid ((rdA T1 D1).size = (rdA T2 (stpD D1 b .sync)).size) := by show _ = _; rw [rdA_size hq.rd.n3 hq.rd.m3, rdA_size hr.n3 hr.m3]
          have HP2 := Lib.hid (hq.disk hr)
          have HOK3 : Hid (stpE D1 b .sync = 0 → Pnd d s a b x b [.put (wrapB s x), .sync] (stpD D1 b .sync)) := fun h => HPN.out.ok h
          have HNO3 : Hid (¬ stpE D1 b .sync = 0 → putSD d s a b x = stpD D1 b .sync ∧ putSS d s a b x = s ∧ putSE d s a b x = stpE D1 b .sync) := fun h => HPN.out.no h
          clear hq hr hb HPQ HC HPN
          have HG2 : Hid (Gd (stpD D1 b .sync) (N + 1)) := HG1.out.synd HIL.out HOKF.out
          generalize stpE D1 b .sync = E2 at *
          generalize stpD D1 b .sync = D2 at *
          go_upto_region 12 with (refine wpList_store_row rfl 37 _ _ rfl w.heap.size (rdA T2 D2) rfl rfl 37 (rdA T1 D1) HQR.out (infoRD _ (rdA_size HP2.out.rd.n3 HP2.out.rd.m3)) HSZ3.out (rdA_one HP2.out.rd.n3 HP2.out.rd.m3) ?_)
          try simp only [Act.put, List.setIfInBounds_toArray, List.set_cons_zero, List.set_cons_succ]
          clear HQR HSZ3
          generalize y2.setRow w.heap.size (rdA T2 D2) = z2 at *
          by_cases he1 : E2 = 0
          rotate_left
          · have q1 : (E2 != 0) = true := bne_iff_ne.2 he1
            have HFIN := Lib.hid (HNO3.out he1)
            have HPQ := HP2
            clear he1 HOK3
            go_upto_region 13 with fail
            skip
            -- the results stored and told: region's tree .take 0 (.take 1 (.take 2 (.one 3 (.one 4 (.one 5 .nil))))); HPQ : Hid (PQ w a b T2 D2 s p c z2), the error EX; HFIN : Hid (putSD .. = D2 ∧ putSS .. = s ∧ putSE .. = EX)
            have HL3 : Hid (∀ w', Turns (fun k => k = w.heap.size + 2 ∨ k = w.heap.size + 3) z2 w' → w'.rangeAt w.heap.size 0 (rdA T2 D2).toList) := fun w' hb => row_rangeR (hb.keep HPQ.out.r3 (by rintro (h | h) <;> omega))
            have HL4 : Hid (∀ w', Turns (fun k => k = w.heap.size + 2 ∨ k = w.heap.size + 3) z2 w' → w'.rangeAt (w.heap.size + 1) 0 (rsA a b s p c).toList) := fun w' hb => row_rangeR (hb.keep HPQ.out.r4 (by rintro (h | h) <;> omega))
            refine wp_region_tree (Turns (fun k => k = w.heap.size + 2 ∨ k = w.heap.size + 3) z2) (.take 0 (.take 1 (.take 2 (.one 3 (.one 4 (.one 5 .nil)))))) (by kernel_rfl) (by kernel_rfl) (Turns.of_below (below_drew1 _ _)) ?_
            have hy0 : Below z2.heap.size z2 z2.drew := below_drew1 _ _
            refine tree_load rfl (by rfl) 37 _ rfl w.heap.size 0 rfl (rdA T2 D2) _ (fun w' hb => HL3.out w' hb) Tryz.underlying37 rfl (infoRD _ (rdA_size HPQ.out.rd.n3 HPQ.out.rd.m3)) ?_
            try simp only [Act.put, List.setIfInBounds_toArray, List.set_cons_zero, List.set_cons_succ]
            refine tree_load rfl (by rfl) 46 _ rfl (w.heap.size + 1) 0 rfl (rsA a b s p c) _ (fun w' hb => HL4.out w' hb) Tryz.underlying46 rfl (infoRS _ rfl) ?_
            try simp only [Act.put, List.setIfInBounds_toArray, List.set_cons_zero, List.set_cons_succ]
            repeat (apply tree_take; (· rfl); (· rfl); (· (intro w' hb'; go_simp; try with_reducible rfl)); try simp only [Act.put, List.setIfInBounds_toArray, List.set_cons_zero, List.set_cons_succ])
            have hq1 := HPQ.out.next hy0
            have ht0 : Turns (fun k => k = w.heap.size + 2 ∨ k = w.heap.size + 3) z2 z2.drew := Turns.of_below hy0
            clear HL3 HL4 HPQ hy0
            generalize z2.drew = wD at *
            refine tree_one rfl (by rfl) (fun K hK => oper_of_list rfl ?_)
            refine wpList_store_row rfl 37 _ _ rfl (w.heap.size + 2) (rdA T2 D2) rfl rfl 37 zD hq1.r6 (infoRD _ (rdA_size hq1.rd.n3 hq1.rd.m3)) (by rw [rdA_size hq1.rd.n3 hq1.rd.m3]; rfl) (rdA_one hq1.rd.n3 hq1.rd.m3) ?_
            have ht1 := ht0.trans (turns_setRow wD (w.heap.size + 2) (rdA T2 D2)) (fun k _ hk => .inl hk)
            refine only_end (Shut.out hK _ _ ht1 ?_)
            clear hK K
            try simp only [Act.put]
            have hr7 : (wD.setRow (w.heap.size + 2) (rdA T2 D2)).heap[w.heap.size + 3]? = some (.cells zS 46 (0, 0)) := by rw [setRow_other _ _ _ _ (by omega)]; exact hq1.r7
            refine tree_one rfl (by rfl) (fun K hK => oper_of_list rfl ?_)
            refine wpList_store_row rfl 46 _ _ rfl (w.heap.size + 3) (rsA a b s p c) rfl rfl 46 zS hr7 (infoRS _ rfl) rfl (rsA_one _ _ _ _ _) ?_
            have ht2 := ht1.trans (turns_setRow (wD.setRow (w.heap.size + 2) (rdA T2 D2)) (w.heap.size + 3) (rsA a b s p c)) (fun k _ hk => .inr hk)
            refine only_end (Shut.out hK _ _ ht2 ?_)
            clear hK K
            try simp only [Act.put]
            refine tree_one rfl (by rfl) (fun K hK => ?_)
            go_simp
            refine Shut.out hK _ _ ht2 ?_
            clear hK K
            try simp only [Act.put, List.setIfInBounds_toArray, List.set_cons_zero, List.set_cons_succ]
            refine tree_nil ?_
            go_wp2_with fail
            have hs1 : ((wD.setRow (w.heap.size + 2) (rdA T2 D2)).setRow (w.heap.size + 3) (rsA a b s p c)).heap[w.heap.size + 2]? = some (.cells (rdA T2 D2) 37 (0, 0)) := by rw [setRow_other _ _ _ _ (by omega)]; exact setRow_heap _ _ _ _ _ _ hq1.r6
            have hs2 := setRow_heap _ _ _ (rsA a b s p c) _ _ hr7
            have hk : KR 0 wD ((wD.setRow (w.heap.size + 2) (rdA T2 D2)).setRow (w.heap.size + 3) (rsA a b s p c)) := (kr_turn (turns_setRow _ _ _) hq1.r6 (by decide) (by decide)).trans (kr_turn (turns_setRow _ _ _) hr7 (by decide) (by decide))
            refine bodyPost_ret (results_cells2_tmp rfl _ _ _ _ _ _ _ _ _ _ _ _ rfl rfl hs1 hs2 Tryz.underlying37 rfl (infoRD _ (rdA_size hq1.rd.n3 hq1.rd.m3)) Tryz.underlying46 rfl (infoRS _ rfl)) rfl ?_
            obtain ⟨f1, f2, f3⟩ := HFIN.out
            unfold RPuP
            rw [f1, f2, f3]
            exact ⟨T2, p, c, rfl, hq1.rd.step hk, hq1.rb.step hk, below_setRow (below_setRow hq1.low (by omega) _) (by omega) _⟩
          have q1 : (E2 != 0) = false := by rw [bne_eq_false_iff_eq]; exact he1
          have HPN := Lib.hid (HOK3.out he1)
          have HPQ := HP2
          clear he1 HOK3 HNO3 HP2 HIL HOKF HG1
          go_upto_region 14 with fail
          clear q1
          skip
          -- from region 14: put and sync; world z2, disk T2 D2
          have HIL : Hid (b < D2.fs.length) := by show _ < _; rw [HPQ.out.rd.m3]; exact HI3.out
          have HL3 : Hid (∀ w', Below z2.heap.size z2 w' → w'.rangeAt w.heap.size 0 (rdA T2 D2).toList) := fun w' hb => row_rangeR (Below.keepOld hb HPQ.out.r3)
          have HT3 : Hid (∀ w', Below z2.heap.size z2 w' → w'.cell? ⟨w.heap.size + 1, 3, none⟩ = some (.int .u64 (s.turn : Int))) := fun w' hb => (rs_cells (Below.keepOld hb HPQ.out.r4)).2.2.2.1
          have HXB := Lib.hid (HX.out.below HPQ.out.low)
          refine wp_region_eager_u (Below z2.heap.size z2) [0, 1, 2, 3, 4, 6] [(0, true), (1, true), (2, true), (3, true), (4, true), (6, true), (5, false), (7, false), (8, false), (9, false)] (.take 10 (.take 11 (.take 12 (.one 13 (.one 14 .nil))))) (by kernel_rfl) (by kernel_rfl) ?_ (eagerUOpen rfl ?_)
          · exact below_drew1 _ _
          have hy0 : Below z2.heap.size z2 z2.drew := below_drew1 _ _
          repeat (first
            | ((with_reducible refine eagerULoadAt 3 ?_); refine wpEagerU_load (by rfl) 37 _ rfl w.heap.size 0 rfl (rdA T2 D2) _ (fun w' hb => HL3.out w' hb) Tryz.underlying37 rfl (infoRD _ (rdA_size HPQ.out.rd.n3 HPQ.out.rd.m3)) ?_; (try simp only [Act.put, List.setIfInBounds_toArray, List.set_cons_zero, List.set_cons_succ]); (try refine eagerUOpen rfl ?_))
            | (apply wpEagerU_take; (· rfl); (· (intro w' hb'; have hk' := (HT3.out) w' hb'; go_split_ands; go_simp; try with_reducible rfl)); (try simp only [Act.put, List.setIfInBounds_toArray, List.set_cons_zero, List.set_cons_succ]); (try refine eagerUOpen rfl ?_))
            | (first | (apply wpEagerU_take; (· rfl); (· (intro w' hb'; go_simp; try with_reducible rfl)); (try simp only [Act.put, List.setIfInBounds_toArray, List.set_cons_zero, List.set_cons_succ]); (try refine eagerUOpen rfl ?_)) | (refine wpEagerU_skip (by rfl) ?_; (try simp only [Act.put, List.setIfInBounds_toArray, List.set_cons_zero, List.set_cons_succ]); (try refine eagerUOpen rfl ?_))))
          (refine wpEagerU_op (by rfl) (fun K hK => ?_); go_simp; (refine (number8 z2.drew TN HTL.out).mono ?_; rintro e y8 ⟨p8, c8, rfl, ho, hb⟩; have hy1 : Below z2.heap.size z2 y8 := hy0.trans hb; have HO8 := Lib.hid ho; clear ho hb); refine Shut.out hK _ _ (by assumption) ?_; clear hK K; (try simp only [Act.put, List.setIfInBounds_toArray, List.set_cons_zero, List.set_cons_succ]); (try refine eagerUOpen rfl ?_))
          have HB8 : Hid (z2.heap.size ≤ y8.heap.size) := hy1.size
          have HXS := Lib.hid (HXB.out.below hy1)
          refine wpEagerU_op (by rfl) (fun K hK => oper_of_list rfl ?_)
          refine wpList_append_nx rfl _ _ 22 rfl (base := z2.drew.heap.size) Tryz.underlying22 Frm.info8b rfl (by omega) rfl HO8.out rfl HXS.out (bytesV_one _) ⟨by omega, by omega⟩ HB8.out ?_
          intro p9 c9 y9 ho9 hgr hnx _
          have hb9 := own_below HO8.out hgr HB8.out
          have hy2 : Below z2.heap.size z2 y9 := hy1.trans (show Below z2.heap.size y8 y9 from hb9)
          have HFB : Hid (Bs y9 p9 (8 + x.length) c9 (be TN 8 ++ x)) := by
            rw [← bytesV_append] at ho9
            exact Cut.own_bs ho9
          have HWB : Hid (frame (be TN 8 ++ x) = wrapB s x) := by show _ = _; unfold wrapB; rw [HTN.out]
          have HWL : Hid ((wrapB s x).length ≤ 60000) := by show _ ≤ _; rw [← HWB.out, Frm.frame_length, List.length_append, be_length]; omega
          have HFR := Lib.hid (Frm.rbytes_any p9 (8 + x.length) c9 (be TN 8 ++ x) y9 HFB.out (by omega))
          rw [HWB.out] at HFR
          refine only_end (Shut.out hK _ _ hy2 ?_)
          clear hK K ho9 hgr hnx hb9 HO8 HXS HB8 HFB HWB
          (try simp only [Act.put, List.setIfInBounds_toArray, List.set_cons_zero, List.set_cons_succ]); (try refine eagerUOpen rfl ?_)
          (refine wpEagerU_op (by rfl) (fun K hK => ?_); go_simp; (refine HFR.out.mono ?_; rintro e yF ⟨pF, cF, rfl, ho, hb⟩; have HOF := Lib.hid (Cut.own_bs ho); have hy3 : Below z2.heap.size z2 yF := hy2.trans (hb.mono hy2.size); clear ho hb); refine Shut.out hK _ _ (by assumption) ?_; clear hK K; (try simp only [Act.put, List.setIfInBounds_toArray, List.set_cons_zero, List.set_cons_succ]); (try refine eagerUOpen rfl ?_))
          have HPC : Hid (Calls Tryz.prog 8 #[.agg (rdA T2 D2), .int .i64 (b : Int), .slice pF (wrapB s x).length cF] yF (ROut (stpD D2 b (.put (wrapB s x))) (stpE D2 b (.put (wrapB s x))) yF)) := rput_in T2 D2 b HI3.out pF (wrapB s x) cF yF (HPQ.out.rd.below hy3) HG2.out.used HOF.out HWL.out (by have := fewfd (i := b) HG2.out.few; omega)
          (refine wpEagerU_op (by rfl) (fun K hK => ?_); go_simp; (refine HPC.out.mono ?_; rintro e yP ⟨T5, rfl, hr, hb⟩; have HR5 := Lib.hid hr; have hy4 : Below z2.heap.size z2 yP := hy3.trans (hb.mono hy3.size); clear hr hb); refine Shut.out hK _ _ (by assumption) ?_; clear hK K; (try simp only [Act.put, List.setIfInBounds_toArray, List.set_cons_zero, List.set_cons_succ]); (try refine eagerUOpen rfl ?_))
          refine eagerUEnd ?_
          have hq := HPQ.out.next hy4
          have HQR := Lib.hid hq.r3
          have HSZ3 : Hid ((rdA T2 D2).size = (rdA T5 (stpD D2 b (.put (wrapB s x)))).size) := by show _ = _; rw [rdA_size hq.rd.n3 hq.rd.m3, rdA_size HR5.out.n3 HR5.out.m3]
          have HP5 := Lib.hid (hq.disk HR5.out)
          have HOK5 : Hid (stpE D2 b (.put (wrapB s x)) = 0 → Pnd d s a b x b [.sync] (stpD D2 b (.put (wrapB s x)))) := fun h => HPN.out.ok h
          have HNO5 : Hid (¬ stpE D2 b (.put (wrapB s x)) = 0 → putSD d s a b x = stpD D2 b (.put (wrapB s x)) ∧ putSS d s a b x = s ∧ putSE d s a b x = stpE D2 b (.put (wrapB s x))) := fun h => HPN.out.no h
          obtain ⟨M5, HG5⟩ : ∃ M, Hid (Gd (stpD D2 b (.put (wrapB s x))) M) := ⟨_, HG2.out.did HIL.out _⟩
          clear hq HPN HPQ HL3 HT3 HXB HPC HFR HOF HWL hy0 hy1 hy2 hy3 hy4 HIL HG2 HR5
          generalize stpE D2 b (.put (wrapB s x)) = E5 at *
          generalize stpD D2 b (.put (wrapB s x)) = D5 at *
          repeat (apply tree_take; (· rfl); (· rfl); (· (intro w' hb'; go_simp; try with_reducible rfl)); try simp only [Act.put, List.setIfInBounds_toArray, List.set_cons_zero, List.set_cons_succ])
          refine tree_one rfl (by rfl) (fun K hK => oper_of_list rfl ?_)
          refine wpList_store_row rfl 37 _ _ rfl w.heap.size (rdA T5 D5) rfl rfl 37 (rdA T2 D2) HQR.out (infoRD _ (rdA_size HP5.out.rd.n3 HP5.out.rd.m3)) HSZ3.out (rdA_one HP5.out.rd.n3 HP5.out.rd.m3) ?_
          refine only_end (Shut.out hK _ _ trivial ?_)
          clear hK K HQR HSZ3
          try simp only [Act.put]
          generalize yP.setRow w.heap.size (rdA T5 D5) = z5 at *
          refine tree_one rfl (by rfl) (fun K hK => ?_)
          go_simp
          refine Shut.out hK _ _ trivial ?_
          clear hK K
          try simp only [Act.put, List.setIfInBounds_toArray, List.set_cons_zero, List.set_cons_succ]
          refine tree_nil ?_
          by_cases he1 : E5 = 0
          rotate_left
          · have q1 : (E5 != 0) = true := bne_iff_ne.2 he1
            have HFIN := Lib.hid (HNO5.out he1)
            have HPQ := HP5
            clear he1 HOK5
            go_upto_region 16 with fail
            skip
            -- the results stored and told: region's tree .take 0 (.take 1 (.take 2 (.one 3 (.one 4 (.one 5 .nil))))); HPQ : Hid (PQ w a b T5 D5 s p c z5), the error EX; HFIN : Hid (putSD .. = D5 ∧ putSS .. = s ∧ putSE .. = EX)
            have HL3 : Hid (∀ w', Turns (fun k => k = w.heap.size + 2 ∨ k = w.heap.size + 3) z5 w' → w'.rangeAt w.heap.size 0 (rdA T5 D5).toList) := fun w' hb => row_rangeR (hb.keep HPQ.out.r3 (by rintro (h | h) <;> omega))
            have HL4 : Hid (∀ w', Turns (fun k => k = w.heap.size + 2 ∨ k = w.heap.size + 3) z5 w' → w'.rangeAt (w.heap.size + 1) 0 (rsA a b s p c).toList) := fun w' hb => row_rangeR (hb.keep HPQ.out.r4 (by rintro (h | h) <;> omega))
            refine wp_region_tree (Turns (fun k => k = w.heap.size + 2 ∨ k = w.heap.size + 3) z5) (.take 0 (.take 1 (.take 2 (.one 3 (.one 4 (.one 5 .nil)))))) (by kernel_rfl) (by kernel_rfl) (Turns.of_below (below_drew1 _ _)) ?_
            have hy0 : Below z5.heap.size z5 z5.drew := below_drew1 _ _
            refine tree_load rfl (by rfl) 37 _ rfl w.heap.size 0 rfl (rdA T5 D5) _ (fun w' hb => HL3.out w' hb) Tryz.underlying37 rfl (infoRD _ (rdA_size HPQ.out.rd.n3 HPQ.out.rd.m3)) ?_
            try simp only [Act.put, List.setIfInBounds_toArray, List.set_cons_zero, List.set_cons_succ]
            refine tree_load rfl (by rfl) 46 _ rfl (w.heap.size + 1) 0 rfl (rsA a b s p c) _ (fun w' hb => HL4.out w' hb) Tryz.underlying46 rfl (infoRS _ rfl) ?_
            try simp only [Act.put, List.setIfInBounds_toArray, List.set_cons_zero, List.set_cons_succ]
            repeat (apply tree_take; (· rfl); (· rfl); (· (intro w' hb'; go_simp; try with_reducible rfl)); try simp only [Act.put, List.setIfInBounds_toArray, List.set_cons_zero, List.set_cons_succ])
            have hq1 := HPQ.out.next hy0
            have ht0 : Turns (fun k => k = w.heap.size + 2 ∨ k = w.heap.size + 3) z5 z5.drew := Turns.of_below hy0
            clear HL3 HL4 HPQ hy0
            generalize z5.drew = wD at *
            refine tree_one rfl (by rfl) (fun K hK => oper_of_list rfl ?_)
            refine wpList_store_row rfl 37 _ _ rfl (w.heap.size + 2) (rdA T5 D5) rfl rfl 37 zD hq1.r6 (infoRD _ (rdA_size hq1.rd.n3 hq1.rd.m3)) (by rw [rdA_size hq1.rd.n3 hq1.rd.m3]; rfl) (rdA_one hq1.rd.n3 hq1.rd.m3) ?_
            have ht1 := ht0.trans (turns_setRow wD (w.heap.size + 2) (rdA T5 D5)) (fun k _ hk => .inl hk)
            refine only_end (Shut.out hK _ _ ht1 ?_)
            clear hK K
            try simp only [Act.put]
            have hr7 : (wD.setRow (w.heap.size + 2) (rdA T5 D5)).heap[w.heap.size + 3]? = some (.cells zS 46 (0, 0)) := by rw [setRow_other _ _ _ _ (by omega)]; exact hq1.r7
            refine tree_one rfl (by rfl) (fun K hK => oper_of_list rfl ?_)
            refine wpList_store_row rfl 46 _ _ rfl (w.heap.size + 3) (rsA a b s p c) rfl rfl 46 zS hr7 (infoRS _ rfl) rfl (rsA_one _ _ _ _ _) ?_
            have ht2 := ht1.trans (turns_setRow (wD.setRow (w.heap.size + 2) (rdA T5 D5)) (w.heap.size + 3) (rsA a b s p c)) (fun k _ hk => .inr hk)
            refine only_end (Shut.out hK _ _ ht2 ?_)
            clear hK K
            try simp only [Act.put]
            refine tree_one rfl (by rfl) (fun K hK => ?_)
            go_simp
            refine Shut.out hK _ _ ht2 ?_
            clear hK K
            try simp only [Act.put, List.setIfInBounds_toArray, List.set_cons_zero, List.set_cons_succ]
            refine tree_nil ?_
            go_wp2_with fail
            have hs1 : ((wD.setRow (w.heap.size + 2) (rdA T5 D5)).setRow (w.heap.size + 3) (rsA a b s p c)).heap[w.heap.size + 2]? = some (.cells (rdA T5 D5) 37 (0, 0)) := by rw [setRow_other _ _ _ _ (by omega)]; exact setRow_heap _ _ _ _ _ _ hq1.r6
            have hs2 := setRow_heap _ _ _ (rsA a b s p c) _ _ hr7
            have hk : KR 0 wD ((wD.setRow (w.heap.size + 2) (rdA T5 D5)).setRow (w.heap.size + 3) (rsA a b s p c)) := (kr_turn (turns_setRow _ _ _) hq1.r6 (by decide) (by decide)).trans (kr_turn (turns_setRow _ _ _) hr7 (by decide) (by decide))
            refine bodyPost_ret (results_cells2_tmp rfl _ _ _ _ _ _ _ _ _ _ _ _ rfl rfl hs1 hs2 Tryz.underlying37 rfl (infoRD _ (rdA_size hq1.rd.n3 hq1.rd.m3)) Tryz.underlying46 rfl (infoRS _ rfl)) rfl ?_
            obtain ⟨f1, f2, f3⟩ := HFIN.out
            unfold RPuP
            rw [f1, f2, f3]
            exact ⟨T5, p, c, rfl, hq1.rd.step hk, hq1.rb.step hk, below_setRow (below_setRow hq1.low (by omega) _) (by omega) _⟩
          have q1 : (E5 != 0) = false := by rw [bne_eq_false_iff_eq]; exact he1
          have HPN := Lib.hid (HOK5.out he1)
          have HPQ := HP5
          have HIL : Hid (b < D5.fs.length) := by show _ < _; rw [HPQ.out.rd.m3]; exact HI3.out
          have HOKF : Hid (fD D5 b).Ok := RDB.okF HPQ.out.rd HI3.out
          have HC : Hid (Calls Tryz.prog 34 #[.agg (rdA T5 D5), .int .i64 (b : Int)] z5 (ROut (stpD D5 b .sync) (stpE D5 b .sync) z5)) := rsync_in T5 D5 b HI3.out (fD D5 b) (HPQ.out.rd.fd HI3.out) z5 HPQ.out.rd
          clear he1 HOK5 HNO5 HP5
          go_upto_region 17 with fail
          clear q1
          skip
          -- one call of the reference's disk: world z5, boxes HPQ (disk T5, D5); HC : Hid (Calls .. z5 (ROut (stpD D5 i .sync) (stpE D5 i .sync) z5)); HPN: pending .sync :: ..; 18: the region behind it
          go_wp2_with (refine wpList_load_row rfl 37 _ rfl w.heap.size rfl 37 (rdA T5 D5) (0, 0) _ HPQ.out.r3 Tryz.underlying37 rfl (infoRD _ (rdA_size HPQ.out.rd.n3 HPQ.out.rd.m3)) ?_)
          refine HC.out.mono ?_
          rintro e y6 ⟨T6, rfl, hr, hb⟩
          have hq := HPQ.out.next hb
          have HQR := Lib.hid hq.r3
          have HSZ3 : Hid ((rdA T5 D5).size = (rdA T6 (stpD D5 b .sync)).size) := by show _ = _; rw [rdA_size hq.rd.n3 hq.rd.m3, rdA_size hr.n3 hr.m3]
          have HP6 := Lib.hid (hq.disk hr)
          have HOK6 : Hid (stpE D5 b .sync = 0 → Pnd d s a b x b [] (stpD D5 b .sync)) := fun h => HPN.out.ok h
          have HNO6 : Hid (¬ stpE D5 b .sync = 0 → putSD d s a b x = stpD D5 b .sync ∧ putSS d s a b x = s ∧ putSE d s a b x = stpE D5 b .sync) := fun h => HPN.out.no h
          clear hq hr hb HPQ HC HPN
          have HG6 : Hid (Gd (stpD D5 b .sync) (M5)) := HG5.out.synd HIL.out HOKF.out
          generalize stpE D5 b .sync = E6 at *
          generalize stpD D5 b .sync = D6 at *
          go_upto_region 18 with (refine wpList_store_row rfl 37 _ _ rfl w.heap.size (rdA T6 D6) rfl rfl 37 (rdA T5 D5) HQR.out (infoRD _ (rdA_size HP6.out.rd.n3 HP6.out.rd.m3)) HSZ3.out (rdA_one HP6.out.rd.n3 HP6.out.rd.m3) ?_)
          try simp only [Act.put, List.setIfInBounds_toArray, List.set_cons_zero, List.set_cons_succ]
          clear HQR HSZ3
          generalize y6.setRow w.heap.size (rdA T6 D6) = z6 at *
          by_cases he1 : E6 = 0
          rotate_left
          · have q1 : (E6 != 0) = true := bne_iff_ne.2 he1
            have HFIN := Lib.hid (HNO6.out he1)
            have HPQ := HP6
            clear he1 HOK6
            go_upto_region 19 with fail
            skip
            -- the results stored and told: region's tree .take 0 (.take 1 (.take 2 (.one 3 (.one 4 (.one 5 .nil))))); HPQ : Hid (PQ w a b T6 D6 s p c z6), the error EX; HFIN : Hid (putSD .. = D6 ∧ putSS .. = s ∧ putSE .. = EX)
            have HL3 : Hid (∀ w', Turns (fun k => k = w.heap.size + 2 ∨ k = w.heap.size + 3) z6 w' → w'.rangeAt w.heap.size 0 (rdA T6 D6).toList) := fun w' hb => row_rangeR (hb.keep HPQ.out.r3 (by rintro (h | h) <;> omega))
            have HL4 : Hid (∀ w', Turns (fun k => k = w.heap.size + 2 ∨ k = w.heap.size + 3) z6 w' → w'.rangeAt (w.heap.size + 1) 0 (rsA a b s p c).toList) := fun w' hb => row_rangeR (hb.keep HPQ.out.r4 (by rintro (h | h) <;> omega))
            refine wp_region_tree (Turns (fun k => k = w.heap.size + 2 ∨ k = w.heap.size + 3) z6) (.take 0 (.take 1 (.take 2 (.one 3 (.one 4 (.one 5 .nil)))))) (by kernel_rfl) (by kernel_rfl) (Turns.of_below (below_drew1 _ _)) ?_
            have hy0 : Below z6.heap.size z6 z6.drew := below_drew1 _ _
            refine tree_load rfl (by rfl) 37 _ rfl w.heap.size 0 rfl (rdA T6 D6) _ (fun w' hb => HL3.out w' hb) Tryz.underlying37 rfl (infoRD _ (rdA_size HPQ.out.rd.n3 HPQ.out.rd.m3)) ?_
            try simp only [Act.put, List.setIfInBounds_toArray, List.set_cons_zero, List.set_cons_succ]
            refine tree_load rfl (by rfl) 46 _ rfl (w.heap.size + 1) 0 rfl (rsA a b s p c) _ (fun w' hb => HL4.out w' hb) Tryz.underlying46 rfl (infoRS _ rfl) ?_
            try simp only [Act.put, List.setIfInBounds_toArray, List.set_cons_zero, List.set_cons_succ]
            repeat (apply tree_take; (· rfl); (· rfl); (· (intro w' hb'; go_simp; try with_reducible rfl)); try simp only [Act.put, List.setIfInBounds_toArray, List.set_cons_zero, List.set_cons_succ])
            have hq1 := HPQ.out.next hy0
            have ht0 : Turns (fun k => k = w.heap.size + 2 ∨ k = w.heap.size + 3) z6 z6.drew := Turns.of_below hy0
            clear HL3 HL4 HPQ hy0
            generalize z6.drew = wD at *
            refine tree_one rfl (by rfl) (fun K hK => oper_of_list rfl ?_)
            refine wpList_store_row rfl 37 _ _ rfl (w.heap.size + 2) (rdA T6 D6) rfl rfl 37 zD hq1.r6 (infoRD _ (rdA_size hq1.rd.n3 hq1.rd.m3)) (by rw [rdA_size hq1.rd.n3 hq1.rd.m3]; rfl) (rdA_one hq1.rd.n3 hq1.rd.m3) ?_
            have ht1 := ht0.trans (turns_setRow wD (w.heap.size + 2) (rdA T6 D6)) (fun k _ hk => .inl hk)
            refine only_end (Shut.out hK _ _ ht1 ?_)
            clear hK K
            try simp only [Act.put]
            have hr7 : (wD.setRow (w.heap.size + 2) (rdA T6 D6)).heap[w.heap.size + 3]? = some (.cells zS 46 (0, 0)) := by rw [setRow_other _ _ _ _ (by omega)]; exact hq1.r7
            refine tree_one rfl (by rfl) (fun K hK => oper_of_list rfl ?_)
            refine wpList_store_row rfl 46 _ _ rfl (w.heap.size + 3) (rsA a b s p c) rfl rfl 46 zS hr7 (infoRS _ rfl) rfl (rsA_one _ _ _ _ _) ?_
            have ht2 := ht1.trans (turns_setRow (wD.setRow (w.heap.size + 2) (rdA T6 D6)) (w.heap.size + 3) (rsA a b s p c)) (fun k _ hk => .inr hk)
            refine only_end (Shut.out hK _ _ ht2 ?_)
            clear hK K
            try simp only [Act.put]
            refine tree_one rfl (by rfl) (fun K hK => ?_)
            go_simp
            refine Shut.out hK _ _ ht2 ?_
            clear hK K
            try simp only [Act.put, List.setIfInBounds_toArray, List.set_cons_zero, List.set_cons_succ]
            refine tree_nil ?_
            go_wp2_with fail
            have hs1 : ((wD.setRow (w.heap.size + 2) (rdA T6 D6)).setRow (w.heap.size + 3) (rsA a b s p c)).heap[w.heap.size + 2]? = some (.cells (rdA T6 D6) 37 (0, 0)) := by rw [setRow_other _ _ _ _ (by omega)]; exact setRow_heap _ _ _ _ _ _ hq1.r6
            have hs2 := setRow_heap _ _ _ (rsA a b s p c) _ _ hr7
            have hk : KR 0 wD ((wD.setRow (w.heap.size + 2) (rdA T6 D6)).setRow (w.heap.size + 3) (rsA a b s p c)) := (kr_turn (turns_setRow _ _ _) hq1.r6 (by decide) (by decide)).trans (kr_turn (turns_setRow _ _ _) hr7 (by decide) (by decide))
            refine bodyPost_ret (results_cells2_tmp rfl _ _ _ _ _ _ _ _ _ _ _ _ rfl rfl hs1 hs2 Tryz.underlying37 rfl (infoRD _ (rdA_size hq1.rd.n3 hq1.rd.m3)) Tryz.underlying46 rfl (infoRS _ rfl)) rfl ?_
            obtain ⟨f1, f2, f3⟩ := HFIN.out
            unfold RPuP
            rw [f1, f2, f3]
            exact ⟨T6, p, c, rfl, hq1.rd.step hk, hq1.rb.step hk, below_setRow (below_setRow hq1.low (by omega) _) (by omega) _⟩
          have q1 : (E6 != 0) = false := by rw [bne_eq_false_iff_eq]; exact he1
          have HFIN0 := Lib.hid (HOK6.out he1).end
          have HPQ := HP6
          clear he1 HOK6 HNO6 HP6 HIL HOKF HG5 HG6
          obtain ⟨_, _, c2, c3, c4, hfz⟩ := rs_cells HPQ.out.r4
          have hq1 := HPQ.out.cell (s' := ⟨(b : Int), s.turn, s.body⟩) (p' := p) (c' := c) 2 (.int .i64 (b : Int)) rfl HPQ.out.rb
          have hq2 := hq1.cell (s' := ⟨(b : Int), TN, s.body⟩) (p' := p) (c' := c) 3 (.int .u64 (TN : Int)) rfl hq1.rb
          go_upto_region 22 with fail
          clear c2 c3 c4 hfz hq1 HPQ q1
          generalize (z6.setCell ⟨w.heap.size + 1, 2, none⟩ (.int .i64 (b : Int))).setCell ⟨w.heap.size + 1, 3, none⟩ (.int .u64 (TN : Int)) = z8 at *
          have HQ2 := Lib.hid hq2
          have hal := Below.allocs z8 (.cells #[] 5)
          have HO0 : Hid ((z8.alloc (.cells #[] 5)).ownsRow z8.heap.size 5 1 (.slice (some ⟨z8.heap.size, 0, none⟩) 0 0) 0 []) := own_made0 z8 _ _ _ _ rfl (Nat.le_refl _)
          have HXS := Lib.hid ((HX.out.below hq2.low).below hal)
          have HZS := Lib.hid hal.size
          have HZL := Lib.hid hal
          clear hq2 hal
          go_wp2_with (at_builtin; refine wpList_append_nx rfl _ _ 22 rfl (base := z8.heap.size) Tryz.underlying22 Frm.info8b rfl (by omega) rfl HO0.out rfl HXS.out (bytesV_one _) ⟨by omega, by omega⟩ HZS.out ?_)
          intro p9 c9 y9 ho9 hgr hnx _
          have hb9 := HZL.out.trans (own_below HO0.out hgr HZS.out)
          have hq3 := HQ2.out.next hb9
          try simp only [Nat.zero_add, List.nil_append] at ho9
          try simp only [Nat.zero_add]
          obtain ⟨_, _, _, _, c4, hfz⟩ := rs_cells hq3.r4
          have HPQ := Lib.hid (hq3.cell (s' := ⟨(b : Int), TN, x⟩) (p' := p9) (c' := c9) 4 (.slice p9 x.length c9) rfl (RBs.own ho9))
          have HFIN : Hid (putSD d s a b x = D6 ∧ putSS d s a b x = ⟨(b : Int), TN, x⟩ ∧ putSE d s a b x = 0) := by
            have h := HFIN0.out
            rw [HTN.out] at h
            exact h
          clear ho9 hgr hnx hb9 hq3 HQ2 HO0 HXS HZS HZL HFIN0
          go_upto_region 23 with fail
          clear c4 hfz
          generalize y9.setCell ⟨w.heap.size + 1, 4, none⟩ (.slice p9 x.length c9) = z9 at *
          skip
          -- the results stored and told: region's tree .take 0 (.take 1 (.one 2 (.one 3 (.one 4 .nil)))); HPQ : Hid (PQ w a b T6 D6 ⟨(b : Int), TN, x⟩ p9 c9 z9), the error EX; HFIN : Hid (putSD .. = D6 ∧ putSS .. = ⟨(b : Int), TN, x⟩ ∧ putSE .. = EX)
          have HL3 : Hid (∀ w', Turns (fun k => k = w.heap.size + 2 ∨ k = w.heap.size + 3) z9 w' → w'.rangeAt w.heap.size 0 (rdA T6 D6).toList) := fun w' hb => row_rangeR (hb.keep HPQ.out.r3 (by rintro (h | h) <;> omega))
          have HL4 : Hid (∀ w', Turns (fun k => k = w.heap.size + 2 ∨ k = w.heap.size + 3) z9 w' → w'.rangeAt (w.heap.size + 1) 0 (rsA a b ⟨(b : Int), TN, x⟩ p9 c9).toList) := fun w' hb => row_rangeR (hb.keep HPQ.out.r4 (by rintro (h | h) <;> omega))
          refine wp_region_tree (Turns (fun k => k = w.heap.size + 2 ∨ k = w.heap.size + 3) z9) (.take 0 (.take 1 (.one 2 (.one 3 (.one 4 .nil))))) (by kernel_rfl) (by kernel_rfl) (Turns.of_below (below_drew1 _ _)) ?_
          have hy0 : Below z9.heap.size z9 z9.drew := below_drew1 _ _
          refine tree_load rfl (by rfl) 37 _ rfl w.heap.size 0 rfl (rdA T6 D6) _ (fun w' hb => HL3.out w' hb) Tryz.underlying37 rfl (infoRD _ (rdA_size HPQ.out.rd.n3 HPQ.out.rd.m3)) ?_
          try simp only [Act.put, List.setIfInBounds_toArray, List.set_cons_zero, List.set_cons_succ]
          refine tree_load rfl (by rfl) 46 _ rfl (w.heap.size + 1) 0 rfl (rsA a b ⟨(b : Int), TN, x⟩ p9 c9) _ (fun w' hb => HL4.out w' hb) Tryz.underlying46 rfl (infoRS _ rfl) ?_
          try simp only [Act.put, List.setIfInBounds_toArray, List.set_cons_zero, List.set_cons_succ]
          repeat (apply tree_take; (· rfl); (· rfl); (· (intro w' hb'; go_simp; try with_reducible rfl)); try simp only [Act.put, List.setIfInBounds_toArray, List.set_cons_zero, List.set_cons_succ])
          have hq1 := HPQ.out.next hy0
          have ht0 : Turns (fun k => k = w.heap.size + 2 ∨ k = w.heap.size + 3) z9 z9.drew := Turns.of_below hy0
          clear HL3 HL4 HPQ hy0
          generalize z9.drew = wD at *
          refine tree_one rfl (by rfl) (fun K hK => oper_of_list rfl ?_)
          refine wpList_store_row rfl 37 _ _ rfl (w.heap.size + 2) (rdA T6 D6) rfl rfl 37 zD hq1.r6 (infoRD _ (rdA_size hq1.rd.n3 hq1.rd.m3)) (by rw [rdA_size hq1.rd.n3 hq1.rd.m3]; rfl) (rdA_one hq1.rd.n3 hq1.rd.m3) ?_
          have ht1 := ht0.trans (turns_setRow wD (w.heap.size + 2) (rdA T6 D6)) (fun k _ hk => .inl hk)
          refine only_end (Shut.out hK _ _ ht1 ?_)
          clear hK K
          try simp only [Act.put]
          have hr7 : (wD.setRow (w.heap.size + 2) (rdA T6 D6)).heap[w.heap.size + 3]? = some (.cells zS 46 (0, 0)) := by rw [setRow_other _ _ _ _ (by omega)]; exact hq1.r7
          refine tree_one rfl (by rfl) (fun K hK => oper_of_list rfl ?_)
          refine wpList_store_row rfl 46 _ _ rfl (w.heap.size + 3) (rsA a b ⟨(b : Int), TN, x⟩ p9 c9) rfl rfl 46 zS hr7 (infoRS _ rfl) rfl (rsA_one _ _ _ _ _) ?_
          have ht2 := ht1.trans (turns_setRow (wD.setRow (w.heap.size + 2) (rdA T6 D6)) (w.heap.size + 3) (rsA a b ⟨(b : Int), TN, x⟩ p9 c9)) (fun k _ hk => .inr hk)
          refine only_end (Shut.out hK _ _ ht2 ?_)
          clear hK K
          try simp only [Act.put]
          refine tree_one rfl (by rfl) (fun K hK => ?_)
          go_simp
          refine Shut.out hK _ _ ht2 ?_
          clear hK K
          try simp only [Act.put, List.setIfInBounds_toArray, List.set_cons_zero, List.set_cons_succ]
          refine tree_nil ?_
          go_wp2_with fail
          have hs1 : ((wD.setRow (w.heap.size + 2) (rdA T6 D6)).setRow (w.heap.size + 3) (rsA a b ⟨(b : Int), TN, x⟩ p9 c9)).heap[w.heap.size + 2]? = some (.cells (rdA T6 D6) 37 (0, 0)) := by rw [setRow_other _ _ _ _ (by omega)]; exact setRow_heap _ _ _ _ _ _ hq1.r6
          have hs2 := setRow_heap _ _ _ (rsA a b ⟨(b : Int), TN, x⟩ p9 c9) _ _ hr7
          have hk : KR 0 wD ((wD.setRow (w.heap.size + 2) (rdA T6 D6)).setRow (w.heap.size + 3) (rsA a b ⟨(b : Int), TN, x⟩ p9 c9)) := (kr_turn (turns_setRow _ _ _) hq1.r6 (by decide) (by decide)).trans (kr_turn (turns_setRow _ _ _) hr7 (by decide) (by decide))
          refine bodyPost_ret (results_cells2_tmp rfl _ _ _ _ _ _ _ _ _ _ _ _ rfl rfl hs1 hs2 Tryz.underlying37 rfl (infoRD _ (rdA_size hq1.rd.n3 hq1.rd.m3)) Tryz.underlying46 rfl (infoRS _ rfl)) rfl ?_
          obtain ⟨f1, f2, f3⟩ := HFIN.out
          unfold RPuP
          rw [f1, f2, f3]
          exact ⟨T6, p9, c9, rfl, hq1.rd.step hk, hq1.rb.step hk, below_setRow (below_setRow hq1.low (by omega) _) (by omega) _⟩
        · have q3 : decide ((0 : Int) < (unitsAll (fD d b).steps : Int)) = false := decide_eq_false (by omega)
          have q4 : decide (0 < unitsAll (fD d b).steps) = false := decide_eq_false hu
          have HAC : Hid (acts d b (wrapB s x) = [.put (wrapB s x), .sync]) := by
            show _ = _
            unfold acts full
            rw [decide_eq_false hl, decide_eq_false hu]; rfl
          rw [HAC.out] at HPN
          go_upto_region 14 with fail
          clear q3 q4
          skip
          -- from region 14: put and sync; world w6, disk ts d
          have HIL : Hid (b < d.fs.length) := by show _ < _; rw [HPQ.out.rd.m3]; exact HI3.out
          have HL3 : Hid (∀ w', Below w6.heap.size w6 w' → w'.rangeAt w.heap.size 0 (rdA ts d).toList) := fun w' hb => row_rangeR (Below.keepOld hb HPQ.out.r3)
          have HT3 : Hid (∀ w', Below w6.heap.size w6 w' → w'.cell? ⟨w.heap.size + 1, 3, none⟩ = some (.int .u64 (s.turn : Int))) := fun w' hb => (rs_cells (Below.keepOld hb HPQ.out.r4)).2.2.2.1
          have HXB := Lib.hid (HX.out.below HPQ.out.low)
          refine wp_region_eager_u (Below w6.heap.size w6) [0, 1, 2, 3, 4, 6] [(0, true), (1, true), (2, true), (3, true), (4, true), (6, true), (5, false), (7, false), (8, false), (9, false)] (.take 10 (.take 11 (.take 12 (.one 13 (.one 14 .nil))))) (by kernel_rfl) (by kernel_rfl) ?_ (eagerUOpen rfl ?_)
          · exact below_drew1 _ _
          have hy0 : Below w6.heap.size w6 w6.drew := below_drew1 _ _
          repeat (first
            | ((with_reducible refine eagerULoadAt 3 ?_); refine wpEagerU_load (by rfl) 37 _ rfl w.heap.size 0 rfl (rdA ts d) _ (fun w' hb => HL3.out w' hb) Tryz.underlying37 rfl (infoRD _ (rdA_size HPQ.out.rd.n3 HPQ.out.rd.m3)) ?_; (try simp only [Act.put, List.setIfInBounds_toArray, List.set_cons_zero, List.set_cons_succ]); (try refine eagerUOpen rfl ?_))
            | (apply wpEagerU_take; (· rfl); (· (intro w' hb'; have hk' := (HT3.out) w' hb'; go_split_ands; go_simp; try with_reducible rfl)); (try simp only [Act.put, List.setIfInBounds_toArray, List.set_cons_zero, List.set_cons_succ]); (try refine eagerUOpen rfl ?_))
            | (first | (apply wpEagerU_take; (· rfl); (· (intro w' hb'; go_simp; try with_reducible rfl)); (try simp only [Act.put, List.setIfInBounds_toArray, List.set_cons_zero, List.set_cons_succ]); (try refine eagerUOpen rfl ?_)) | (refine wpEagerU_skip (by rfl) ?_; (try simp only [Act.put, List.setIfInBounds_toArray, List.set_cons_zero, List.set_cons_succ]); (try refine eagerUOpen rfl ?_))))
          (refine wpEagerU_op (by rfl) (fun K hK => ?_); go_simp; (refine (number8 w6.drew TN HTL.out).mono ?_; rintro e y8 ⟨p8, c8, rfl, ho, hb⟩; have hy1 : Below w6.heap.size w6 y8 := hy0.trans hb; have HO8 := Lib.hid ho; clear ho hb); refine Shut.out hK _ _ (by assumption) ?_; clear hK K; (try simp only [Act.put, List.setIfInBounds_toArray, List.set_cons_zero, List.set_cons_succ]); (try refine eagerUOpen rfl ?_))
          have HB8 : Hid (w6.heap.size ≤ y8.heap.size) := hy1.size
          have HXS := Lib.hid (HXB.out.below hy1)
          refine wpEagerU_op (by rfl) (fun K hK => oper_of_list rfl ?_)
          refine wpList_append_nx rfl _ _ 22 rfl (base := w6.drew.heap.size) Tryz.underlying22 Frm.info8b rfl (by omega) rfl HO8.out rfl HXS.out (bytesV_one _) ⟨by omega, by omega⟩ HB8.out ?_
          intro p9 c9 y9 ho9 hgr hnx _
          have hb9 := own_below HO8.out hgr HB8.out
          have hy2 : Below w6.heap.size w6 y9 := hy1.trans (show Below w6.heap.size y8 y9 from hb9)
          have HFB : Hid (Bs y9 p9 (8 + x.length) c9 (be TN 8 ++ x)) := by
            rw [← bytesV_append] at ho9
            exact Cut.own_bs ho9
          have HWB : Hid (frame (be TN 8 ++ x) = wrapB s x) := by show _ = _; unfold wrapB; rw [HTN.out]
          have HWL : Hid ((wrapB s x).length ≤ 60000) := by show _ ≤ _; rw [← HWB.out, Frm.frame_length, List.length_append, be_length]; omega
          have HFR := Lib.hid (Frm.rbytes_any p9 (8 + x.length) c9 (be TN 8 ++ x) y9 HFB.out (by omega))
          rw [HWB.out] at HFR
          refine only_end (Shut.out hK _ _ hy2 ?_)
          clear hK K ho9 hgr hnx hb9 HO8 HXS HB8 HFB HWB
          (try simp only [Act.put, List.setIfInBounds_toArray, List.set_cons_zero, List.set_cons_succ]); (try refine eagerUOpen rfl ?_)
          (refine wpEagerU_op (by rfl) (fun K hK => ?_); go_simp; (refine HFR.out.mono ?_; rintro e yF ⟨pF, cF, rfl, ho, hb⟩; have HOF := Lib.hid (Cut.own_bs ho); have hy3 : Below w6.heap.size w6 yF := hy2.trans (hb.mono hy2.size); clear ho hb); refine Shut.out hK _ _ (by assumption) ?_; clear hK K; (try simp only [Act.put, List.setIfInBounds_toArray, List.set_cons_zero, List.set_cons_succ]); (try refine eagerUOpen rfl ?_))
          have HPC : Hid (Calls Tryz.prog 8 #[.agg (rdA ts d), .int .i64 (b : Int), .slice pF (wrapB s x).length cF] yF (ROut (stpD d b (.put (wrapB s x))) (stpE d b (.put (wrapB s x))) yF)) := rput_in ts d b HI3.out pF (wrapB s x) cF yF (HPQ.out.rd.below hy3) HG.out.used HOF.out HWL.out (by have := fewfd (i := b) HG.out.few; omega)
          (refine wpEagerU_op (by rfl) (fun K hK => ?_); go_simp; (refine HPC.out.mono ?_; rintro e yP ⟨T5, rfl, hr, hb⟩; have HR5 := Lib.hid hr; have hy4 : Below w6.heap.size w6 yP := hy3.trans (hb.mono hy3.size); clear hr hb); refine Shut.out hK _ _ (by assumption) ?_; clear hK K; (try simp only [Act.put, List.setIfInBounds_toArray, List.set_cons_zero, List.set_cons_succ]); (try refine eagerUOpen rfl ?_))
          refine eagerUEnd ?_
          have hq := HPQ.out.next hy4
          have HQR := Lib.hid hq.r3
          have HSZ3 : Hid ((rdA ts d).size = (rdA T5 (stpD d b (.put (wrapB s x)))).size) := by show _ = _; rw [rdA_size hq.rd.n3 hq.rd.m3, rdA_size HR5.out.n3 HR5.out.m3]
          have HP5 := Lib.hid (hq.disk HR5.out)
          have HOK5 : Hid (stpE d b (.put (wrapB s x)) = 0 → Pnd d s a b x b [.sync] (stpD d b (.put (wrapB s x)))) := fun h => HPN.out.ok h
          have HNO5 : Hid (¬ stpE d b (.put (wrapB s x)) = 0 → putSD d s a b x = stpD d b (.put (wrapB s x)) ∧ putSS d s a b x = s ∧ putSE d s a b x = stpE d b (.put (wrapB s x))) := fun h => HPN.out.no h
          obtain ⟨M5, HG5⟩ : ∃ M, Hid (Gd (stpD d b (.put (wrapB s x))) M) := ⟨_, HG.out.did HIL.out _⟩
          clear hq HPN HPQ HL3 HT3 HXB HPC HFR HOF HWL hy0 hy1 hy2 hy3 hy4 HIL HG HR5
          generalize stpE d b (.put (wrapB s x)) = E5 at *
          generalize stpD d b (.put (wrapB s x)) = D5 at *
          repeat (apply tree_take; (· rfl); (· rfl); (· (intro w' hb'; go_simp; try with_reducible rfl)); try simp only [Act.put, List.setIfInBounds_toArray, List.set_cons_zero, List.set_cons_succ])
          refine tree_one rfl (by rfl) (fun K hK => oper_of_list rfl ?_)
          refine wpList_store_row rfl 37 _ _ rfl w.heap.size (rdA T5 D5) rfl rfl 37 (rdA ts d) HQR.out (infoRD _ (rdA_size HP5.out.rd.n3 HP5.out.rd.m3)) HSZ3.out (rdA_one HP5.out.rd.n3 HP5.out.rd.m3) ?_
          refine only_end (Shut.out hK _ _ trivial ?_)
          clear hK K HQR HSZ3
          try simp only [Act.put]
          generalize yP.setRow w.heap.size (rdA T5 D5) = z5 at *
          refine tree_one rfl (by rfl) (fun K hK => ?_)
          go_simp
          refine Shut.out hK _ _ trivial ?_
          clear hK K
          try simp only [Act.put, List.setIfInBounds_toArray, List.set_cons_zero, List.set_cons_succ]
          refine tree_nil ?_
          by_cases he1 : E5 = 0
          rotate_left
          · have q1 : (E5 != 0) = true := bne_iff_ne.2 he1
            have HFIN := Lib.hid (HNO5.out he1)
            have HPQ := HP5
            clear he1 HOK5
            go_upto_region 16 with fail
            skip
            -- the results stored and told: region's tree .take 0 (.take 1 (.take 2 (.one 3 (.one 4 (.one 5 .nil))))); HPQ : Hid (PQ w a b T5 D5 s p c z5), the error EX; HFIN : Hid (putSD .. = D5 ∧ putSS .. = s ∧ putSE .. = EX)
            have HL3 : Hid (∀ w', Turns (fun k => k = w.heap.size + 2 ∨ k = w.heap.size + 3) z5 w' → w'.rangeAt w.heap.size 0 (rdA T5 D5).toList) := fun w' hb => row_rangeR (hb.keep HPQ.out.r3 (by rintro (h | h) <;> omega))
            have HL4 : Hid (∀ w', Turns (fun k => k = w.heap.size + 2 ∨ k = w.heap.size + 3) z5 w' → w'.rangeAt (w.heap.size + 1) 0 (rsA a b s p c).toList) := fun w' hb => row_rangeR (hb.keep HPQ.out.r4 (by rintro (h | h) <;> omega))
            refine wp_region_tree (Turns (fun k => k = w.heap.size + 2 ∨ k = w.heap.size + 3) z5) (.take 0 (.take 1 (.take 2 (.one 3 (.one 4 (.one 5 .nil)))))) (by kernel_rfl) (by kernel_rfl) (Turns.of_below (below_drew1 _ _)) ?_
            have hy0 : Below z5.heap.size z5 z5.drew := below_drew1 _ _
            refine tree_load rfl (by rfl) 37 _ rfl w.heap.size 0 rfl (rdA T5 D5) _ (fun w' hb => HL3.out w' hb) Tryz.underlying37 rfl (infoRD _ (rdA_size HPQ.out.rd.n3 HPQ.out.rd.m3)) ?_
            try simp only [Act.put, List.setIfInBounds_toArray, List.set_cons_zero, List.set_cons_succ]
            refine tree_load rfl (by rfl) 46 _ rfl (w.heap.size + 1) 0 rfl (rsA a b s p c) _ (fun w' hb => HL4.out w' hb) Tryz.underlying46 rfl (infoRS _ rfl) ?_
            try simp only [Act.put, List.setIfInBounds_toArray, List.set_cons_zero, List.set_cons_succ]
            repeat (apply tree_take; (· rfl); (· rfl); (· (intro w' hb'; go_simp; try with_reducible rfl)); try simp only [Act.put, List.setIfInBounds_toArray, List.set_cons_zero, List.set_cons_succ])
            have hq1 := HPQ.out.next hy0
            have ht0 : Turns (fun k => k = w.heap.size + 2 ∨ k = w.heap.size + 3) z5 z5.drew := Turns.of_below hy0
            clear HL3 HL4 HPQ hy0
            generalize z5.drew = wD at *
            refine tree_one rfl (by rfl) (fun K hK => oper_of_list rfl ?_)
            refine wpList_store_row rfl 37 _ _ rfl (w.heap.size + 2) (rdA T5 D5) rfl rfl 37 zD hq1.r6 (infoRD _ (rdA_size hq1.rd.n3 hq1.rd.m3)) (by rw [rdA_size hq1.rd.n3 hq1.rd.m3]; rfl) (rdA_one hq1.rd.n3 hq1.rd.m3) ?_
            have ht1 := ht0.trans (turns_setRow wD (w.heap.size + 2) (rdA T5 D5)) (fun k _ hk => .inl hk)
            refine only_end (Shut.out hK _ _ ht1 ?_)
            clear hK K
            try simp only [Act.put]
            have hr7 : (wD.setRow (w.heap.size + 2) (rdA T5 D5)).heap[w.heap.size + 3]? = some (.cells zS 46 (0, 0)) := by rw [setRow_other _ _ _ _ (by omega)]; exact hq1.r7
            refine tree_one rfl (by rfl) (fun K hK => oper_of_list rfl ?_)
            refine wpList_store_row rfl 46 _ _ rfl (w.heap.size + 3) (rsA a b s p c) rfl rfl 46 zS hr7 (infoRS _ rfl) rfl (rsA_one _ _ _ _ _) ?_
            have ht2 := ht1.trans (turns_setRow (wD.setRow (w.heap.size + 2) (rdA T5 D5)) (w.heap.size + 3) (rsA a b s p c)) (fun k _ hk => .inr hk)
            refine only_end (Shut.out hK _ _ ht2 ?_)
            clear hK K
            try simp only [Act.put]
            refine tree_one rfl (by rfl) (fun K hK => ?_)
            go_simp
            refine Shut.out hK _ _ ht2 ?_
            clear hK K
            try simp only [Act.put, List.setIfInBounds_toArray, List.set_cons_zero, List.set_cons_succ]
            refine tree_nil ?_
            go_wp2_with fail
            have hs1 : ((wD.setRow (w.heap.size + 2) (rdA T5 D5)).setRow (w.heap.size + 3) (rsA a b s p c)).heap[w.heap.size + 2]? = some (.cells (rdA T5 D5) 37 (0, 0)) := by rw [setRow_other _ _ _ _ (by omega)]; exact setRow_heap _ _ _ _ _ _ hq1.r6
            have hs2 := setRow_heap _ _ _ (rsA a b s p c) _ _ hr7
            have hk : KR 0 wD ((wD.setRow (w.heap.size + 2) (rdA T5 D5)).setRow (w.heap.size + 3) (rsA a b s p c)) := (kr_turn (turns_setRow _ _ _) hq1.r6 (by decide) (by decide)).trans (kr_turn (turns_setRow _ _ _) hr7 (by decide) (by decide))
            refine bodyPost_ret (results_cells2_tmp rfl _ _ _ _ _ _ _ _ _ _ _ _ rfl rfl hs1 hs2 Tryz.underlying37 rfl (infoRD _ (rdA_size hq1.rd.n3 hq1.rd.m3)) Tryz.underlying46 rfl (infoRS _ rfl)) rfl ?_
            obtain ⟨f1, f2, f3⟩ := HFIN.out
            unfold RPuP
            rw [f1, f2, f3]
            exact ⟨T5, p, c, rfl, hq1.rd.step hk, hq1.rb.step hk, below_setRow (below_setRow hq1.low (by omega) _) (by omega) _⟩
          have q1 : (E5 != 0) = false := by rw [bne_eq_false_iff_eq]; exact he1
          have HPN := Lib.hid (HOK5.out he1)
          have HPQ := HP5
          have HIL : Hid (b < D5.fs.length) := by show _ < _; rw [HPQ.out.rd.m3]; exact HI3.out
          have HOKF : Hid (fD D5 b).Ok := RDB.okF HPQ.out.rd HI3.out
          have HC : Hid (Calls Tryz.prog 34 #[.agg (rdA T5 D5), .int .i64 (b : Int)] z5 (ROut (stpD D5 b .sync) (stpE D5 b .sync) z5)) := rsync_in T5 D5 b HI3.out (fD D5 b) (HPQ.out.rd.fd HI3.out) z5 HPQ.out.rd
          clear he1 HOK5 HNO5 HP5
          go_upto_region 17 with fail
          clear q1
          skip
          -- one call of the reference's disk: world z5, boxes HPQ (disk T5, D5); HC : Hid (Calls .. z5 (ROut (stpD D5 i .sync) (stpE D5 i .sync) z5)); HPN: pending .sync :: ..; 18: the region behind it
          go_wp2_with (refine wpList_load_row rfl 37 _ rfl w.heap.size rfl 37 (rdA T5 D5) (0, 0) _ HPQ.out.r3 Tryz.underlying37 rfl (infoRD _ (rdA_size HPQ.out.rd.n3 HPQ.out.rd.m3)) ?_)
          refine HC.out.mono ?_
          rintro e y6 ⟨T6, rfl, hr, hb⟩
          have hq := HPQ.out.next hb
          have HQR := Lib.hid hq.r3
          have HSZ3 : Hid ((rdA T5 D5).size = (rdA T6 (stpD D5 b .sync)).size) := by show _ = _; rw [rdA_size hq.rd.n3 hq.rd.m3, rdA_size hr.n3 hr.m3]
          have HP6 := Lib.hid (hq.disk hr)
          have HOK6 : Hid (stpE D5 b .sync = 0 → Pnd d s a b x b [] (stpD D5 b .sync)) := fun h => HPN.out.ok h
          have HNO6 : Hid (¬ stpE D5 b .sync = 0 → putSD d s a b x = stpD D5 b .sync ∧ putSS d s a b x = s ∧ putSE d s a b x = stpE D5 b .sync) := fun h => HPN.out.no h
          clear hq hr hb HPQ HC HPN
          have HG6 : Hid (Gd (stpD D5 b .sync) (M5)) := HG5.out.synd HIL.out HOKF.out
          generalize stpE D5 b .sync = E6 at *
          generalize stpD D5 b .sync = D6 at *
          go_upto_region 18 with (refine wpList_store_row rfl 37 _ _ rfl w.heap.size (rdA T6 D6) rfl rfl 37 (rdA T5 D5) HQR.out (infoRD _ (rdA_size HP6.out.rd.n3 HP6.out.rd.m3)) HSZ3.out (rdA_one HP6.out.rd.n3 HP6.out.rd.m3) ?_)
          try simp only [Act.put, List.setIfInBounds_toArray, List.set_cons_zero, List.set_cons_succ]
          clear HQR HSZ3
          generalize y6.setRow w.heap.size (rdA T6 D6) = z6 at *
          by_cases he1 : E6 = 0
          rotate_left
          · have q1 : (E6 != 0) = true := bne_iff_ne.2 he1
            have HFIN := Lib.hid (HNO6.out he1)
            have HPQ := HP6
            clear he1 HOK6
            go_upto_region 19 with fail
            skip
            -- the results stored and told: region's tree .take 0 (.take 1 (.take 2 (.one 3 (.one 4 (.one 5 .nil))))); HPQ : Hid (PQ w a b T6 D6 s p c z6), the error EX; HFIN : Hid (putSD .. = D6 ∧ putSS .. = s ∧ putSE .. = EX)
            have HL3 : Hid (∀ w', Turns (fun k => k = w.heap.size + 2 ∨ k = w.heap.size + 3) z6 w' → w'.rangeAt w.heap.size 0 (rdA T6 D6).toList) := fun w' hb => row_rangeR (hb.keep HPQ.out.r3 (by rintro (h | h) <;> omega))
            have HL4 : Hid (∀ w', Turns (fun k => k = w.heap.size + 2 ∨ k = w.heap.size + 3) z6 w' → w'.rangeAt (w.heap.size + 1) 0 (rsA a b s p c).toList) := fun w' hb => row_rangeR (hb.keep HPQ.out.r4 (by rintro (h | h) <;> omega))
            refine wp_region_tree (Turns (fun k => k = w.heap.size + 2 ∨ k = w.heap.size + 3) z6) (.take 0 (.take 1 (.take 2 (.one 3 (.one 4 (.one 5 .nil)))))) (by kernel_rfl) (by kernel_rfl) (Turns.of_below (below_drew1 _ _)) ?_
            have hy0 : Below z6.heap.size z6 z6.drew := below_drew1 _ _
            refine tree_load rfl (by rfl) 37 _ rfl w.heap.size 0 rfl (rdA T6 D6) _ (fun w' hb => HL3.out w' hb) Tryz.underlying37 rfl (infoRD _ (rdA_size HPQ.out.rd.n3 HPQ.out.rd.m3)) ?_
            try simp only [Act.put, List.setIfInBounds_toArray, List.set_cons_zero, List.set_cons_succ]
            refine tree_load rfl (by rfl) 46 _ rfl (w.heap.size + 1) 0 rfl (rsA a b s p c) _ (fun w' hb => HL4.out w' hb) Tryz.underlying46 rfl (infoRS _ rfl) ?_
            try simp only [Act.put, List.setIfInBounds_toArray, List.set_cons_zero, List.set_cons_succ]
            repeat (apply tree_take; (· rfl); (· rfl); (· (intro w' hb'; go_simp; try with_reducible rfl)); try simp only [Act.put, List.setIfInBounds_toArray, List.set_cons_zero, List.set_cons_succ])
            have hq1 := HPQ.out.next hy0
            have ht0 : Turns (fun k => k = w.heap.size + 2 ∨ k = w.heap.size + 3) z6 z6.drew := Turns.of_below hy0
            clear HL3 HL4 HPQ hy0
            generalize z6.drew = wD at *
            refine tree_one rfl (by rfl) (fun K hK => oper_of_list rfl ?_)
            refine wpList_store_row rfl 37 _ _ rfl (w.heap.size + 2) (rdA T6 D6) rfl rfl 37 zD hq1.r6 (infoRD _ (rdA_size hq1.rd.n3 hq1.rd.m3)) (by rw [rdA_size hq1.rd.n3 hq1.rd.m3]; rfl) (rdA_one hq1.rd.n3 hq1.rd.m3) ?_
            have ht1 := ht0.trans (turns_setRow wD (w.heap.size + 2) (rdA T6 D6)) (fun k _ hk => .inl hk)
            refine only_end (Shut.out hK _ _ ht1 ?_)
            clear hK K
            try simp only [Act.put]
            have hr7 : (wD.setRow (w.heap.size + 2) (rdA T6 D6)).heap[w.heap.size + 3]? = some (.cells zS 46 (0, 0)) := by rw [setRow_other _ _ _ _ (by omega)]; exact hq1.r7
            refine tree_one rfl (by rfl) (fun K hK => oper_of_list rfl ?_)
            refine wpList_store_row rfl 46 _ _ rfl (w.heap.size + 3) (rsA a b s p c) rfl rfl 46 zS hr7 (infoRS _ rfl) rfl (rsA_one _ _ _ _ _) ?_
            have ht2 := ht1.trans (turns_setRow (wD.setRow (w.heap.size + 2) (rdA T6 D6)) (w.heap.size + 3) (rsA a b s p c)) (fun k _ hk => .inr hk)
            refine only_end (Shut.out hK _ _ ht2 ?_)
            clear hK K
            try simp only [Act.put]
            refine tree_one rfl (by rfl) (fun K hK => ?_)
            go_simp
            refine Shut.out hK _ _ ht2 ?_
            clear hK K
            try simp only [Act.put, List.setIfInBounds_toArray, List.set_cons_zero, List.set_cons_succ]
            refine tree_nil ?_
            go_wp2_with fail
            have hs1 : ((wD.setRow (w.heap.size + 2) (rdA T6 D6)).setRow (w.heap.size + 3) (rsA a b s p c)).heap[w.heap.size + 2]? = some (.cells (rdA T6 D6) 37 (0, 0)) := by rw [setRow_other _ _ _ _ (by omega)]; exact setRow_heap _ _ _ _ _ _ hq1.r6
            have hs2 := setRow_heap _ _ _ (rsA a b s p c) _ _ hr7
            have hk : KR 0 wD ((wD.setRow (w.heap.size + 2) (rdA T6 D6)).setRow (w.heap.size + 3) (rsA a b s p c)) := (kr_turn (turns_setRow _ _ _) hq1.r6 (by decide) (by decide)).trans (kr_turn (turns_setRow _ _ _) hr7 (by decide) (by decide))
            refine bodyPost_ret (results_cells2_tmp rfl _ _ _ _ _ _ _ _ _ _ _ _ rfl rfl hs1 hs2 Tryz.underlying37 rfl (infoRD _ (rdA_size hq1.rd.n3 hq1.rd.m3)) Tryz.underlying46 rfl (infoRS _ rfl)) rfl ?_
            obtain ⟨f1, f2, f3⟩ := HFIN.out
            unfold RPuP
            rw [f1, f2, f3]
            exact ⟨T6, p, c, rfl, hq1.rd.step hk, hq1.rb.step hk, below_setRow (below_setRow hq1.low (by omega) _) (by omega) _⟩
          have q1 : (E6 != 0) = false := by rw [bne_eq_false_iff_eq]; exact he1
          have HFIN0 := Lib.hid (HOK6.out he1).end
          have HPQ := HP6
          clear he1 HOK6 HNO6 HP6 HIL HOKF HG5 HG6
          obtain ⟨_, _, c2, c3, c4, hfz⟩ := rs_cells HPQ.out.r4
          have hq1 := HPQ.out.cell (s' := ⟨(b : Int), s.turn, s.body⟩) (p' := p) (c' := c) 2 (.int .i64 (b : Int)) rfl HPQ.out.rb
          have hq2 := hq1.cell (s' := ⟨(b : Int), TN, s.body⟩) (p' := p) (c' := c) 3 (.int .u64 (TN : Int)) rfl hq1.rb
          go_upto_region 22 with fail
          clear c2 c3 c4 hfz hq1 HPQ q1
          generalize (z6.setCell ⟨w.heap.size + 1, 2, none⟩ (.int .i64 (b : Int))).setCell ⟨w.heap.size + 1, 3, none⟩ (.int .u64 (TN : Int)) = z8 at *
          have HQ2 := Lib.hid hq2
          have hal := Below.allocs z8 (.cells #[] 5)
          have HO0 : Hid ((z8.alloc (.cells #[] 5)).ownsRow z8.heap.size 5 1 (.slice (some ⟨z8.heap.size, 0, none⟩) 0 0) 0 []) := own_made0 z8 _ _ _ _ rfl (Nat.le_refl _)
          have HXS := Lib.hid ((HX.out.below hq2.low).below hal)
          have HZS := Lib.hid hal.size
          have HZL := Lib.hid hal
          clear hq2 hal
          go_wp2_with (at_builtin; refine wpList_append_nx rfl _ _ 22 rfl (base := z8.heap.size) Tryz.underlying22 Frm.info8b rfl (by omega) rfl HO0.out rfl HXS.out (bytesV_one _) ⟨by omega, by omega⟩ HZS.out ?_)
          intro p9 c9 y9 ho9 hgr hnx _
          have hb9 := HZL.out.trans (own_below HO0.out hgr HZS.out)
          have hq3 := HQ2.out.next hb9
          try simp only [Nat.zero_add, List.nil_append] at ho9
          try simp only [Nat.zero_add]
          obtain ⟨_, _, _, _, c4, hfz⟩ := rs_cells hq3.r4
          have HPQ := Lib.hid (hq3.cell (s' := ⟨(b : Int), TN, x⟩) (p' := p9) (c' := c9) 4 (.slice p9 x.length c9) rfl (RBs.own ho9))
          have HFIN : Hid (putSD d s a b x = D6 ∧ putSS d s a b x = ⟨(b : Int), TN, x⟩ ∧ putSE d s a b x = 0) := by
            have h := HFIN0.out
            rw [HTN.out] at h
            exact h
          clear ho9 hgr hnx hb9 hq3 HQ2 HO0 HXS HZS HZL HFIN0
          go_upto_region 23 with fail
          clear c4 hfz
          generalize y9.setCell ⟨w.heap.size + 1, 4, none⟩ (.slice p9 x.length c9) = z9 at *
          skip
          -- the results stored and told: region's tree .take 0 (.take 1 (.one 2 (.one 3 (.one 4 .nil)))); HPQ : Hid (PQ w a b T6 D6 ⟨(b : Int), TN, x⟩ p9 c9 z9), the error EX; HFIN : Hid (putSD .. = D6 ∧ putSS .. = ⟨(b : Int), TN, x⟩ ∧ putSE .. = EX)
          have HL3 : Hid (∀ w', Turns (fun k => k = w.heap.size + 2 ∨ k = w.heap.size + 3) z9 w' → w'.rangeAt w.heap.size 0 (rdA T6 D6).toList) := fun w' hb => row_rangeR (hb.keep HPQ.out.r3 (by rintro (h | h) <;> omega))
          have HL4 : Hid (∀ w', Turns (fun k => k = w.heap.size + 2 ∨ k = w.heap.size + 3) z9 w' → w'.rangeAt (w.heap.size + 1) 0 (rsA a b ⟨(b : Int), TN, x⟩ p9 c9).toList) := fun w' hb => row_rangeR (hb.keep HPQ.out.r4 (by rintro (h | h) <;> omega))
          refine wp_region_tree (Turns (fun k => k = w.heap.size + 2 ∨ k = w.heap.size + 3) z9) (.take 0 (.take 1 (.one 2 (.one 3 (.one 4 .nil))))) (by kernel_rfl) (by kernel_rfl) (Turns.of_below (below_drew1 _ _)) ?_
          have hy0 : Below z9.heap.size z9 z9.drew := below_drew1 _ _
          refine tree_load rfl (by rfl) 37 _ rfl w.heap.size 0 rfl (rdA T6 D6) _ (fun w' hb => HL3.out w' hb) Tryz.underlying37 rfl (infoRD _ (rdA_size HPQ.out.rd.n3 HPQ.out.rd.m3)) ?_
          try simp only [Act.put, List.setIfInBounds_toArray, List.set_cons_zero, List.set_cons_succ]
          refine tree_load rfl (by rfl) 46 _ rfl (w.heap.size + 1) 0 rfl (rsA a b ⟨(b : Int), TN, x⟩ p9 c9) _ (fun w' hb => HL4.out w' hb) Tryz.underlying46 rfl (infoRS _ rfl) ?_
          try simp only [Act.put, List.setIfInBounds_toArray, List.set_cons_zero, List.set_cons_succ]
          repeat (apply tree_take; (· rfl); (· rfl); (· (intro w' hb'; go_simp; try with_reducible rfl)); try simp only [Act.put, List.setIfInBounds_toArray, List.set_cons_zero, List.set_cons_succ])
          have hq1 := HPQ.out.next hy0
          have ht0 : Turns (fun k => k = w.heap.size + 2 ∨ k = w.heap.size + 3) z9 z9.drew := Turns.of_below hy0
          clear HL3 HL4 HPQ hy0
          generalize z9.drew = wD at *
          refine tree_one rfl (by rfl) (fun K hK => oper_of_list rfl ?_)
          refine wpList_store_row rfl 37 _ _ rfl (w.heap.size + 2) (rdA T6 D6) rfl rfl 37 zD hq1.r6 (infoRD _ (rdA_size hq1.rd.n3 hq1.rd.m3)) (by rw [rdA_size hq1.rd.n3 hq1.rd.m3]; rfl) (rdA_one hq1.rd.n3 hq1.rd.m3) ?_
          have ht1 := ht0.trans (turns_setRow wD (w.heap.size + 2) (rdA T6 D6)) (fun k _ hk => .inl hk)
          refine only_end (Shut.out hK _ _ ht1 ?_)
          clear hK K
          try simp only [Act.put]
          have hr7 : (wD.setRow (w.heap.size + 2) (rdA T6 D6)).heap[w.heap.size + 3]? = some (.cells zS 46 (0, 0)) := by rw [setRow_other _ _ _ _ (by omega)]; exact hq1.r7
          refine tree_one rfl (by rfl) (fun K hK => oper_of_list rfl ?_)
          refine wpList_store_row rfl 46 _ _ rfl (w.heap.size + 3) (rsA a b ⟨(b : Int), TN, x⟩ p9 c9) rfl rfl 46 zS hr7 (infoRS _ rfl) rfl (rsA_one _ _ _ _ _) ?_
          have ht2 := ht1.trans (turns_setRow (wD.setRow (w.heap.size + 2) (rdA T6 D6)) (w.heap.size + 3) (rsA a b ⟨(b : Int), TN, x⟩ p9 c9)) (fun k _ hk => .inr hk)
          refine only_end (Shut.out hK _ _ ht2 ?_)
          clear hK K
          try simp only [Act.put]
          refine tree_one rfl (by rfl) (fun K hK => ?_)
          go_simp
          refine Shut.out hK _ _ ht2 ?_
          clear hK K
          try simp only [Act.put, List.setIfInBounds_toArray, List.set_cons_zero, List.set_cons_succ]
          refine tree_nil ?_
          go_wp2_with fail
          have hs1 : ((wD.setRow (w.heap.size + 2) (rdA T6 D6)).setRow (w.heap.size + 3) (rsA a b ⟨(b : Int), TN, x⟩ p9 c9)).heap[w.heap.size + 2]? = some (.cells (rdA T6 D6) 37 (0, 0)) := by rw [setRow_other _ _ _ _ (by omega)]; exact setRow_heap _ _ _ _ _ _ hq1.r6
          have hs2 := setRow_heap _ _ _ (rsA a b ⟨(b : Int), TN, x⟩ p9 c9) _ _ hr7
          have hk : KR 0 wD ((wD.setRow (w.heap.size + 2) (rdA T6 D6)).setRow (w.heap.size + 3) (rsA a b ⟨(b : Int), TN, x⟩ p9 c9)) := (kr_turn (turns_setRow _ _ _) hq1.r6 (by decide) (by decide)).trans (kr_turn (turns_setRow _ _ _) hr7 (by decide) (by decide))
          refine bodyPost_ret (results_cells2_tmp rfl _ _ _ _ _ _ _ _ _ _ _ _ rfl rfl hs1 hs2 Tryz.underlying37 rfl (infoRD _ (rdA_size hq1.rd.n3 hq1.rd.m3)) Tryz.underlying46 rfl (infoRS _ rfl)) rfl ?_
          obtain ⟨f1, f2, f3⟩ := HFIN.out
          unfold RPuP
          rw [f1, f2, f3]
          exact ⟨T6, p9, c9, rfl, hq1.rd.step hk, hq1.rb.step hk, below_setRow (below_setRow hq1.low (by omega) _) (by omega) _⟩
    · have e1 : (s.now == (a : Int)) = false := beq_eq_false_iff_ne.2 hna
      have HNX : Hid (nxt s a b = a) := if_neg hna
      clear hna
      go_upto_region 7 with fail
      skip
      -- behind region 6: i = a; world w4
      have HPN : Hid (Pnd d s a b x a (acts d a (wrapB s x)) d) := by
        have hf := HFIT.out
        refine ⟨?_, ?_, ?_⟩
        · unfold putSD; rw [if_pos hf, HNX.out]
        · unfold putSE; rw [if_pos hf, HNX.out]
        · unfold putSS; rw [HNX.out]; simp only [hf, true_and]
      have HI3 : Hid (a < 3) := by assumption
      have hI3 : (a : Int) < 3 := by have := HI3.out; omega
      have hti : a < ts.length := by rw [HPQ.out.rd.n3]; exact HI3.out
      have ht : ts[a]? = some (ts[a]'hti) := List.getElem?_eq_getElem hti
      generalize ts[a]'hti = t at *
      have HF := Lib.hid (HPQ.out.rd.fd HI3.out)
      have HT := Lib.hid ht
      have HNB : Hid ((fD d a).need ≤ 1000000) := by
        obtain ⟨t', f', _, a', _, _, b'⟩ := HPQ.out.rd.at.file a HI3.out
        rw [HF.out] at a'
        cases a'; exact b'
      clear ht hti
      have HRG := Lib.hid (rd_range HPQ.out.rd.n3 HPQ.out.rd.m3 HPQ.out.r3 a HT.out HF.out)
      have HHO := Lib.hid (rholds_any t (fD d a) w4 (HPQ.out.rd.each a t _ HT.out HF.out).1.now HNB.out)
      have HUN := Lib.hid (fun y (hb : Below w4.heap.size w4 y) => runits_any t (fD d a) y ((HPQ.out.rd.below hb).each a t _ HT.out HF.out).1.now)
      clear c0 c1 c2 c3 c4 hfz
      go_upto_region 7 with fail
      go_wp2_with (refine wpList_load_mid rfl 34 _ rfl w.heap.size (a * 2) rfl (fA t (fD d a)).toList _ HRG.out Tryz.underlying34 rfl (infoFi (fA t (fD d a)) rfl) ?_)
      try rw [Array.toArray_toList]
      refine HHO.out.mono ?_
      rintro e w5 ⟨p5, c5, rfl, _, hb5⟩
      have HB5 := Lib.hid hb5
      have HPQ5 := Lib.hid (HPQ.out.next hb5)
      have HRG5 := Lib.hid (range_below HRG.out hb5)
      clear hb5 HHO HRG HPQ
      by_cases hl : 0 < (fD d a).now.length
      · have q1 : decide ((0 : Int) < ((fD d a).now.length : Int)) = true := decide_eq_true (by omega)
        have q2 : decide (0 < (fD d a).now.length) = true := decide_eq_true hl
        have HFULL : Hid (full d a = true) := by show _ = _; unfold full; rw [decide_eq_true hl]; rfl
        have HPQ := HPQ5
        clear HPQ5 HUN HRG5
        skip
        -- file a holds something: cut, sync, put, sync
        have HAC : Hid (acts d a (wrapB s x) = [.cut, .sync, .put (wrapB s x), .sync]) := by show _ = _; unfold acts; rw [if_pos HFULL.out]
        rw [HAC.out] at HPN
        have HIL : Hid (a < d.fs.length) := by show _ < _; rw [HPQ.out.rd.m3]; exact HI3.out
        have HC : Hid (Calls Tryz.prog 63 #[.agg (rdA ts d), .int .i64 (a : Int), .int .i64 0] w5 (ROut (stpD d a .cut) (stpE d a .cut) w5)) := rcut_in ts d a HI3.out 0 (Nat.zero_le _) w5 HPQ.out.rd HG.out.used (by have := HFD.out a; omega)
        go_upto_region 8 with fail
        skip
        -- one call of the reference's disk: world w5, boxes HPQ (disk ts, d); HC : Hid (Calls .. w5 (ROut (stpD d i .cut) (stpE d i .cut) w5)); HPN: pending .cut :: ..; 9: the region behind it
        go_wp2_with (refine wpList_load_row rfl 37 _ rfl w.heap.size rfl 37 (rdA ts d) (0, 0) _ HPQ.out.r3 Tryz.underlying37 rfl (infoRD _ (rdA_size HPQ.out.rd.n3 HPQ.out.rd.m3)) ?_)
        refine HC.out.mono ?_
        rintro e y1 ⟨T1, rfl, hr, hb⟩
        have hq := HPQ.out.next hb
        have HQR := Lib.hid hq.r3
        have HSZ3 : Hid ((rdA ts d).size = (rdA T1 (stpD d a .cut)).size) := by show _ = _; rw [rdA_size hq.rd.n3 hq.rd.m3, rdA_size hr.n3 hr.m3]
        have HP1 := Lib.hid (hq.disk hr)
        have HOK1 : Hid (stpE d a .cut = 0 → Pnd d s a b x a [.sync, .put (wrapB s x), .sync] (stpD d a .cut)) := fun h => HPN.out.ok h
        have HNO1 : Hid (¬ stpE d a .cut = 0 → putSD d s a b x = stpD d a .cut ∧ putSS d s a b x = s ∧ putSE d s a b x = stpE d a .cut) := fun h => HPN.out.no h
        clear hq hr hb HPQ HC HPN
        have HG1 : Hid (Gd (stpD d a .cut) (N + 1)) := HG.out.did HIL.out (.cut 0)
        generalize stpE d a .cut = E1 at *
        generalize stpD d a .cut = D1 at *
        go_upto_region 9 with (refine wpList_store_row rfl 37 _ _ rfl w.heap.size (rdA T1 D1) rfl rfl 37 (rdA ts d) HQR.out (infoRD _ (rdA_size HP1.out.rd.n3 HP1.out.rd.m3)) HSZ3.out (rdA_one HP1.out.rd.n3 HP1.out.rd.m3) ?_)
        try simp only [Act.put, List.setIfInBounds_toArray, List.set_cons_zero, List.set_cons_succ]
        clear HQR HSZ3
        generalize y1.setRow w.heap.size (rdA T1 D1) = z1 at *
        by_cases he1 : E1 = 0
        rotate_left
        · have q1 : (E1 != 0) = true := bne_iff_ne.2 he1
          have HFIN := Lib.hid (HNO1.out he1)
          have HPQ := HP1
          clear he1 HOK1
          go_upto_region 10 with fail
          skip
          -- the results stored and told: region's tree .take 0 (.take 1 (.take 2 (.one 3 (.one 4 (.one 5 .nil))))); HPQ : Hid (PQ w a b T1 D1 s p c z1), the error EX; HFIN : Hid (putSD .. = D1 ∧ putSS .. = s ∧ putSE .. = EX)
          have HL3 : Hid (∀ w', Turns (fun k => k = w.heap.size + 2 ∨ k = w.heap.size + 3) z1 w' → w'.rangeAt w.heap.size 0 (rdA T1 D1).toList) := fun w' hb => row_rangeR (hb.keep HPQ.out.r3 (by rintro (h | h) <;> omega))
          have HL4 : Hid (∀ w', Turns (fun k => k = w.heap.size + 2 ∨ k = w.heap.size + 3) z1 w' → w'.rangeAt (w.heap.size + 1) 0 (rsA a b s p c).toList) := fun w' hb => row_rangeR (hb.keep HPQ.out.r4 (by rintro (h | h) <;> omega))
          refine wp_region_tree (Turns (fun k => k = w.heap.size + 2 ∨ k = w.heap.size + 3) z1) (.take 0 (.take 1 (.take 2 (.one 3 (.one 4 (.one 5 .nil)))))) (by kernel_rfl) (by kernel_rfl) (Turns.of_below (below_drew1 _ _)) ?_
          have hy0 : Below z1.heap.size z1 z1.drew := below_drew1 _ _
          refine tree_load rfl (by rfl) 37 _ rfl w.heap.size 0 rfl (rdA T1 D1) _ (fun w' hb => HL3.out w' hb) Tryz.underlying37 rfl (infoRD _ (rdA_size HPQ.out.rd.n3 HPQ.out.rd.m3)) ?_
          try simp only [Act.put, List.setIfInBounds_toArray, List.set_cons_zero, List.set_cons_succ]
          refine tree_load rfl (by rfl) 46 _ rfl (w.heap.size + 1) 0 rfl (rsA a b s p c) _ (fun w' hb => HL4.out w' hb) Tryz.underlying46 rfl (infoRS _ rfl) ?_
          try simp only [Act.put, List.setIfInBounds_toArray, List.set_cons_zero, List.set_cons_succ]
          repeat (apply tree_take; (· rfl); (· rfl); (· (intro w' hb'; go_simp; try with_reducible rfl)); try simp only [Act.put, List.setIfInBounds_toArray, List.set_cons_zero, List.set_cons_succ])
          have hq1 := HPQ.out.next hy0
          have ht0 : Turns (fun k => k = w.heap.size + 2 ∨ k = w.heap.size + 3) z1 z1.drew := Turns.of_below hy0
          clear HL3 HL4 HPQ hy0
          generalize z1.drew = wD at *
          refine tree_one rfl (by rfl) (fun K hK => oper_of_list rfl ?_)
          refine wpList_store_row rfl 37 _ _ rfl (w.heap.size + 2) (rdA T1 D1) rfl rfl 37 zD hq1.r6 (infoRD _ (rdA_size hq1.rd.n3 hq1.rd.m3)) (by rw [rdA_size hq1.rd.n3 hq1.rd.m3]; rfl) (rdA_one hq1.rd.n3 hq1.rd.m3) ?_
          have ht1 := ht0.trans (turns_setRow wD (w.heap.size + 2) (rdA T1 D1)) (fun k _ hk => .inl hk)
          refine only_end (Shut.out hK _ _ ht1 ?_)
          clear hK K
          try simp only [Act.put]
          have hr7 : (wD.setRow (w.heap.size + 2) (rdA T1 D1)).heap[w.heap.size + 3]? = some (.cells zS 46 (0, 0)) := by rw [setRow_other _ _ _ _ (by omega)]; exact hq1.r7
          refine tree_one rfl (by rfl) (fun K hK => oper_of_list rfl ?_)
          refine wpList_store_row rfl 46 _ _ rfl (w.heap.size + 3) (rsA a b s p c) rfl rfl 46 zS hr7 (infoRS _ rfl) rfl (rsA_one _ _ _ _ _) ?_
          have ht2 := ht1.trans (turns_setRow (wD.setRow (w.heap.size + 2) (rdA T1 D1)) (w.heap.size + 3) (rsA a b s p c)) (fun k _ hk => .inr hk)
          refine only_end (Shut.out hK _ _ ht2 ?_)
          clear hK K
          try simp only [Act.put]
          refine tree_one rfl (by rfl) (fun K hK => ?_)
          go_simp
          refine Shut.out hK _ _ ht2 ?_
          clear hK K
          try simp only [Act.put, List.setIfInBounds_toArray, List.set_cons_zero, List.set_cons_succ]
          refine tree_nil ?_
          go_wp2_with fail
          have hs1 : ((wD.setRow (w.heap.size + 2) (rdA T1 D1)).setRow (w.heap.size + 3) (rsA a b s p c)).heap[w.heap.size + 2]? = some (.cells (rdA T1 D1) 37 (0, 0)) := by rw [setRow_other _ _ _ _ (by omega)]; exact setRow_heap _ _ _ _ _ _ hq1.r6
          have hs2 := setRow_heap _ _ _ (rsA a b s p c) _ _ hr7
          have hk : KR 0 wD ((wD.setRow (w.heap.size + 2) (rdA T1 D1)).setRow (w.heap.size + 3) (rsA a b s p c)) := (kr_turn (turns_setRow _ _ _) hq1.r6 (by decide) (by decide)).trans (kr_turn (turns_setRow _ _ _) hr7 (by decide) (by decide))
          refine bodyPost_ret (results_cells2_tmp rfl _ _ _ _ _ _ _ _ _ _ _ _ rfl rfl hs1 hs2 Tryz.underlying37 rfl (infoRD _ (rdA_size hq1.rd.n3 hq1.rd.m3)) Tryz.underlying46 rfl (infoRS _ rfl)) rfl ?_
          obtain ⟨f1, f2, f3⟩ := HFIN.out
          unfold RPuP
          rw [f1, f2, f3]
          exact ⟨T1, p, c, rfl, hq1.rd.step hk, hq1.rb.step hk, below_setRow (below_setRow hq1.low (by omega) _) (by omega) _⟩
        have q1 : (E1 != 0) = false := by rw [bne_eq_false_iff_eq]; exact he1
        have HPN := Lib.hid (HOK1.out he1)
        have HPQ := HP1
        have HIL : Hid (a < D1.fs.length) := by show _ < _; rw [HPQ.out.rd.m3]; exact HI3.out
        have HOKF : Hid (fD D1 a).Ok := RDB.okF HPQ.out.rd HI3.out
        have HC : Hid (Calls Tryz.prog 34 #[.agg (rdA T1 D1), .int .i64 (a : Int)] z1 (ROut (stpD D1 a .sync) (stpE D1 a .sync) z1)) := rsync_in T1 D1 a HI3.out (fD D1 a) (HPQ.out.rd.fd HI3.out) z1 HPQ.out.rd
        clear he1 HOK1 HNO1 HP1
        go_upto_region 11 with fail
        clear q1
        skip
        -- one call of the reference's disk: world z1, boxes HPQ (disk T1, D1); HC : Hid (Calls .. z1 (ROut (stpD D1 i .sync) (stpE D1 i .sync) z1)); HPN: pending .sync :: ..; 12: the region behind it
        go_wp2_with (refine wpList_load_row rfl 37 _ rfl w.heap.size rfl 37 (rdA T1 D1) (0, 0) _ HPQ.out.r3 Tryz.underlying37 rfl (infoRD _ (rdA_size HPQ.out.rd.n3 HPQ.out.rd.m3)) ?_)
        refine HC.out.mono ?_
        rintro e y2 ⟨T2, rfl, hr, hb⟩
        have hq := HPQ.out.next hb
        have HQR := Lib.hid hq.r3
        have HSZ3 : Hid ((rdA T1 D1).size = (rdA T2 (stpD D1 a .sync)).size) := by show _ = _; rw [rdA_size hq.rd.n3 hq.rd.m3, rdA_size hr.n3 hr.m3]
        have HP2 := Lib.hid (hq.disk hr)
        have HOK3 : Hid (stpE D1 a .sync = 0 → Pnd d s a b x a [.put (wrapB s x), .sync] (stpD D1 a .sync)) := fun h => HPN.out.ok h
        have HNO3 : Hid (¬ stpE D1 a .sync = 0 → putSD d s a b x = stpD D1 a .sync ∧ putSS d s a b x = s ∧ putSE d s a b x = stpE D1 a .sync) := fun h => HPN.out.no h
        clear hq hr hb HPQ HC HPN
        have HG2 : Hid (Gd (stpD D1 a .sync) (N + 1)) := HG1.out.synd HIL.out HOKF.out
        generalize stpE D1 a .sync = E2 at *
        generalize stpD D1 a .sync = D2 at *
        go_upto_region 12 with (refine wpList_store_row rfl 37 _ _ rfl w.heap.size (rdA T2 D2) rfl rfl 37 (rdA T1 D1) HQR.out (infoRD _ (rdA_size HP2.out.rd.n3 HP2.out.rd.m3)) HSZ3.out (rdA_one HP2.out.rd.n3 HP2.out.rd.m3) ?_)
        try simp only [Act.put, List.setIfInBounds_toArray, List.set_cons_zero, List.set_cons_succ]
        clear HQR HSZ3
        generalize y2.setRow w.heap.size (rdA T2 D2) = z2 at *
        by_cases he1 : E2 = 0
        rotate_left
        · have q1 : (E2 != 0) = true := bne_iff_ne.2 he1
          have HFIN := Lib.hid (HNO3.out he1)
          have HPQ := HP2
          clear he1 HOK3
          go_upto_region 13 with fail
          skip
          -- the results stored and told: region's tree .take 0 (.take 1 (.take 2 (.one 3 (.one 4 (.one 5 .nil))))); HPQ : Hid (PQ w a b T2 D2 s p c z2), the error EX; HFIN : Hid (putSD .. = D2 ∧ putSS .. = s ∧ putSE .. = EX)
          have HL3 : Hid (∀ w', Turns (fun k => k = w.heap.size + 2 ∨ k = w.heap.size + 3) z2 w' → w'.rangeAt w.heap.size 0 (rdA T2 D2).toList) := fun w' hb => row_rangeR (hb.keep HPQ.out.r3 (by rintro (h | h) <;> omega))
          have HL4 : Hid (∀ w', Turns (fun k => k = w.heap.size + 2 ∨ k = w.heap.size + 3) z2 w' → w'.rangeAt (w.heap.size + 1) 0 (rsA a b s p c).toList) := fun w' hb => row_rangeR (hb.keep HPQ.out.r4 (by rintro (h | h) <;> omega))
          refine wp_region_tree (Turns (fun k => k = w.heap.size + 2 ∨ k = w.heap.size + 3) z2) (.take 0 (.take 1 (.take 2 (.one 3 (.one 4 (.one 5 .nil)))))) (by kernel_rfl) (by kernel_rfl) (Turns.of_below (below_drew1 _ _)) ?_
          have hy0 : Below z2.heap.size z2 z2.drew := below_drew1 _ _
          refine tree_load rfl (by rfl) 37 _ rfl w.heap.size 0 rfl (rdA T2 D2) _ (fun w' hb => HL3.out w' hb) Tryz.underlying37 rfl (infoRD _ (rdA_size HPQ.out.rd.n3 HPQ.out.rd.m3)) ?_
          try simp only [Act.put, List.setIfInBounds_toArray, List.set_cons_zero, List.set_cons_succ]
          refine tree_load rfl (by rfl) 46 _ rfl (w.heap.size + 1) 0 rfl (rsA a b s p c) _ (fun w' hb => HL4.out w' hb) Tryz.underlying46 rfl (infoRS _ rfl) ?_
          try simp only [Act.put, List.setIfInBounds_toArray, List.set_cons_zero, List.set_cons_succ]
          repeat (apply tree_take; (· rfl); (· rfl); (· (intro w' hb'; go_simp; try with_reducible rfl)); try simp only [Act.put, List.setIfInBounds_toArray, List.set_cons_zero, List.set_cons_succ])
          have hq1 := HPQ.out.next hy0
          have ht0 : Turns (fun k => k = w.heap.size + 2 ∨ k = w.heap.size + 3) z2 z2.drew := Turns.of_below hy0
          clear HL3 HL4 HPQ hy0
          generalize z2.drew = wD at *
          refine tree_one rfl (by rfl) (fun K hK => oper_of_list rfl ?_)
          refine wpList_store_row rfl 37 _ _ rfl (w.heap.size + 2) (rdA T2 D2) rfl rfl 37 zD hq1.r6 (infoRD _ (rdA_size hq1.rd.n3 hq1.rd.m3)) (by rw [rdA_size hq1.rd.n3 hq1.rd.m3]; rfl) (rdA_one hq1.rd.n3 hq1.rd.m3) ?_
          have ht1 := ht0.trans (turns_setRow wD (w.heap.size + 2) (rdA T2 D2)) (fun k _ hk => .inl hk)
          refine only_end (Shut.out hK _ _ ht1 ?_)
          clear hK K
          try simp only [Act.put]
          have hr7 : (wD.setRow (w.heap.size + 2) (rdA T2 D2)).heap[w.heap.size + 3]? = some (.cells zS 46 (0, 0)) := by rw [setRow_other _ _ _ _ (by omega)]; exact hq1.r7
          refine tree_one rfl (by rfl) (fun K hK => oper_of_list rfl ?_)
          refine wpList_store_row rfl 46 _ _ rfl (w.heap.size + 3) (rsA a b s p c) rfl rfl 46 zS hr7 (infoRS _ rfl) rfl (rsA_one _ _ _ _ _) ?_
          have ht2 := ht1.trans (turns_setRow (wD.setRow (w.heap.size + 2) (rdA T2 D2)) (w.heap.size + 3) (rsA a b s p c)) (fun k _ hk => .inr hk)
          refine only_end (Shut.out hK _ _ ht2 ?_)
          clear hK K
          try simp only [Act.put]
          refine tree_one rfl (by rfl) (fun K hK => ?_)
          go_simp
          refine Shut.out hK _ _ ht2 ?_
          clear hK K
          try simp only [Act.put, List.setIfInBounds_toArray, List.set_cons_zero, List.set_cons_succ]
          refine tree_nil ?_
          go_wp2_with fail
          have hs1 : ((wD.setRow (w.heap.size + 2) (rdA T2 D2)).setRow (w.heap.size + 3) (rsA a b s p c)).heap[w.heap.size + 2]? = some (.cells (rdA T2 D2) 37 (0, 0)) := by rw [setRow_other _ _ _ _ (by omega)]; exact setRow_heap _ _ _ _ _ _ hq1.r6
          have hs2 := setRow_heap _ _ _ (rsA a b s p c) _ _ hr7
          have hk : KR 0 wD ((wD.setRow (w.heap.size + 2) (rdA T2 D2)).setRow (w.heap.size + 3) (rsA a b s p c)) := (kr_turn (turns_setRow _ _ _) hq1.r6 (by decide) (by decide)).trans (kr_turn (turns_setRow _ _ _) hr7 (by decide) (by decide))
          refine bodyPost_ret (results_cells2_tmp rfl _ _ _ _ _ _ _ _ _ _ _ _ rfl rfl hs1 hs2 Tryz.underlying37 rfl (infoRD _ (rdA_size hq1.rd.n3 hq1.rd.m3)) Tryz.underlying46 rfl (infoRS _ rfl)) rfl ?_
          obtain ⟨f1, f2, f3⟩ := HFIN.out
          unfold RPuP
          rw [f1, f2, f3]
          exact ⟨T2, p, c, rfl, hq1.rd.step hk, hq1.rb.step hk, below_setRow (below_setRow hq1.low (by omega) _) (by omega) _⟩
        have q1 : (E2 != 0) = false := by rw [bne_eq_false_iff_eq]; exact he1
        have HPN := Lib.hid (HOK3.out he1)
        have HPQ := HP2
        clear he1 HOK3 HNO3 HP2 HIL HOKF HG1
        go_upto_region 14 with fail
        clear q1
        skip
        -- from region 14: put and sync; world z2, disk T2 D2
        have HIL : Hid (a < D2.fs.length) := by show _ < _; rw [HPQ.out.rd.m3]; exact HI3.out
        have HL3 : Hid (∀ w', Below z2.heap.size z2 w' → w'.rangeAt w.heap.size 0 (rdA T2 D2).toList) := fun w' hb => row_rangeR (Below.keepOld hb HPQ.out.r3)
        have HT3 : Hid (∀ w', Below z2.heap.size z2 w' → w'.cell? ⟨w.heap.size + 1, 3, none⟩ = some (.int .u64 (s.turn : Int))) := fun w' hb => (rs_cells (Below.keepOld hb HPQ.out.r4)).2.2.2.1
        have HXB := Lib.hid (HX.out.below HPQ.out.low)
        refine wp_region_eager_u (Below z2.heap.size z2) [0, 1, 2, 3, 4, 6] [(0, true), (1, true), (2, true), (3, true), (4, true), (6, true), (5, false), (7, false), (8, false), (9, false)] (.take 10 (.take 11 (.take 12 (.one 13 (.one 14 .nil))))) (by kernel_rfl) (by kernel_rfl) ?_ (eagerUOpen rfl ?_)
        · exact below_drew1 _ _
        have hy0 : Below z2.heap.size z2 z2.drew := below_drew1 _ _
        repeat (first
          | ((with_reducible refine eagerULoadAt 3 ?_); refine wpEagerU_load (by rfl) 37 _ rfl w.heap.size 0 rfl (rdA T2 D2) _ (fun w' hb => HL3.out w' hb) Tryz.underlying37 rfl (infoRD _ (rdA_size HPQ.out.rd.n3 HPQ.out.rd.m3)) ?_; (try simp only [Act.put, List.setIfInBounds_toArray, List.set_cons_zero, List.set_cons_succ]); (try refine eagerUOpen rfl ?_))
          | (apply wpEagerU_take; (· rfl); (· (intro w' hb'; have hk' := (HT3.out) w' hb'; go_split_ands; go_simp; try with_reducible rfl)); (try simp only [Act.put, List.setIfInBounds_toArray, List.set_cons_zero, List.set_cons_succ]); (try refine eagerUOpen rfl ?_))
          | (first | (apply wpEagerU_take; (· rfl); (· (intro w' hb'; go_simp; try with_reducible rfl)); (try simp only [Act.put, List.setIfInBounds_toArray, List.set_cons_zero, List.set_cons_succ]); (try refine eagerUOpen rfl ?_)) | (refine wpEagerU_skip (by rfl) ?_; (try simp only [Act.put, List.setIfInBounds_toArray, List.set_cons_zero, List.set_cons_succ]); (try refine eagerUOpen rfl ?_))))
        (refine wpEagerU_op (by rfl) (fun K hK => ?_); go_simp; (refine (number8 z2.drew TN HTL.out).mono ?_; rintro e y8 ⟨p8, c8, rfl, ho, hb⟩; have hy1 : Below z2.heap.size z2 y8 := hy0.trans hb; have HO8 := Lib.hid ho; clear ho hb); refine Shut.out hK _ _ (by assumption) ?_; clear hK K; (try simp only [Act.put, List.setIfInBounds_toArray, List.set_cons_zero, List.set_cons_succ]); (try refine eagerUOpen rfl ?_))
        have HB8 : Hid (z2.heap.size ≤ y8.heap.size) := hy1.size
        have HXS := Lib.hid (HXB.out.below hy1)
        refine wpEagerU_op (by rfl) (fun K hK => oper_of_list rfl ?_)
        refine wpList_append_nx rfl _ _ 22 rfl (base := z2.drew.heap.size) Tryz.underlying22 Frm.info8b rfl (by omega) rfl HO8.out rfl HXS.out (bytesV_one _) ⟨by omega, by omega⟩ HB8.out ?_
        intro p9 c9 y9 ho9 hgr hnx _
        have hb9 := own_below HO8.out hgr HB8.out
        have hy2 : Below z2.heap.size z2 y9 := hy1.trans (show Below z2.heap.size y8 y9 from hb9)
        have HFB : Hid (Bs y9 p9 (8 + x.length) c9 (be TN 8 ++ x)) := by
          rw [← bytesV_append] at ho9
          exact Cut.own_bs ho9
        have HWB : Hid (frame (be TN 8 ++ x) = wrapB s x) := by show _ = _; unfold wrapB; rw [HTN.out]
        have HWL : Hid ((wrapB s x).length ≤ 60000) := by show _ ≤ _; rw [← HWB.out, Frm.frame_length, List.length_append, be_length]; omega
        have HFR := Lib.hid (Frm.rbytes_any p9 (8 + x.length) c9 (be TN 8 ++ x) y9 HFB.out (by omega))
        rw [HWB.out] at HFR
        refine only_end (Shut.out hK _ _ hy2 ?_)
        clear hK K ho9 hgr hnx hb9 HO8 HXS HB8 HFB HWB
        (try simp only [Act.put, List.setIfInBounds_toArray, List.set_cons_zero, List.set_cons_succ]); (try refine eagerUOpen rfl ?_)
        (refine wpEagerU_op (by rfl) (fun K hK => ?_); go_simp; (refine HFR.out.mono ?_; rintro e yF ⟨pF, cF, rfl, ho, hb⟩; have HOF := Lib.hid (Cut.own_bs ho); have hy3 : Below z2.heap.size z2 yF := hy2.trans (hb.mono hy2.size); clear ho hb); refine Shut.out hK _ _ (by assumption) ?_; clear hK K; (try simp only [Act.put, List.setIfInBounds_toArray, List.set_cons_zero, List.set_cons_succ]); (try refine eagerUOpen rfl ?_))
        have HPC : Hid (Calls Tryz.prog 8 #[.agg (rdA T2 D2), .int .i64 (a : Int), .slice pF (wrapB s x).length cF] yF (ROut (stpD D2 a (.put (wrapB s x))) (stpE D2 a (.put (wrapB s x))) yF)) := rput_in T2 D2 a HI3.out pF (wrapB s x) cF yF (HPQ.out.rd.below hy3) HG2.out.used HOF.out HWL.out (by have := fewfd (i := a) HG2.out.few; omega)
        (refine wpEagerU_op (by rfl) (fun K hK => ?_); go_simp; (refine HPC.out.mono ?_; rintro e yP ⟨T5, rfl, hr, hb⟩; have HR5 := Lib.hid hr; have hy4 : Below z2.heap.size z2 yP := hy3.trans (hb.mono hy3.size); clear hr hb); refine Shut.out hK _ _ (by assumption) ?_; clear hK K; (try simp only [Act.put, List.setIfInBounds_toArray, List.set_cons_zero, List.set_cons_succ]); (try refine eagerUOpen rfl ?_))
        refine eagerUEnd ?_
        have hq := HPQ.out.next hy4
        have HQR := Lib.hid hq.r3
        have HSZ3 : Hid ((rdA T2 D2).size = (rdA T5 (stpD D2 a (.put (wrapB s x)))).size) := by show _ = _; rw [rdA_size hq.rd.n3 hq.rd.m3, rdA_size HR5.out.n3 HR5.out.m3]
        have HP5 := Lib.hid (hq.disk HR5.out)
        have HOK5 : Hid (stpE D2 a (.put (wrapB s x)) = 0 → Pnd d s a b x a [.sync] (stpD D2 a (.put (wrapB s x)))) := fun h => HPN.out.ok h
        have HNO5 : Hid (¬ stpE D2 a (.put (wrapB s x)) = 0 → putSD d s a b x = stpD D2 a (.put (wrapB s x)) ∧ putSS d s a b x = s ∧ putSE d s a b x = stpE D2 a (.put (wrapB s x))) := fun h => HPN.out.no h
        obtain ⟨M5, HG5⟩ : ∃ M, Hid (Gd (stpD D2 a (.put (wrapB s x))) M) := ⟨_, HG2.out.did HIL.out _⟩
        clear hq HPN HPQ HL3 HT3 HXB HPC HFR HOF HWL hy0 hy1 hy2 hy3 hy4 HIL HG2 HR5
        generalize stpE D2 a (.put (wrapB s x)) = E5 at *
        generalize stpD D2 a (.put (wrapB s x)) = D5 at *
        repeat (apply tree_take; (· rfl); (· rfl); (· (intro w' hb'; go_simp; try with_reducible rfl)); try simp only [Act.put, List.setIfInBounds_toArray, List.set_cons_zero, List.set_cons_succ])
        refine tree_one rfl (by rfl) (fun K hK => oper_of_list rfl ?_)
        refine wpList_store_row rfl 37 _ _ rfl w.heap.size (rdA T5 D5) rfl rfl 37 (rdA T2 D2) HQR.out (infoRD _ (rdA_size HP5.out.rd.n3 HP5.out.rd.m3)) HSZ3.out (rdA_one HP5.out.rd.n3 HP5.out.rd.m3) ?_
        refine only_end (Shut.out hK _ _ trivial ?_)
        clear hK K HQR HSZ3
        try simp only [Act.put]
        generalize yP.setRow w.heap.size (rdA T5 D5) = z5 at *
        refine tree_one rfl (by rfl) (fun K hK => ?_)
        go_simp
        refine Shut.out hK _ _ trivial ?_
        clear hK K
        try simp only [Act.put, List.setIfInBounds_toArray, List.set_cons_zero, List.set_cons_succ]
        refine tree_nil ?_
        by_cases he1 : E5 = 0
        rotate_left
        · have q1 : (E5 != 0) = true := bne_iff_ne.2 he1
          have HFIN := Lib.hid (HNO5.out he1)
          have HPQ := HP5
          clear he1 HOK5
          go_upto_region 16 with fail
          skip
          -- the results stored and told: region's tree .take 0 (.take 1 (.take 2 (.one 3 (.one 4 (.one 5 .nil))))); HPQ : Hid (PQ w a b T5 D5 s p c z5), the error EX; HFIN : Hid (putSD .. = D5 ∧ putSS .. = s ∧ putSE .. = EX)
          have HL3 : Hid (∀ w', Turns (fun k => k = w.heap.size + 2 ∨ k = w.heap.size + 3) z5 w' → w'.rangeAt w.heap.size 0 (rdA T5 D5).toList) := fun w' hb => row_rangeR (hb.keep HPQ.out.r3 (by rintro (h | h) <;> omega))
          have HL4 : Hid (∀ w', Turns (fun k => k = w.heap.size + 2 ∨ k = w.heap.size + 3) z5 w' → w'.rangeAt (w.heap.size + 1) 0 (rsA a b s p c).toList) := fun w' hb => row_rangeR (hb.keep HPQ.out.r4 (by rintro (h | h) <;> omega))
          refine wp_region_tree (Turns (fun k => k = w.heap.size + 2 ∨ k = w.heap.size + 3) z5) (.take 0 (.take 1 (.take 2 (.one 3 (.one 4 (.one 5 .nil)))))) (by kernel_rfl) (by kernel_rfl) (Turns.of_below (below_drew1 _ _)) ?_
          have hy0 : Below z5.heap.size z5 z5.drew := below_drew1 _ _
          refine tree_load rfl (by rfl) 37 _ rfl w.heap.size 0 rfl (rdA T5 D5) _ (fun w' hb => HL3.out w' hb) Tryz.underlying37 rfl (infoRD _ (rdA_size HPQ.out.rd.n3 HPQ.out.rd.m3)) ?_
          try simp only [Act.put, List.setIfInBounds_toArray, List.set_cons_zero, List.set_cons_succ]
          refine tree_load rfl (by rfl) 46 _ rfl (w.heap.size + 1) 0 rfl (rsA a b s p c) _ (fun w' hb => HL4.out w' hb) Tryz.underlying46 rfl (infoRS _ rfl) ?_
          try simp only [Act.put, List.setIfInBounds_toArray, List.set_cons_zero, List.set_cons_succ]
          repeat (apply tree_take; (· rfl); (· rfl); (· (intro w' hb'; go_simp; try with_reducible rfl)); try simp only [Act.put, List.setIfInBounds_toArray, List.set_cons_zero, List.set_cons_succ])
          have hq1 := HPQ.out.next hy0
          have ht0 : Turns (fun k => k = w.heap.size + 2 ∨ k = w.heap.size + 3) z5 z5.drew := Turns.of_below hy0
          clear HL3 HL4 HPQ hy0
          generalize z5.drew = wD at *
          refine tree_one rfl (by rfl) (fun K hK => oper_of_list rfl ?_)
          refine wpList_store_row rfl 37 _ _ rfl (w.heap.size + 2) (rdA T5 D5) rfl rfl 37 zD hq1.r6 (infoRD _ (rdA_size hq1.rd.n3 hq1.rd.m3)) (by rw [rdA_size hq1.rd.n3 hq1.rd.m3]; rfl) (rdA_one hq1.rd.n3 hq1.rd.m3) ?_
          have ht1 := ht0.trans (turns_setRow wD (w.heap.size + 2) (rdA T5 D5)) (fun k _ hk => .inl hk)
          refine only_end (Shut.out hK _ _ ht1 ?_)
          clear hK K
          try simp only [Act.put]
          have hr7 : (wD.setRow (w.heap.size + 2) (rdA T5 D5)).heap[w.heap.size + 3]? = some (.cells zS 46 (0, 0)) := by rw [setRow_other _ _ _ _ (by omega)]; exact hq1.r7
          refine tree_one rfl (by rfl) (fun K hK => oper_of_list rfl ?_)
          refine wpList_store_row rfl 46 _ _ rfl (w.heap.size + 3) (rsA a b s p c) rfl rfl 46 zS hr7 (infoRS _ rfl) rfl (rsA_one _ _ _ _ _) ?_
          have ht2 := ht1.trans (turns_setRow (wD.setRow (w.heap.size + 2) (rdA T5 D5)) (w.heap.size + 3) (rsA a b s p c)) (fun k _ hk => .inr hk)
          refine only_end (Shut.out hK _ _ ht2 ?_)
          clear hK K
          try simp only [Act.put]
          refine tree_one rfl (by rfl) (fun K hK => ?_)
          go_simp
          refine Shut.out hK _ _ ht2 ?_
          clear hK K
          try simp only [Act.put, List.setIfInBounds_toArray, List.set_cons_zero, List.set_cons_succ]
          refine tree_nil ?_
          go_wp2_with fail
          have hs1 : ((wD.setRow (w.heap.size + 2) (rdA T5 D5)).setRow (w.heap.size + 3) (rsA a b s p c)).heap[w.heap.size + 2]? = some (.cells (rdA T5 D5) 37 (0, 0)) := by rw [setRow_other _ _ _ _ (by omega)]; exact setRow_heap _ _ _ _ _ _ hq1.r6
          have hs2 := setRow_heap _ _ _ (rsA a b s p c) _ _ hr7
          have hk : KR 0 wD ((wD.setRow (w.heap.size + 2) (rdA T5 D5)).setRow (w.heap.size + 3) (rsA a b s p c)) := (kr_turn (turns_setRow _ _ _) hq1.r6 (by decide) (by decide)).trans (kr_turn (turns_setRow _ _ _) hr7 (by decide) (by decide))
          refine bodyPost_ret (results_cells2_tmp rfl _ _ _ _ _ _ _ _ _ _ _ _ rfl rfl hs1 hs2 Tryz.underlying37 rfl (infoRD _ (rdA_size hq1.rd.n3 hq1.rd.m3)) Tryz.underlying46 rfl (infoRS _ rfl)) rfl ?_
          obtain ⟨f1, f2, f3⟩ := HFIN.out
          unfold RPuP
          rw [f1, f2, f3]
          exact ⟨T5, p, c, rfl, hq1.rd.step hk, hq1.rb.step hk, below_setRow (below_setRow hq1.low (by omega) _) (by omega) _⟩
        have q1 : (E5 != 0) = false := by rw [bne_eq_false_iff_eq]; exact he1
        have HPN := Lib.hid (HOK5.out he1)
        have HPQ := HP5
        have HIL : Hid (a < D5.fs.length) := by show _ < _; rw [HPQ.out.rd.m3]; exact HI3.out
        have HOKF : Hid (fD D5 a).Ok := RDB.okF HPQ.out.rd HI3.out
        have HC : Hid (Calls Tryz.prog 34 #[.agg (rdA T5 D5), .int .i64 (a : Int)] z5 (ROut (stpD D5 a .sync) (stpE D5 a .sync) z5)) := rsync_in T5 D5 a HI3.out (fD D5 a) (HPQ.out.rd.fd HI3.out) z5 HPQ.out.rd
        clear he1 HOK5 HNO5 HP5
        go_upto_region 17 with fail
        clear q1
        skip
        -- one call of the reference's disk: world z5, boxes HPQ (disk T5, D5); HC : Hid (Calls .. z5 (ROut (stpD D5 i .sync) (stpE D5 i .sync) z5)); HPN: pending .sync :: ..; 18: the region behind it
        go_wp2_with (refine wpList_load_row rfl 37 _ rfl w.heap.size rfl 37 (rdA T5 D5) (0, 0) _ HPQ.out.r3 Tryz.underlying37 rfl (infoRD _ (rdA_size HPQ.out.rd.n3 HPQ.out.rd.m3)) ?_)
        refine HC.out.mono ?_
        rintro e y6 ⟨T6, rfl, hr, hb⟩
        have hq := HPQ.out.next hb
        have HQR := Lib.hid hq.r3
        have HSZ3 : Hid ((rdA T5 D5).size = (rdA T6 (stpD D5 a .sync)).size) := by show _ = _; rw [rdA_size hq.rd.n3 hq.rd.m3, rdA_size hr.n3 hr.m3]
        have HP6 := Lib.hid (hq.disk hr)
        have HOK6 : Hid (stpE D5 a .sync = 0 → Pnd d s a b x a [] (stpD D5 a .sync)) := fun h => HPN.out.ok h
        have HNO6 : Hid (¬ stpE D5 a .sync = 0 → putSD d s a b x = stpD D5 a .sync ∧ putSS d s a b x = s ∧ putSE d s a b x = stpE D5 a .sync) := fun h => HPN.out.no h
        clear hq hr hb HPQ HC HPN
        have HG6 : Hid (Gd (stpD D5 a .sync) (M5)) := HG5.out.synd HIL.out HOKF.out
        generalize stpE D5 a .sync = E6 at *
        generalize stpD D5 a .sync = D6 at *
        go_upto_region 18 with (refine wpList_store_row rfl 37 _ _ rfl w.heap.size (rdA T6 D6) rfl rfl 37 (rdA T5 D5) HQR.out (infoRD _ (rdA_size HP6.out.rd.n3 HP6.out.rd.m3)) HSZ3.out (rdA_one HP6.out.rd.n3 HP6.out.rd.m3) ?_)
        try simp only [Act.put, List.setIfInBounds_toArray, List.set_cons_zero, List.set_cons_succ]
        clear HQR HSZ3
        generalize y6.setRow w.heap.size (rdA T6 D6) = z6 at *
        by_cases he1 : E6 = 0
        rotate_left
        · have q1 : (E6 != 0) = true := bne_iff_ne.2 he1
          have HFIN := Lib.hid (HNO6.out he1)
          have HPQ := HP6
          clear he1 HOK6
          go_upto_region 19 with fail
          skip
          -- the results stored and told: region's tree .take 0 (.take 1 (.take 2 (.one 3 (.one 4 (.one 5 .nil))))); HPQ : Hid (PQ w a b T6 D6 s p c z6), the error EX; HFIN : Hid (putSD .. = D6 ∧ putSS .. = s ∧ putSE .. = EX)
          have HL3 : Hid (∀ w', Turns (fun k => k = w.heap.size + 2 ∨ k = w.heap.size + 3) z6 w' → w'.rangeAt w.heap.size 0 (rdA T6 D6).toList) := fun w' hb => row_rangeR (hb.keep HPQ.out.r3 (by rintro (h | h) <;> omega))
          have HL4 : Hid (∀ w', Turns (fun k => k = w.heap.size + 2 ∨ k = w.heap.size + 3) z6 w' → w'.rangeAt (w.heap.size + 1) 0 (rsA a b s p c).toList) := fun w' hb => row_rangeR (hb.keep HPQ.out.r4 (by rintro (h | h) <;> omega))
          refine wp_region_tree (Turns (fun k => k = w.heap.size + 2 ∨ k = w.heap.size + 3) z6) (.take 0 (.take 1 (.take 2 (.one 3 (.one 4 (.one 5 .nil)))))) (by kernel_rfl) (by kernel_rfl) (Turns.of_below (below_drew1 _ _)) ?_
          have hy0 : Below z6.heap.size z6 z6.drew := below_drew1 _ _
          refine tree_load rfl (by rfl) 37 _ rfl w.heap.size 0 rfl (rdA T6 D6) _ (fun w' hb => HL3.out w' hb) Tryz.underlying37 rfl (infoRD _ (rdA_size HPQ.out.rd.n3 HPQ.out.rd.m3)) ?_
          try simp only [Act.put, List.setIfInBounds_toArray, List.set_cons_zero, List.set_cons_succ]
          refine tree_load rfl (by rfl) 46 _ rfl (w.heap.size + 1) 0 rfl (rsA a b s p c) _ (fun w' hb => HL4.out w' hb) Tryz.underlying46 rfl (infoRS _ rfl) ?_
          try simp only [Act.put, List.setIfInBounds_toArray, List.set_cons_zero, List.set_cons_succ]
          repeat (apply tree_take; (· rfl); (· rfl); (· (intro w' hb'; go_simp; try with_reducible rfl)); try simp only [Act.put, List.setIfInBounds_toArray, List.set_cons_zero, List.set_cons_succ])
          have hq1 := HPQ.out.next hy0
          have ht0 : Turns (fun k => k = w.heap.size + 2 ∨ k = w.heap.size + 3) z6 z6.drew := Turns.of_below hy0
          clear HL3 HL4 HPQ hy0
          generalize z6.drew = wD at *
          refine tree_one rfl (by rfl) (fun K hK => oper_of_list rfl ?_)
          refine wpList_store_row rfl 37 _ _ rfl (w.heap.size + 2) (rdA T6 D6) rfl rfl 37 zD hq1.r6 (infoRD _ (rdA_size hq1.rd.n3 hq1.rd.m3)) (by rw [rdA_size hq1.rd.n3 hq1.rd.m3]; rfl) (rdA_one hq1.rd.n3 hq1.rd.m3) ?_
          have ht1 := ht0.trans (turns_setRow wD (w.heap.size + 2) (rdA T6 D6)) (fun k _ hk => .inl hk)
          refine only_end (Shut.out hK _ _ ht1 ?_)
          clear hK K
          try simp only [Act.put]
          have hr7 : (wD.setRow (w.heap.size + 2) (rdA T6 D6)).heap[w.heap.size + 3]? = some (.cells zS 46 (0, 0)) := by rw [setRow_other _ _ _ _ (by omega)]; exact hq1.r7
          refine tree_one rfl (by rfl) (fun K hK => oper_of_list rfl ?_)
          refine wpList_store_row rfl 46 _ _ rfl (w.heap.size + 3) (rsA a b s p c) rfl rfl 46 zS hr7 (infoRS _ rfl) rfl (rsA_one _ _ _ _ _) ?_
          have ht2 := ht1.trans (turns_setRow (wD.setRow (w.heap.size + 2) (rdA T6 D6)) (w.heap.size + 3) (rsA a b s p c)) (fun k _ hk => .inr hk)
          refine only_end (Shut.out hK _ _ ht2 ?_)
          clear hK K
          try simp only [Act.put]
          refine tree_one rfl (by rfl) (fun K hK => ?_)
          go_simp
          refine Shut.out hK _ _ ht2 ?_
          clear hK K
          try simp only [Act.put, List.setIfInBounds_toArray, List.set_cons_zero, List.set_cons_succ]
          refine tree_nil ?_
          go_wp2_with fail
          have hs1 : ((wD.setRow (w.heap.size + 2) (rdA T6 D6)).setRow (w.heap.size + 3) (rsA a b s p c)).heap[w.heap.size + 2]? = some (.cells (rdA T6 D6) 37 (0, 0)) := by rw [setRow_other _ _ _ _ (by omega)]; exact setRow_heap _ _ _ _ _ _ hq1.r6
          have hs2 := setRow_heap _ _ _ (rsA a b s p c) _ _ hr7
          have hk : KR 0 wD ((wD.setRow (w.heap.size + 2) (rdA T6 D6)).setRow (w.heap.size + 3) (rsA a b s p c)) := (kr_turn (turns_setRow _ _ _) hq1.r6 (by decide) (by decide)).trans (kr_turn (turns_setRow _ _ _) hr7 (by decide) (by decide))
          refine bodyPost_ret (results_cells2_tmp rfl _ _ _ _ _ _ _ _ _ _ _ _ rfl rfl hs1 hs2 Tryz.underlying37 rfl (infoRD _ (rdA_size hq1.rd.n3 hq1.rd.m3)) Tryz.underlying46 rfl (infoRS _ rfl)) rfl ?_
          obtain ⟨f1, f2, f3⟩ := HFIN.out
          unfold RPuP
          rw [f1, f2, f3]
          exact ⟨T6, p, c, rfl, hq1.rd.step hk, hq1.rb.step hk, below_setRow (below_setRow hq1.low (by omega) _) (by omega) _⟩
        have q1 : (E6 != 0) = false := by rw [bne_eq_false_iff_eq]; exact he1
        have HFIN0 := Lib.hid (HOK6.out he1).end
        have HPQ := HP6
        clear he1 HOK6 HNO6 HP6 HIL HOKF HG5 HG6
        obtain ⟨_, _, c2, c3, c4, hfz⟩ := rs_cells HPQ.out.r4
        have hq1 := HPQ.out.cell (s' := ⟨(a : Int), s.turn, s.body⟩) (p' := p) (c' := c) 2 (.int .i64 (a : Int)) rfl HPQ.out.rb
        have hq2 := hq1.cell (s' := ⟨(a : Int), TN, s.body⟩) (p' := p) (c' := c) 3 (.int .u64 (TN : Int)) rfl hq1.rb
        go_upto_region 22 with fail
        clear c2 c3 c4 hfz hq1 HPQ q1
        generalize (z6.setCell ⟨w.heap.size + 1, 2, none⟩ (.int .i64 (a : Int))).setCell ⟨w.heap.size + 1, 3, none⟩ (.int .u64 (TN : Int)) = z8 at *
        have HQ2 := Lib.hid hq2
        have hal := Below.allocs z8 (.cells #[] 5)
        have HO0 : Hid ((z8.alloc (.cells #[] 5)).ownsRow z8.heap.size 5 1 (.slice (some ⟨z8.heap.size, 0, none⟩) 0 0) 0 []) := own_made0 z8 _ _ _ _ rfl (Nat.le_refl _)
        have HXS := Lib.hid ((HX.out.below hq2.low).below hal)
        have HZS := Lib.hid hal.size
        have HZL := Lib.hid hal
        clear hq2 hal
        go_wp2_with (at_builtin; refine wpList_append_nx rfl _ _ 22 rfl (base := z8.heap.size) Tryz.underlying22 Frm.info8b rfl (by omega) rfl HO0.out rfl HXS.out (bytesV_one _) ⟨by omega, by omega⟩ HZS.out ?_)
        intro p9 c9 y9 ho9 hgr hnx _
        have hb9 := HZL.out.trans (own_below HO0.out hgr HZS.out)
        have hq3 := HQ2.out.next hb9
        try simp only [Nat.zero_add, List.nil_append] at ho9
        try simp only [Nat.zero_add]
        obtain ⟨_, _, _, _, c4, hfz⟩ := rs_cells hq3.r4
        have HPQ := Lib.hid (hq3.cell (s' := ⟨(a : Int), TN, x⟩) (p' := p9) (c' := c9) 4 (.slice p9 x.length c9) rfl (RBs.own ho9))
        have HFIN : Hid (putSD d s a b x = D6 ∧ putSS d s a b x = ⟨(a : Int), TN, x⟩ ∧ putSE d s a b x = 0) := by
          have h := HFIN0.out
          rw [HTN.out] at h
          exact h
        clear ho9 hgr hnx hb9 hq3 HQ2 HO0 HXS HZS HZL HFIN0
        go_upto_region 23 with fail
        clear c4 hfz
        generalize y9.setCell ⟨w.heap.size + 1, 4, none⟩ (.slice p9 x.length c9) = z9 at *
        skip
        -- the results stored and told: region's tree .take 0 (.take 1 (.one 2 (.one 3 (.one 4 .nil)))); HPQ : Hid (PQ w a b T6 D6 ⟨(a : Int), TN, x⟩ p9 c9 z9), the error EX; HFIN : Hid (putSD .. = D6 ∧ putSS .. = ⟨(a : Int), TN, x⟩ ∧ putSE .. = EX)
        have HL3 : Hid (∀ w', Turns (fun k => k = w.heap.size + 2 ∨ k = w.heap.size + 3) z9 w' → w'.rangeAt w.heap.size 0 (rdA T6 D6).toList) := fun w' hb => row_rangeR (hb.keep HPQ.out.r3 (by rintro (h | h) <;> omega))
        have HL4 : Hid (∀ w', Turns (fun k => k = w.heap.size + 2 ∨ k = w.heap.size + 3) z9 w' → w'.rangeAt (w.heap.size + 1) 0 (rsA a b ⟨(a : Int), TN, x⟩ p9 c9).toList) := fun w' hb => row_rangeR (hb.keep HPQ.out.r4 (by rintro (h | h) <;> omega))
        refine wp_region_tree (Turns (fun k => k = w.heap.size + 2 ∨ k = w.heap.size + 3) z9) (.take 0 (.take 1 (.one 2 (.one 3 (.one 4 .nil))))) (by kernel_rfl) (by kernel_rfl) (Turns.of_below (below_drew1 _ _)) ?_
        have hy0 : Below z9.heap.size z9 z9.drew := below_drew1 _ _
        refine tree_load rfl (by rfl) 37 _ rfl w.heap.size 0 rfl (rdA T6 D6) _ (fun w' hb => HL3.out w' hb) Tryz.underlying37 rfl (infoRD _ (rdA_size HPQ.out.rd.n3 HPQ.out.rd.m3)) ?_
        try simp only [Act.put, List.setIfInBounds_toArray, List.set_cons_zero, List.set_cons_succ]
        refine tree_load rfl (by rfl) 46 _ rfl (w.heap.size + 1) 0 rfl (rsA a b ⟨(a : Int), TN, x⟩ p9 c9) _ (fun w' hb => HL4.out w' hb) Tryz.underlying46 rfl (infoRS _ rfl) ?_
        try simp only [Act.put, List.setIfInBounds_toArray, List.set_cons_zero, List.set_cons_succ]
        repeat (apply tree_take; (· rfl); (· rfl); (· (intro w' hb'; go_simp; try with_reducible rfl)); try simp only [Act.put, List.setIfInBounds_toArray, List.set_cons_zero, List.set_cons_succ])
        have hq1 := HPQ.out.next hy0
        have ht0 : Turns (fun k => k = w.heap.size + 2 ∨ k = w.heap.size + 3) z9 z9.drew := Turns.of_below hy0
        clear HL3 HL4 HPQ hy0
        generalize z9.drew = wD at *
        refine tree_one rfl (by rfl) (fun K hK => oper_of_list rfl ?_)
        refine wpList_store_row rfl 37 _ _ rfl (w.heap.size + 2) (rdA T6 D6) rfl rfl 37 zD hq1.r6 (infoRD _ (rdA_size hq1.rd.n3 hq1.rd.m3)) (by rw [rdA_size hq1.rd.n3 hq1.rd.m3]; rfl) (rdA_one hq1.rd.n3 hq1.rd.m3) ?_
        have ht1 := ht0.trans (turns_setRow wD (w.heap.size + 2) (rdA T6 D6)) (fun k _ hk => .inl hk)
        refine only_end (Shut.out hK _ _ ht1 ?_)
        clear hK K
        try simp only [Act.put]
        have hr7 : (wD.setRow (w.heap.size + 2) (rdA T6 D6)).heap[w.heap.size + 3]? = some (.cells zS 46 (0, 0)) := by rw [setRow_other _ _ _ _ (by omega)]; exact hq1.r7
        refine tree_one rfl (by rfl) (fun K hK => oper_of_list rfl ?_)
        refine wpList_store_row rfl 46 _ _ rfl (w.heap.size + 3) (rsA a b ⟨(a : Int), TN, x⟩ p9 c9) rfl rfl 46 zS hr7 (infoRS _ rfl) rfl (rsA_one _ _ _ _ _) ?_
        have ht2 := ht1.trans (turns_setRow (wD.setRow (w.heap.size + 2) (rdA T6 D6)) (w.heap.size + 3) (rsA a b ⟨(a : Int), TN, x⟩ p9 c9)) (fun k _ hk => .inr hk)
        refine only_end (Shut.out hK _ _ ht2 ?_)
        clear hK K
        try simp only [Act.put]
        refine tree_one rfl (by rfl) (fun K hK => ?_)
        go_simp
        refine Shut.out hK _ _ ht2 ?_
        clear hK K
        try simp only [Act.put, List.setIfInBounds_toArray, List.set_cons_zero, List.set_cons_succ]
        refine tree_nil ?_
        go_wp2_with fail
        have hs1 : ((wD.setRow (w.heap.size + 2) (rdA T6 D6)).setRow (w.heap.size + 3) (rsA a b ⟨(a : Int), TN, x⟩ p9 c9)).heap[w.heap.size + 2]? = some (.cells (rdA T6 D6) 37 (0, 0)) := by rw [setRow_other _ _ _ _ (by omega)]; exact setRow_heap _ _ _ _ _ _ hq1.r6
        have hs2 := setRow_heap _ _ _ (rsA a b ⟨(a : Int), TN, x⟩ p9 c9) _ _ hr7
        have hk : KR 0 wD ((wD.setRow (w.heap.size + 2) (rdA T6 D6)).setRow (w.heap.size + 3) (rsA a b ⟨(a : Int), TN, x⟩ p9 c9)) := (kr_turn (turns_setRow _ _ _) hq1.r6 (by decide) (by decide)).trans (kr_turn (turns_setRow _ _ _) hr7 (by decide) (by decide))
        refine bodyPost_ret (results_cells2_tmp rfl _ _ _ _ _ _ _ _ _ _ _ _ rfl rfl hs1 hs2 Tryz.underlying37 rfl (infoRD _ (rdA_size hq1.rd.n3 hq1.rd.m3)) Tryz.underlying46 rfl (infoRS _ rfl)) rfl ?_
        obtain ⟨f1, f2, f3⟩ := HFIN.out
        unfold RPuP
        rw [f1, f2, f3]
        exact ⟨T6, p9, c9, rfl, hq1.rd.step hk, hq1.rb.step hk, below_setRow (below_setRow hq1.low (by omega) _) (by omega) _⟩
      · have q1 : decide ((0 : Int) < ((fD d a).now.length : Int)) = false := decide_eq_false (by omega)
        have q2 : decide (0 < (fD d a).now.length) = false := decide_eq_false hl
        go_wp2_with ((with_reducible refine wpAt 42 ?_); refine loadMidG rfl 34 _ rfl w.heap.size (a * 2) rfl (fA t (fD d a)) _ HRG5.out Tryz.underlying34 rfl (infoFi (fA t (fD d a)) rfl) ?_)
        refine (HUN.out w5 HB5.out).mono ?_
        rintro e w6 ⟨rfl, hb6⟩
        have HPQ := Lib.hid (HPQ5.out.next hb6)
        clear hb6 HPQ5 HUN HRG5 HB5 q1 q2
        by_cases hu : 0 < unitsAll (fD d a).steps
        · have q3 : decide ((0 : Int) < (unitsAll (fD d a).steps : Int)) = true := decide_eq_true (by omega)
          have q4 : decide (0 < unitsAll (fD d a).steps) = true := decide_eq_true hu
          have HFULL : Hid (full d a = true) := by show _ = _; unfold full; rw [decide_eq_true hu, Bool.or_true]
          skip
          -- file a holds something: cut, sync, put, sync
          have HAC : Hid (acts d a (wrapB s x) = [.cut, .sync, .put (wrapB s x), .sync]) := by show _ = _; unfold acts; rw [if_pos HFULL.out]
          rw [HAC.out] at HPN
          have HIL : Hid (a < d.fs.length) := by show _ < _; rw [HPQ.out.rd.m3]; exact HI3.out
          have HC : Hid (Calls Tryz.prog 63 #[.agg (rdA ts d), .int .i64 (a : Int), .int .i64 0] w6 (ROut (stpD d a .cut) (stpE d a .cut) w6)) := rcut_in ts d a HI3.out 0 (Nat.zero_le _) w6 HPQ.out.rd HG.out.used (by have := HFD.out a; omega)
          go_upto_region 8 with fail
          skip
          -- one call of the reference's disk: world w6, boxes HPQ (disk ts, d); HC : Hid (Calls .. w6 (ROut (stpD d i .cut) (stpE d i .cut) w6)); HPN: pending .cut :: ..; 9: the region behind it
          go_wp2_with (refine wpList_load_row rfl 37 _ rfl w.heap.size rfl 37 (rdA ts d) (0, 0) _ HPQ.out.r3 Tryz.underlying37 rfl (infoRD _ (rdA_size HPQ.out.rd.n3 HPQ.out.rd.m3)) ?_)
          refine HC.out.mono ?_
          rintro e y1 ⟨T1, rfl, hr, hb⟩
          have hq := HPQ.out.next hb
          have HQR := Lib.hid hq.r3
          have HSZ3 : Hid ((rdA ts d).size = (rdA T1 (stpD d a .cut)).size) := by show _ = _; rw [rdA_size hq.rd.n3 hq.rd.m3, rdA_size hr.n3 hr.m3]
          have HP1 := Lib.hid (hq.disk hr)
          have HOK1 : Hid (stpE d a .cut = 0 → Pnd d s a b x a [.sync, .put (wrapB s x), .sync] (stpD d a .cut)) := fun h => HPN.out.ok h
          have HNO1 : Hid (¬ stpE d a .cut = 0 → putSD d s a b x = stpD d a .cut ∧ putSS d s a b x = s ∧ putSE d s a b x = stpE d a .cut) := fun h => HPN.out.no h
          clear hq hr hb HPQ HC HPN
          have HG1 : Hid (Gd (stpD d a .cut) (N + 1)) := HG.out.did HIL.out (.cut 0)
          generalize stpE d a .cut = E1 at *
          generalize stpD d a .cut = D1 at *
          go_upto_region 9 with (refine wpList_store_row rfl 37 _ _ rfl w.heap.size (rdA T1 D1) rfl rfl 37 (rdA ts d) HQR.out (infoRD _ (rdA_size HP1.out.rd.n3 HP1.out.rd.m3)) HSZ3.out (rdA_one HP1.out.rd.n3 HP1.out.rd.m3) ?_)
          try simp only [Act.put, List.setIfInBounds_toArray, List.set_cons_zero, List.set_cons_succ]
          clear HQR HSZ3
          generalize y1.setRow w.heap.size (rdA T1 D1) = z1 at *
          by_cases he1 : E1 = 0
          rotate_left
          · have q1 : (E1 != 0) = true := bne_iff_ne.2 he1
            have HFIN := Lib.hid (HNO1.out he1)
            have HPQ := HP1
            clear he1 HOK1
            go_upto_region 10 with fail
            skip
            -- the results stored and told: region's tree .take 0 (.take 1 (.take 2 (.one 3 (.one 4 (.one 5 .nil))))); HPQ : Hid (PQ w a b T1 D1 s p c z1), the error EX; HFIN : Hid (putSD .. = D1 ∧ putSS .. = s ∧ putSE .. = EX)
            have HL3 : Hid (∀ w', Turns (fun k => k = w.heap.size + 2 ∨ k = w.heap.size + 3) z1 w' → w'.rangeAt w.heap.size 0 (rdA T1 D1).toList) := fun w' hb => row_rangeR (hb.keep HPQ.out.r3 (by rintro (h | h) <;> omega))
            have HL4 : Hid (∀ w', Turns (fun k => k = w.heap.size + 2 ∨ k = w.heap.size + 3) z1 w' → w'.rangeAt (w.heap.size + 1) 0 (rsA a b s p c).toList) := fun w' hb => row_rangeR (hb.keep HPQ.out.r4 (by rintro (h | h) <;> omega))
            refine wp_region_tree (Turns (fun k => k = w.heap.size + 2 ∨ k = w.heap.size + 3) z1) (.take 0 (.take 1 (.take 2 (.one 3 (.one 4 (.one 5 .nil)))))) (by kernel_rfl) (by kernel_rfl) (Turns.of_below (below_drew1 _ _)) ?_
            have hy0 : Below z1.heap.size z1 z1.drew := below_drew1 _ _
            refine tree_load rfl (by rfl) 37 _ rfl w.heap.size 0 rfl (rdA T1 D1) _ (fun w' hb => HL3.out w' hb) Tryz.underlying37 rfl (infoRD _ (rdA_size HPQ.out.rd.n3 HPQ.out.rd.m3)) ?_
            try simp only [Act.put, List.setIfInBounds_toArray, List.set_cons_zero, List.set_cons_succ]
            refine tree_load rfl (by rfl) 46 _ rfl (w.heap.size + 1) 0 rfl (rsA a b s p c) _ (fun w' hb => HL4.out w' hb) Tryz.underlying46 rfl (infoRS _ rfl) ?_
            try simp only [Act.put, List.setIfInBounds_toArray, List.set_cons_zero, List.set_cons_succ]
            repeat (apply tree_take; (· rfl); (· rfl); (· (intro w' hb'; go_simp; try with_reducible rfl)); try simp only [Act.put, List.setIfInBounds_toArray, List.set_cons_zero, List.set_cons_succ])
            have hq1 := HPQ.out.next hy0
            have ht0 : Turns (fun k => k = w.heap.size + 2 ∨ k = w.heap.size + 3) z1 z1.drew := Turns.of_below hy0
            clear HL3 HL4 HPQ hy0
            generalize z1.drew = wD at *
            refine tree_one rfl (by rfl) (fun K hK => oper_of_list rfl ?_)
            refine wpList_store_row rfl 37 _ _ rfl (w.heap.size + 2) (rdA T1 D1) rfl rfl 37 zD hq1.r6 (infoRD _ (rdA_size hq1.rd.n3 hq1.rd.m3)) (by rw [rdA_size hq1.rd.n3 hq1.rd.m3]; rfl) (rdA_one hq1.rd.n3 hq1.rd.m3) ?_
            have ht1 := ht0.trans (turns_setRow wD (w.heap.size + 2) (rdA T1 D1)) (fun k _ hk => .inl hk)
            refine only_end (Shut.out hK _ _ ht1 ?_)
            clear hK K
            try simp only [Act.put]
            have hr7 : (wD.setRow (w.heap.size + 2) (rdA T1 D1)).heap[w.heap.size + 3]? = some (.cells zS 46 (0, 0)) := by rw [setRow_other _ _ _ _ (by omega)]; exact hq1.r7
            refine tree_one rfl (by rfl) (fun K hK => oper_of_list rfl ?_)
            refine wpList_store_row rfl 46 _ _ rfl (w.heap.size + 3) (rsA a b s p c) rfl rfl 46 zS hr7 (infoRS _ rfl) rfl (rsA_one _ _ _ _ _) ?_
            have ht2 := ht1.trans (turns_setRow (wD.setRow (w.heap.size + 2) (rdA T1 D1)) (w.heap.size + 3) (rsA a b s p c)) (fun k _ hk => .inr hk)
            refine only_end (Shut.out hK _ _ ht2 ?_)
            clear hK K
            try simp only [Act.put]
            refine tree_one rfl (by rfl) (fun K hK => ?_)
            go_simp
            refine Shut.out hK _ _ ht2 ?_
            clear hK K
            try simp only [Act.put, List.setIfInBounds_toArray, List.set_cons_zero, List.set_cons_succ]
            refine tree_nil ?_
            go_wp2_with fail
            have hs1 : ((wD.setRow (w.heap.size + 2) (rdA T1 D1)).setRow (w.heap.size + 3) (rsA a b s p c)).heap[w.heap.size + 2]? = some (.cells (rdA T1 D1) 37 (0, 0)) := by rw [setRow_other _ _ _ _ (by omega)]; exact setRow_heap _ _ _ _ _ _ hq1.r6
            have hs2 := setRow_heap _ _ _ (rsA a b s p c) _ _ hr7
            have hk : KR 0 wD ((wD.setRow (w.heap.size + 2) (rdA T1 D1)).setRow (w.heap.size + 3) (rsA a b s p c)) := (kr_turn (turns_setRow _ _ _) hq1.r6 (by decide) (by decide)).trans (kr_turn (turns_setRow _ _ _) hr7 (by decide) (by decide))
            refine bodyPost_ret (results_cells2_tmp rfl _ _ _ _ _ _ _ _ _ _ _ _ rfl rfl hs1 hs2 Tryz.underlying37 rfl (infoRD _ (rdA_size hq1.rd.n3 hq1.rd.m3)) Tryz.underlying46 rfl (infoRS _ rfl)) rfl ?_
            obtain ⟨f1, f2, f3⟩ := HFIN.out
            unfold RPuP
            rw [f1, f2, f3]
            exact ⟨T1, p, c, rfl, hq1.rd.step hk, hq1.rb.step hk, below_setRow (below_setRow hq1.low (by omega) _) (by omega) _⟩
          have q1 : (E1 != 0) = false := by rw [bne_eq_false_iff_eq]; exact he1
          have HPN := Lib.hid (HOK1.out he1)
          have HPQ := HP1
          have HIL : Hid (a < D1.fs.length) := by show _ < _; rw [HPQ.out.rd.m3]; exact HI3.out
          have HOKF : Hid (fD D1 a).Ok := RDB.okF HPQ.out.rd HI3.out
          have HC : Hid (Calls Tryz.prog 34 #[.agg (rdA T1 D1), .int .i64 (a : Int)] z1 (ROut (stpD D1 a .sync) (stpE D1 a .sync) z1)) := rsync_in T1 D1 a HI3.out (fD D1 a) (HPQ.out.rd.fd HI3.out) z1 HPQ.out.rd
          clear he1 HOK1 HNO1 HP1
          go_upto_region 11 with fail
          clear q1
          skip
          -- one call of the reference's disk: world z1, boxes HPQ (disk T1, D1); HC : Hid (Calls .. z1 (ROut (stpD D1 i .sync) (stpE D1 i .sync) z1)); HPN: pending .sync :: ..; 12: the region behind it
          go_wp2_with (refine wpList_load_row rfl 37 _ rfl w.heap.size rfl 37 (rdA T1 D1) (0, 0) _ HPQ.out.r3 Tryz.underlying37 rfl (infoRD _ (rdA_size HPQ.out.rd.n3 HPQ.out.rd.m3)) ?_)
          refine HC.out.mono ?_
          rintro e y2 ⟨T2, rfl, hr, hb⟩
          have hq := HPQ.out.next hb
          have HQR := Lib.hid hq.r3
          have HSZ3 : Hid ((rdA T1 D1).size = (rdA T2 (stpD D1 a .sync)).size) := by show _ = _; rw [rdA_size hq.rd.n3 hq.rd.m3, rdA_size hr.n3 hr.m3]
          have HP2 := Lib.hid (hq.disk hr)
          have HOK3 : Hid (stpE D1 a .sync = 0 → Pnd d s a b x a [.put (wrapB s x), .sync] (stpD D1 a .sync)) := fun h => HPN.out.ok h
          have HNO3 : Hid (¬ stpE D1 a .sync = 0 → putSD d s a b x = stpD D1 a .sync ∧ putSS d s a b x = s ∧ putSE d s a b x = stpE D1 a .sync) := fun h => HPN.out.no h
          clear hq hr hb HPQ HC HPN
          have HG2 : Hid (Gd (stpD D1 a .sync) (N + 1)) := HG1.out.synd HIL.out HOKF.out
          generalize stpE D1 a .sync = E2 at *
          generalize stpD D1 a .sync = D2 at *
          go_upto_region 12 with (refine wpList_store_row rfl 37 _ _ rfl w.heap.size (rdA T2 D2) rfl rfl 37 (rdA T1 D1) HQR.out (infoRD _ (rdA_size HP2.out.rd.n3 HP2.out.rd.m3)) HSZ3.out (rdA_one HP2.out.rd.n3 HP2.out.rd.m3) ?_)
          try simp only [Act.put, List.setIfInBounds_toArray, List.set_cons_zero, List.set_cons_succ]
          clear HQR HSZ3
          generalize y2.setRow w.heap.size (rdA T2 D2) = z2 at *
          by_cases he1 : E2 = 0
          rotate_left
          · have q1 : (E2 != 0) = true := bne_iff_ne.2 he1
            have HFIN := Lib.hid (HNO3.out he1)
            have HPQ := HP2
            clear he1 HOK3
            go_upto_region 13 with fail
            skip
            -- the results stored and told: region's tree .take 0 (.take 1 (.take 2 (.one 3 (.one 4 (.one 5 .nil))))); HPQ : Hid (PQ w a b T2 D2 s p c z2), the error EX; HFIN : Hid (putSD .. = D2 ∧ putSS .. = s ∧ putSE .. = EX)
            have HL3 : Hid (∀ w', Turns (fun k => k = w.heap.size + 2 ∨ k = w.heap.size + 3) z2 w' → w'.rangeAt w.heap.size 0 (rdA T2 D2).toList) := fun w' hb => row_rangeR (hb.keep HPQ.out.r3 (by rintro (h | h) <;> omega))
            have HL4 : Hid (∀ w', Turns (fun k => k = w.heap.size + 2 ∨ k = w.heap.size + 3) z2 w' → w'.rangeAt (w.heap.size + 1) 0 (rsA a b s p c).toList) := fun w' hb => row_rangeR (hb.keep HPQ.out.r4 (by rintro (h | h) <;> omega))
            refine wp_region_tree (Turns (fun k => k = w.heap.size + 2 ∨ k = w.heap.size + 3) z2) (.take 0 (.take 1 (.take 2 (.one 3 (.one 4 (.one 5 .nil)))))) (by kernel_rfl) (by kernel_rfl) (Turns.of_below (below_drew1 _ _)) ?_
            have hy0 : Below z2.heap.size z2 z2.drew := below_drew1 _ _
            refine tree_load rfl (by rfl) 37 _ rfl w.heap.size 0 rfl (rdA T2 D2) _ (fun w' hb => HL3.out w' hb) Tryz.underlying37 rfl (infoRD _ (rdA_size HPQ.out.rd.n3 HPQ.out.rd.m3)) ?_
            try simp only [Act.put, List.setIfInBounds_toArray, List.set_cons_zero, List.set_cons_succ]
            refine tree_load rfl (by rfl) 46 _ rfl (w.heap.size + 1) 0 rfl (rsA a b s p c) _ (fun w' hb => HL4.out w' hb) Tryz.underlying46 rfl (infoRS _ rfl) ?_
            try simp only [Act.put, List.setIfInBounds_toArray, List.set_cons_zero, List.set_cons_succ]
            repeat (apply tree_take; (· rfl); (· rfl); (· (intro w' hb'; go_simp; try with_reducible rfl)); try simp only [Act.put, List.setIfInBounds_toArray, List.set_cons_zero, List.set_cons_succ])
            have hq1 := HPQ.out.next hy0
            have ht0 : Turns (fun k => k = w.heap.size + 2 ∨ k = w.heap.size + 3) z2 z2.drew := Turns.of_below hy0
            clear HL3 HL4 HPQ hy0
            generalize z2.drew = wD at *
            refine tree_one rfl (by rfl) (fun K hK => oper_of_list rfl ?_)
            refine wpList_store_row rfl 37 _ _ rfl (w.heap.size + 2) (rdA T2 D2) rfl rfl 37 zD hq1.r6 (infoRD _ (rdA_size hq1.rd.n3 hq1.rd.m3)) (by rw [rdA_size hq1.rd.n3 hq1.rd.m3]; rfl) (rdA_one hq1.rd.n3 hq1.rd.m3) ?_
            have ht1 := ht0.trans (turns_setRow wD (w.heap.size + 2) (rdA T2 D2)) (fun k _ hk => .inl hk)
            refine only_end (Shut.out hK _ _ ht1 ?_)
            clear hK K
            try simp only [Act.put]
            have hr7 : (wD.setRow (w.heap.size + 2) (rdA T2 D2)).heap[w.heap.size + 3]? = some (.cells zS 46 (0, 0)) := by rw [setRow_other _ _ _ _ (by omega)]; exact hq1.r7
            refine tree_one rfl (by rfl) (fun K hK => oper_of_list rfl ?_)
            refine wpList_store_row rfl 46 _ _ rfl (w.heap.size + 3) (rsA a b s p c) rfl rfl 46 zS hr7 (infoRS _ rfl) rfl (rsA_one _ _ _ _ _) ?_
            have ht2 := ht1.trans (turns_setRow (wD.setRow (w.heap.size + 2) (rdA T2 D2)) (w.heap.size + 3) (rsA a b s p c)) (fun k _ hk => .inr hk)
            refine only_end (Shut.out hK _ _ ht2 ?_)
            clear hK K
            try simp only [Act.put]
            refine tree_one rfl (by rfl) (fun K hK => ?_)
            go_simp
            refine Shut.out hK _ _ ht2 ?_
            clear hK K
            try simp only [Act.put, List.setIfInBounds_toArray, List.set_cons_zero, List.set_cons_succ]
            refine tree_nil ?_
            go_wp2_with fail
            have hs1 : ((wD.setRow (w.heap.size + 2) (rdA T2 D2)).setRow (w.heap.size + 3) (rsA a b s p c)).heap[w.heap.size + 2]? = some (.cells (rdA T2 D2) 37 (0, 0)) := by rw [setRow_other _ _ _ _ (by omega)]; exact setRow_heap _ _ _ _ _ _ hq1.r6
            have hs2 := setRow_heap _ _ _ (rsA a b s p c) _ _ hr7
            have hk : KR 0 wD ((wD.setRow (w.heap.size + 2) (rdA T2 D2)).setRow (w.heap.size + 3) (rsA a b s p c)) := (kr_turn (turns_setRow _ _ _) hq1.r6 (by decide) (by decide)).trans (kr_turn (turns_setRow _ _ _) hr7 (by decide) (by decide))
            refine bodyPost_ret (results_cells2_tmp rfl _ _ _ _ _ _ _ _ _ _ _ _ rfl rfl hs1 hs2 Tryz.underlying37 rfl (infoRD _ (rdA_size hq1.rd.n3 hq1.rd.m3)) Tryz.underlying46 rfl (infoRS _ rfl)) rfl ?_
            obtain ⟨f1, f2, f3⟩ := HFIN.out
            unfold RPuP
            rw [f1, f2, f3]
            exact ⟨T2, p, c, rfl, hq1.rd.step hk, hq1.rb.step hk, below_setRow (below_setRow hq1.low (by omega) _) (by omega) _⟩
          have q1 : (E2 != 0) = false := by rw [bne_eq_false_iff_eq]; exact he1
          have HPN := Lib.hid (HOK3.out he1)
          have HPQ := HP2
          clear he1 HOK3 HNO3 HP2 HIL HOKF HG1
          go_upto_region 14 with fail
          clear q1
          skip
          -- from region 14: put and sync; world z2, disk T2 D2
          have HIL : Hid (a < D2.fs.length) := by show _ < _; rw [HPQ.out.rd.m3]; exact HI3.out
          have HL3 : Hid (∀ w', Below z2.heap.size z2 w' → w'.rangeAt w.heap.size 0 (rdA T2 D2).toList) := fun w' hb => row_rangeR (Below.keepOld hb HPQ.out.r3)
          have HT3 : Hid (∀ w', Below z2.heap.size z2 w' → w'.cell? ⟨w.heap.size + 1, 3, none⟩ = some (.int .u64 (s.turn : Int))) := fun w' hb => (rs_cells (Below.keepOld hb HPQ.out.r4)).2.2.2.1
          have HXB := Lib.hid (HX.out.below HPQ.out.low)
          refine wp_region_eager_u (Below z2.heap.size z2) [0, 1, 2, 3, 4, 6] [(0, true), (1, true), (2, true), (3, true), (4, true), (6, true), (5, false), (7, false), (8, false), (9, false)] (.take 10 (.take 11 (.take 12 (.one 13 (.one 14 .nil))))) (by kernel_rfl) (by kernel_rfl) ?_ (eagerUOpen rfl ?_)
          · exact below_drew1 _ _
          have hy0 : Below z2.heap.size z2 z2.drew := below_drew1 _ _
          repeat (first
            | ((with_reducible refine eagerULoadAt 3 ?_); refine wpEagerU_load (by rfl) 37 _ rfl w.heap.size 0 rfl (rdA T2 D2) _ (fun w' hb => HL3.out w' hb) Tryz.underlying37 rfl (infoRD _ (rdA_size HPQ.out.rd.n3 HPQ.out.rd.m3)) ?_; (try simp only [Act.put, List.setIfInBounds_toArray, List.set_cons_zero, List.set_cons_succ]); (try refine eagerUOpen rfl ?_))
            | (apply wpEagerU_take; (· rfl); (· (intro w' hb'; have hk' := (HT3.out) w' hb'; go_split_ands; go_simp; try with_reducible rfl)); (try simp only [Act.put, List.setIfInBounds_toArray, List.set_cons_zero, List.set_cons_succ]); (try refine eagerUOpen rfl ?_))
            | (first | (apply wpEagerU_take; (· rfl); (· (intro w' hb'; go_simp; try with_reducible rfl)); (try simp only [Act.put, List.setIfInBounds_toArray, List.set_cons_zero, List.set_cons_succ]); (try refine eagerUOpen rfl ?_)) | (refine wpEagerU_skip (by rfl) ?_; (try simp only [Act.put, List.setIfInBounds_toArray, List.set_cons_zero, List.set_cons_succ]); (try refine eagerUOpen rfl ?_))))
          (refine wpEagerU_op (by rfl) (fun K hK => ?_); go_simp; (refine (number8 z2.drew TN HTL.out).mono ?_; rintro e y8 ⟨p8, c8, rfl, ho, hb⟩; have hy1 : Below z2.heap.size z2 y8 := hy0.trans hb; have HO8 := Lib.hid ho; clear ho hb); refine Shut.out hK _ _ (by assumption) ?_; clear hK K; (try simp only [Act.put, List.setIfInBounds_toArray, List.set_cons_zero, List.set_cons_succ]); (try refine eagerUOpen rfl ?_))
          have HB8 : Hid (z2.heap.size ≤ y8.heap.size) := hy1.size
          have HXS := Lib.hid (HXB.out.below hy1)
          refine wpEagerU_op (by rfl) (fun K hK => oper_of_list rfl ?_)
          refine wpList_append_nx rfl _ _ 22 rfl (base := z2.drew.heap.size) Tryz.underlying22 Frm.info8b rfl (by omega) rfl HO8.out rfl HXS.out (bytesV_one _) ⟨by omega, by omega⟩ HB8.out ?_
          intro p9 c9 y9 ho9 hgr hnx _
          have hb9 := own_below HO8.out hgr HB8.out
          have hy2 : Below z2.heap.size z2 y9 := hy1.trans (show Below z2.heap.size y8 y9 from hb9)
          have HFB : Hid (Bs y9 p9 (8 + x.length) c9 (be TN 8 ++ x)) := by
            rw [← bytesV_append] at ho9
            exact Cut.own_bs ho9
          have HWB : Hid (frame (be TN 8 ++ x) = wrapB s x) := by show _ = _; unfold wrapB; rw [HTN.out]
          have HWL : Hid ((wrapB s x).length ≤ 60000) := by show _ ≤ _; rw [← HWB.out, Frm.frame_length, List.length_append, be_length]; omega
          have HFR := Lib.hid (Frm.rbytes_any p9 (8 + x.length) c9 (be TN 8 ++ x) y9 HFB.out (by omega))
          rw [HWB.out] at HFR
          refine only_end (Shut.out hK _ _ hy2 ?_)
          clear hK K ho9 hgr hnx hb9 HO8 HXS HB8 HFB HWB
          (try simp only [Act.put, List.setIfInBounds_toArray, List.set_cons_zero, List.set_cons_succ]); (try refine eagerUOpen rfl ?_)
          (refine wpEagerU_op (by rfl) (fun K hK => ?_); go_simp; (refine HFR.out.mono ?_; rintro e yF ⟨pF, cF, rfl, ho, hb⟩; have HOF := Lib.hid (Cut.own_bs ho); have hy3 : Below z2.heap.size z2 yF := hy2.trans (hb.mono hy2.size); clear ho hb); refine Shut.out hK _ _ (by assumption) ?_; clear hK K; (try simp only [Act.put, List.setIfInBounds_toArray, List.set_cons_zero, List.set_cons_succ]); (try refine eagerUOpen rfl ?_))
          have HPC : Hid (Calls Tryz.prog 8 #[.agg (rdA T2 D2), .int .i64 (a : Int), .slice pF (wrapB s x).length cF] yF (ROut (stpD D2 a (.put (wrapB s x))) (stpE D2 a (.put (wrapB s x))) yF)) := rput_in T2 D2 a HI3.out pF (wrapB s x) cF yF (HPQ.out.rd.below hy3) HG2.out.used HOF.out HWL.out (by have := fewfd (i := a) HG2.out.few; omega)
          (refine wpEagerU_op (by rfl) (fun K hK => ?_); go_simp; (refine HPC.out.mono ?_; rintro e yP ⟨T5, rfl, hr, hb⟩; have HR5 := Lib.hid hr; have hy4 : Below z2.heap.size z2 yP := hy3.trans (hb.mono hy3.size); clear hr hb); refine Shut.out hK _ _ (by assumption) ?_; clear hK K; (try simp only [Act.put, List.setIfInBounds_toArray, List.set_cons_zero, List.set_cons_succ]); (try refine eagerUOpen rfl ?_))
          refine eagerUEnd ?_
          have hq := HPQ.out.next hy4
          have HQR := Lib.hid hq.r3
          have HSZ3 : Hid ((rdA T2 D2).size = (rdA T5 (stpD D2 a (.put (wrapB s x)))).size) := by show _ = _; rw [rdA_size hq.rd.n3 hq.rd.m3, rdA_size HR5.out.n3 HR5.out.m3]
          have HP5 := Lib.hid (hq.disk HR5.out)
          have HOK5 : Hid (stpE D2 a (.put (wrapB s x)) = 0 → Pnd d s a b x a [.sync] (stpD D2 a (.put (wrapB s x)))) := fun h => HPN.out.ok h
          have HNO5 : Hid (¬ stpE D2 a (.put (wrapB s x)) = 0 → putSD d s a b x = stpD D2 a (.put (wrapB s x)) ∧ putSS d s a b x = s ∧ putSE d s a b x = stpE D2 a (.put (wrapB s x))) := fun h => HPN.out.no h
          obtain ⟨M5, HG5⟩ : ∃ M, Hid (Gd (stpD D2 a (.put (wrapB s x))) M) := ⟨_, HG2.out.did HIL.out _⟩
          clear hq HPN HPQ HL3 HT3 HXB HPC HFR HOF HWL hy0 hy1 hy2 hy3 hy4 HIL HG2 HR5
          generalize stpE D2 a (.put (wrapB s x)) = E5 at *
          generalize stpD D2 a (.put (wrapB s x)) = D5 at *
          repeat (apply tree_take; (· rfl); (· rfl); (· (intro w' hb'; go_simp; try with_reducible rfl)); try simp only [Act.put, List.setIfInBounds_toArray, List.set_cons_zero, List.set_cons_succ])
          refine tree_one rfl (by rfl) (fun K hK => oper_of_list rfl ?_)
          refine wpList_store_row rfl 37 _ _ rfl w.heap.size (rdA T5 D5) rfl rfl 37 (rdA T2 D2) HQR.out (infoRD _ (rdA_size HP5.out.rd.n3 HP5.out.rd.m3)) HSZ3.out (rdA_one HP5.out.rd.n3 HP5.out.rd.m3) ?_
          refine only_end (Shut.out hK _ _ trivial ?_)
          clear hK K HQR HSZ3
          try simp only [Act.put]
          generalize yP.setRow w.heap.size (rdA T5 D5) = z5 at *
          refine tree_one rfl (by rfl) (fun K hK => ?_)
          go_simp
          refine Shut.out hK _ _ trivial ?_
          clear hK K
          try simp only [Act.put, List.setIfInBounds_toArray, List.set_cons_zero, List.set_cons_succ]
          refine tree_nil ?_
          by_cases he1 : E5 = 0
          rotate_left
          · have q1 : (E5 != 0) = true := bne_iff_ne.2 he1
            have HFIN := Lib.hid (HNO5.out he1)
            have HPQ := HP5
            clear he1 HOK5
            go_upto_region 16 with fail
            skip
            -- the results stored and told: region's tree .take 0 (.take 1 (.take 2 (.one 3 (.one 4 (.one 5 .nil))))); HPQ : Hid (PQ w a b T5 D5 s p c z5), the error EX; HFIN : Hid (putSD .. = D5 ∧ putSS .. = s ∧ putSE .. = EX)
            have HL3 : Hid (∀ w', Turns (fun k => k = w.heap.size + 2 ∨ k = w.heap.size + 3) z5 w' → w'.rangeAt w.heap.size 0 (rdA T5 D5).toList) := fun w' hb => row_rangeR (hb.keep HPQ.out.r3 (by rintro (h | h) <;> omega))
            have HL4 : Hid (∀ w', Turns (fun k => k = w.heap.size + 2 ∨ k = w.heap.size + 3) z5 w' → w'.rangeAt (w.heap.size + 1) 0 (rsA a b s p c).toList) := fun w' hb => row_rangeR (hb.keep HPQ.out.r4 (by rintro (h | h) <;> omega))
            refine wp_region_tree (Turns (fun k => k = w.heap.size + 2 ∨ k = w.heap.size + 3) z5) (.take 0 (.take 1 (.take 2 (.one 3 (.one 4 (.one 5 .nil)))))) (by kernel_rfl) (by kernel_rfl) (Turns.of_below (below_drew1 _ _)) ?_
            have hy0 : Below z5.heap.size z5 z5.drew := below_drew1 _ _
            refine tree_load rfl (by rfl) 37 _ rfl w.heap.size 0 rfl (rdA T5 D5) _ (fun w' hb => HL3.out w' hb) Tryz.underlying37 rfl (infoRD _ (rdA_size HPQ.out.rd.n3 HPQ.out.rd.m3)) ?_
            try simp only [Act.put, List.setIfInBounds_toArray, List.set_cons_zero, List.set_cons_succ]
            refine tree_load rfl (by rfl) 46 _ rfl (w.heap.size + 1) 0 rfl (rsA a b s p c) _ (fun w' hb => HL4.out w' hb) Tryz.underlying46 rfl (infoRS _ rfl) ?_
            try simp only [Act.put, List.setIfInBounds_toArray, List.set_cons_zero, List.set_cons_succ]
            repeat (apply tree_take; (· rfl); (· rfl); (· (intro w' hb'; go_simp; try with_reducible rfl)); try simp only [Act.put, List.setIfInBounds_toArray, List.set_cons_zero, List.set_cons_succ])
            have hq1 := HPQ.out.next hy0
            have ht0 : Turns (fun k => k = w.heap.size + 2 ∨ k = w.heap.size + 3) z5 z5.drew := Turns.of_below hy0
            clear HL3 HL4 HPQ hy0
            generalize z5.drew = wD at *
            refine tree_one rfl (by rfl) (fun K hK => oper_of_list rfl ?_)
            refine wpList_store_row rfl 37 _ _ rfl (w.heap.size + 2) (rdA T5 D5) rfl rfl 37 zD hq1.r6 (infoRD _ (rdA_size hq1.rd.n3 hq1.rd.m3)) (by rw [rdA_size hq1.rd.n3 hq1.rd.m3]; rfl) (rdA_one hq1.rd.n3 hq1.rd.m3) ?_
            have ht1 := ht0.trans (turns_setRow wD (w.heap.size + 2) (rdA T5 D5)) (fun k _ hk => .inl hk)
            refine only_end (Shut.out hK _ _ ht1 ?_)
            clear hK K
            try simp only [Act.put]
            have hr7 : (wD.setRow (w.heap.size + 2) (rdA T5 D5)).heap[w.heap.size + 3]? = some (.cells zS 46 (0, 0)) := by rw [setRow_other _ _ _ _ (by omega)]; exact hq1.r7
            refine tree_one rfl (by rfl) (fun K hK => oper_of_list rfl ?_)
            refine wpList_store_row rfl 46 _ _ rfl (w.heap.size + 3) (rsA a b s p c) rfl rfl 46 zS hr7 (infoRS _ rfl) rfl (rsA_one _ _ _ _ _) ?_
            have ht2 := ht1.trans (turns_setRow (wD.setRow (w.heap.size + 2) (rdA T5 D5)) (w.heap.size + 3) (rsA a b s p c)) (fun k _ hk => .inr hk)
            refine only_end (Shut.out hK _ _ ht2 ?_)
            clear hK K
            try simp only [Act.put]
            refine tree_one rfl (by rfl) (fun K hK => ?_)
            go_simp
            refine Shut.out hK _ _ ht2 ?_
            clear hK K
            try simp only [Act.put, List.setIfInBounds_toArray, List.set_cons_zero, List.set_cons_succ]
            refine tree_nil ?_
            go_wp2_with fail
            have hs1 : ((wD.setRow (w.heap.size + 2) (rdA T5 D5)).setRow (w.heap.size + 3) (rsA a b s p c)).heap[w.heap.size + 2]? = some (.cells (rdA T5 D5) 37 (0, 0)) := by rw [setRow_other _ _ _ _ (by omega)]; exact setRow_heap _ _ _ _ _ _ hq1.r6
            have hs2 := setRow_heap _ _ _ (rsA a b s p c) _ _ hr7
            have hk : KR 0 wD ((wD.setRow (w.heap.size + 2) (rdA T5 D5)).setRow (w.heap.size + 3) (rsA a b s p c)) := (kr_turn (turns_setRow _ _ _) hq1.r6 (by decide) (by decide)).trans (kr_turn (turns_setRow _ _ _) hr7 (by decide) (by decide))
            refine bodyPost_ret (results_cells2_tmp rfl _ _ _ _ _ _ _ _ _ _ _ _ rfl rfl hs1 hs2 Tryz.underlying37 rfl (infoRD _ (rdA_size hq1.rd.n3 hq1.rd.m3)) Tryz.underlying46 rfl (infoRS _ rfl)) rfl ?_
            obtain ⟨f1, f2, f3⟩ := HFIN.out
            unfold RPuP
            rw [f1, f2, f3]
            exact ⟨T5, p, c, rfl, hq1.rd.step hk, hq1.rb.step hk, below_setRow (below_setRow hq1.low (by omega) _) (by omega) _⟩
          have q1 : (E5 != 0) = false := by rw [bne_eq_false_iff_eq]; exact he1
          have HPN := Lib.hid (HOK5.out he1)
          have HPQ := HP5
          have HIL : Hid (a < D5.fs.length) := by show _ < _; rw [HPQ.out.rd.m3]; exact HI3.out
          have HOKF : Hid (fD D5 a).Ok := RDB.okF HPQ.out.rd HI3.out
          have HC : Hid (Calls Tryz.prog 34 #[.agg (rdA T5 D5), .int .i64 (a : Int)] z5 (ROut (stpD D5 a .sync) (stpE D5 a .sync) z5)) := rsync_in T5 D5 a HI3.out (fD D5 a) (HPQ.out.rd.fd HI3.out) z5 HPQ.out.rd
          clear he1 HOK5 HNO5 HP5
          go_upto_region 17 with fail
          clear q1
          skip
          -- one call of the reference's disk: world z5, boxes HPQ (disk T5, D5); HC : Hid (Calls .. z5 (ROut (stpD D5 i .sync) (stpE D5 i .sync) z5)); HPN: pending .sync :: ..; 18: the region behind it
          go_wp2_with (refine wpList_load_row rfl 37 _ rfl w.heap.size rfl 37 (rdA T5 D5) (0, 0) _ HPQ.out.r3 Tryz.underlying37 rfl (infoRD _ (rdA_size HPQ.out.rd.n3 HPQ.out.rd.m3)) ?_)
          refine HC.out.mono ?_
          rintro e y6 ⟨T6, rfl, hr, hb⟩
          have hq := HPQ.out.next hb
          have HQR := Lib.hid hq.r3
          have HSZ3 : Hid ((rdA T5 D5).size = (rdA T6 (stpD D5 a .sync)).size) := by show _ = _; rw [rdA_size hq.rd.n3 hq.rd.m3, rdA_size hr.n3 hr.m3]
          have HP6 := Lib.hid (hq.disk hr)
          have HOK6 : Hid (stpE D5 a .sync = 0 → Pnd d s a b x a [] (stpD D5 a .sync)) := fun h => HPN.out.ok h
          have HNO6 : Hid (¬ stpE D5 a .sync = 0 → putSD d s a b x = stpD D5 a .sync ∧ putSS d s a b x = s ∧ putSE d s a b x = stpE D5 a .sync) := fun h => HPN.out.no h
          clear hq hr hb HPQ HC HPN
          have HG6 : Hid (Gd (stpD D5 a .sync) (M5)) := HG5.out.synd HIL.out HOKF.out
          generalize stpE D5 a .sync = E6 at *
          generalize stpD D5 a .sync = D6 at *
          go_upto_region 18 with (refine wpList_store_row rfl 37 _ _ rfl w.heap.size (rdA T6 D6) rfl rfl 37 (rdA T5 D5) HQR.out (infoRD _ (rdA_size HP6.out.rd.n3 HP6.out.rd.m3)) HSZ3.out (rdA_one HP6.out.rd.n3 HP6.out.rd.m3) ?_)
          try simp only [Act.put, List.setIfInBounds_toArray, List.set_cons_zero, List.set_cons_succ]
          clear HQR HSZ3
          generalize y6.setRow w.heap.size (rdA T6 D6) = z6 at *
          by_cases he1 : E6 = 0
          rotate_left
          · have q1 : (E6 != 0) = true := bne_iff_ne.2 he1
            have HFIN := Lib.hid (HNO6.out he1)
            have HPQ := HP6
            clear he1 HOK6
            go_upto_region 19 with fail
            skip
            -- the results stored and told: region's tree .take 0 (.take 1 (.take 2 (.one 3 (.one 4 (.one 5 .nil))))); HPQ : Hid (PQ w a b T6 D6 s p c z6), the error EX; HFIN : Hid (putSD .. = D6 ∧ putSS .. = s ∧ putSE .. = EX)
            have HL3 : Hid (∀ w', Turns (fun k => k = w.heap.size + 2 ∨ k = w.heap.size + 3) z6 w' → w'.rangeAt w.heap.size 0 (rdA T6 D6).toList) := fun w' hb => row_rangeR (hb.keep HPQ.out.r3 (by rintro (h | h) <;> omega))
            have HL4 : Hid (∀ w', Turns (fun k => k = w.heap.size + 2 ∨ k = w.heap.size + 3) z6 w' → w'.rangeAt (w.heap.size + 1) 0 (rsA a b s p c).toList) := fun w' hb => row_rangeR (hb.keep HPQ.out.r4 (by rintro (h | h) <;> omega))
            refine wp_region_tree (Turns (fun k => k = w.heap.size + 2 ∨ k = w.heap.size + 3) z6) (.take 0 (.take 1 (.take 2 (.one 3 (.one 4 (.one 5 .nil)))))) (by kernel_rfl) (by kernel_rfl) (Turns.of_below (below_drew1 _ _)) ?_
            have hy0 : Below z6.heap.size z6 z6.drew := below_drew1 _ _
            refine tree_load rfl (by rfl) 37 _ rfl w.heap.size 0 rfl (rdA T6 D6) _ (fun w' hb => HL3.out w' hb) Tryz.underlying37 rfl (infoRD _ (rdA_size HPQ.out.rd.n3 HPQ.out.rd.m3)) ?_
            try simp only [Act.put, List.setIfInBounds_toArray, List.set_cons_zero, List.set_cons_succ]
            refine tree_load rfl (by rfl) 46 _ rfl (w.heap.size + 1) 0 rfl (rsA a b s p c) _ (fun w' hb => HL4.out w' hb) Tryz.underlying46 rfl (infoRS _ rfl) ?_
            try simp only [Act.put, List.setIfInBounds_toArray, List.set_cons_zero, List.set_cons_succ]
            repeat (apply tree_take; (· rfl); (· rfl); (· (intro w' hb'; go_simp; try with_reducible rfl)); try simp only [Act.put, List.setIfInBounds_toArray, List.set_cons_zero, List.set_cons_succ])
            have hq1 := HPQ.out.next hy0
            have ht0 : Turns (fun k => k = w.heap.size + 2 ∨ k = w.heap.size + 3) z6 z6.drew := Turns.of_below hy0
            clear HL3 HL4 HPQ hy0
            generalize z6.drew = wD at *
            refine tree_one rfl (by rfl) (fun K hK => oper_of_list rfl ?_)
            refine wpList_store_row rfl 37 _ _ rfl (w.heap.size + 2) (rdA T6 D6) rfl rfl 37 zD hq1.r6 (infoRD _ (rdA_size hq1.rd.n3 hq1.rd.m3)) (by rw [rdA_size hq1.rd.n3 hq1.rd.m3]; rfl) (rdA_one hq1.rd.n3 hq1.rd.m3) ?_
            have ht1 := ht0.trans (turns_setRow wD (w.heap.size + 2) (rdA T6 D6)) (fun k _ hk => .inl hk)
            refine only_end (Shut.out hK _ _ ht1 ?_)
            clear hK K
            try simp only [Act.put]
            have hr7 : (wD.setRow (w.heap.size + 2) (rdA T6 D6)).heap[w.heap.size + 3]? = some (.cells zS 46 (0, 0)) := by rw [setRow_other _ _ _ _ (by omega)]; exact hq1.r7
            refine tree_one rfl (by rfl) (fun K hK => oper_of_list rfl ?_)
            refine wpList_store_row rfl 46 _ _ rfl (w.heap.size + 3) (rsA a b s p c) rfl rfl 46 zS hr7 (infoRS _ rfl) rfl (rsA_one _ _ _ _ _) ?_
            have ht2 := ht1.trans (turns_setRow (wD.setRow (w.heap.size + 2) (rdA T6 D6)) (w.heap.size + 3) (rsA a b s p c)) (fun k _ hk => .inr hk)
            refine only_end (Shut.out hK _ _ ht2 ?_)
            clear hK K
            try simp only [Act.put]
            refine tree_one rfl (by rfl) (fun K hK => ?_)
            go_simp
            refine Shut.out hK _ _ ht2 ?_
            clear hK K
            try simp only [Act.put, List.setIfInBounds_toArray, List.set_cons_zero, List.set_cons_succ]
            refine tree_nil ?_
            go_wp2_with fail
            have hs1 : ((wD.setRow (w.heap.size + 2) (rdA T6 D6)).setRow (w.heap.size + 3) (rsA a b s p c)).heap[w.heap.size + 2]? = some (.cells (rdA T6 D6) 37 (0, 0)) := by rw [setRow_other _ _ _ _ (by omega)]; exact setRow_heap _ _ _ _ _ _ hq1.r6
            have hs2 := setRow_heap _ _ _ (rsA a b s p c) _ _ hr7
            have hk : KR 0 wD ((wD.setRow (w.heap.size + 2) (rdA T6 D6)).setRow (w.heap.size + 3) (rsA a b s p c)) := (kr_turn (turns_setRow _ _ _) hq1.r6 (by decide) (by decide)).trans (kr_turn (turns_setRow _ _ _) hr7 (by decide) (by decide))
            refine bodyPost_ret (results_cells2_tmp rfl _ _ _ _ _ _ _ _ _ _ _ _ rfl rfl hs1 hs2 Tryz.underlying37 rfl (infoRD _ (rdA_size hq1.rd.n3 hq1.rd.m3)) Tryz.underlying46 rfl (infoRS _ rfl)) rfl ?_
            obtain ⟨f1, f2, f3⟩ := HFIN.out
            unfold RPuP
            rw [f1, f2, f3]
            exact ⟨T6, p, c, rfl, hq1.rd.step hk, hq1.rb.step hk, below_setRow (below_setRow hq1.low (by omega) _) (by omega) _⟩
          have q1 : (E6 != 0) = false := by rw [bne_eq_false_iff_eq]; exact he1
          have HFIN0 := Lib.hid (HOK6.out he1).end
          have HPQ := HP6
          clear he1 HOK6 HNO6 HP6 HIL HOKF HG5 HG6
          obtain ⟨_, _, c2, c3, c4, hfz⟩ := rs_cells HPQ.out.r4
          have hq1 := HPQ.out.cell (s' := ⟨(a : Int), s.turn, s.body⟩) (p' := p) (c' := c) 2 (.int .i64 (a : Int)) rfl HPQ.out.rb
          have hq2 := hq1.cell (s' := ⟨(a : Int), TN, s.body⟩) (p' := p) (c' := c) 3 (.int .u64 (TN : Int)) rfl hq1.rb
          go_upto_region 22 with fail
          clear c2 c3 c4 hfz hq1 HPQ q1
          generalize (z6.setCell ⟨w.heap.size + 1, 2, none⟩ (.int .i64 (a : Int))).setCell ⟨w.heap.size + 1, 3, none⟩ (.int .u64 (TN : Int)) = z8 at *
          have HQ2 := Lib.hid hq2
          have hal := Below.allocs z8 (.cells #[] 5)
          have HO0 : Hid ((z8.alloc (.cells #[] 5)).ownsRow z8.heap.size 5 1 (.slice (some ⟨z8.heap.size, 0, none⟩) 0 0) 0 []) := own_made0 z8 _ _ _ _ rfl (Nat.le_refl _)
          have HXS := Lib.hid ((HX.out.below hq2.low).below hal)
          have HZS := Lib.hid hal.size
          have HZL := Lib.hid hal
          clear hq2 hal
          go_wp2_with (at_builtin; refine wpList_append_nx rfl _ _ 22 rfl (base := z8.heap.size) Tryz.underlying22 Frm.info8b rfl (by omega) rfl HO0.out rfl HXS.out (bytesV_one _) ⟨by omega, by omega⟩ HZS.out ?_)
          intro p9 c9 y9 ho9 hgr hnx _
          have hb9 := HZL.out.trans (own_below HO0.out hgr HZS.out)
          have hq3 := HQ2.out.next hb9
          try simp only [Nat.zero_add, List.nil_append] at ho9
          try simp only [Nat.zero_add]
          obtain ⟨_, _, _, _, c4, hfz⟩ := rs_cells hq3.r4
          have HPQ := Lib.hid (hq3.cell (s' := ⟨(a : Int), TN, x⟩) (p' := p9) (c' := c9) 4 (.slice p9 x.length c9) rfl (RBs.own ho9))
          have HFIN : Hid (putSD d s a b x = D6 ∧ putSS d s a b x = ⟨(a : Int), TN, x⟩ ∧ putSE d s a b x = 0) := by
            have h := HFIN0.out
            rw [HTN.out] at h
            exact h
          clear ho9 hgr hnx hb9 hq3 HQ2 HO0 HXS HZS HZL HFIN0
          go_upto_region 23 with fail
          clear c4 hfz
          generalize y9.setCell ⟨w.heap.size + 1, 4, none⟩ (.slice p9 x.length c9) = z9 at *
          skip
          -- the results stored and told: region's tree .take 0 (.take 1 (.one 2 (.one 3 (.one 4 .nil)))); HPQ : Hid (PQ w a b T6 D6 ⟨(a : Int), TN, x⟩ p9 c9 z9), the error EX; HFIN : Hid (putSD .. = D6 ∧ putSS .. = ⟨(a : Int), TN, x⟩ ∧ putSE .. = EX)
          have HL3 : Hid (∀ w', Turns (fun k => k = w.heap.size + 2 ∨ k = w.heap.size + 3) z9 w' → w'.rangeAt w.heap.size 0 (rdA T6 D6).toList) := fun w' hb => row_rangeR (hb.keep HPQ.out.r3 (by rintro (h | h) <;> omega))
          have HL4 : Hid (∀ w', Turns (fun k => k = w.heap.size + 2 ∨ k = w.heap.size + 3) z9 w' → w'.rangeAt (w.heap.size + 1) 0 (rsA a b ⟨(a : Int), TN, x⟩ p9 c9).toList) := fun w' hb => row_rangeR (hb.keep HPQ.out.r4 (by rintro (h | h) <;> omega))
          refine wp_region_tree (Turns (fun k => k = w.heap.size + 2 ∨ k = w.heap.size + 3) z9) (.take 0 (.take 1 (.one 2 (.one 3 (.one 4 .nil))))) (by kernel_rfl) (by kernel_rfl) (Turns.of_below (below_drew1 _ _)) ?_
          have hy0 : Below z9.heap.size z9 z9.drew := below_drew1 _ _
          refine tree_load rfl (by rfl) 37 _ rfl w.heap.size 0 rfl (rdA T6 D6) _ (fun w' hb => HL3.out w' hb) Tryz.underlying37 rfl (infoRD _ (rdA_size HPQ.out.rd.n3 HPQ.out.rd.m3)) ?_
          try simp only [Act.put, List.setIfInBounds_toArray, List.set_cons_zero, List.set_cons_succ]
          refine tree_load rfl (by rfl) 46 _ rfl (w.heap.size + 1) 0 rfl (rsA a b ⟨(a : Int), TN, x⟩ p9 c9) _ (fun w' hb => HL4.out w' hb) Tryz.underlying46 rfl (infoRS _ rfl) ?_
          try simp only [Act.put, List.setIfInBounds_toArray, List.set_cons_zero, List.set_cons_succ]
          repeat (apply tree_take; (· rfl); (· rfl); (· (intro w' hb'; go_simp; try with_reducible rfl)); try simp only [Act.put, List.setIfInBounds_toArray, List.set_cons_zero, List.set_cons_succ])
          have hq1 := HPQ.out.next hy0
          have ht0 : Turns (fun k => k = w.heap.size + 2 ∨ k = w.heap.size + 3) z9 z9.drew := Turns.of_below hy0
          clear HL3 HL4 HPQ hy0
          generalize z9.drew = wD at *
          refine tree_one rfl (by rfl) (fun K hK => oper_of_list rfl ?_)
          refine wpList_store_row rfl 37 _ _ rfl (w.heap.size + 2) (rdA T6 D6) rfl rfl 37 zD hq1.r6 (infoRD _ (rdA_size hq1.rd.n3 hq1.rd.m3)) (by rw [rdA_size hq1.rd.n3 hq1.rd.m3]; rfl) (rdA_one hq1.rd.n3 hq1.rd.m3) ?_
          have ht1 := ht0.trans (turns_setRow wD (w.heap.size + 2) (rdA T6 D6)) (fun k _ hk => .inl hk)
          refine only_end (Shut.out hK _ _ ht1 ?_)
          clear hK K
          try simp only [Act.put]
          have hr7 : (wD.setRow (w.heap.size + 2) (rdA T6 D6)).heap[w.heap.size + 3]? = some (.cells zS 46 (0, 0)) := by rw [setRow_other _ _ _ _ (by omega)]; exact hq1.r7
          refine tree_one rfl (by rfl) (fun K hK => oper_of_list rfl ?_)
          refine wpList_store_row rfl 46 _ _ rfl (w.heap.size + 3) (rsA a b ⟨(a : Int), TN, x⟩ p9 c9) rfl rfl 46 zS hr7 (infoRS _ rfl) rfl (rsA_one _ _ _ _ _) ?_
          have ht2 := ht1.trans (turns_setRow (wD.setRow (w.heap.size + 2) (rdA T6 D6)) (w.heap.size + 3) (rsA a b ⟨(a : Int), TN, x⟩ p9 c9)) (fun k _ hk => .inr hk)
          refine only_end (Shut.out hK _ _ ht2 ?_)
          clear hK K
          try simp only [Act.put]
          refine tree_one rfl (by rfl) (fun K hK => ?_)
          go_simp
          refine Shut.out hK _ _ ht2 ?_
          clear hK K
          try simp only [Act.put, List.setIfInBounds_toArray, List.set_cons_zero, List.set_cons_succ]
          refine tree_nil ?_
          go_wp2_with fail
          have hs1 : ((wD.setRow (w.heap.size + 2) (rdA T6 D6)).setRow (w.heap.size + 3) (rsA a b ⟨(a : Int), TN, x⟩ p9 c9)).heap[w.heap.size + 2]? = some (.cells (rdA T6 D6) 37 (0, 0)) := by rw [setRow_other _ _ _ _ (by omega)]; exact setRow_heap _ _ _ _ _ _ hq1.r6
          have hs2 := setRow_heap _ _ _ (rsA a b ⟨(a : Int), TN, x⟩ p9 c9) _ _ hr7
          have hk : KR 0 wD ((wD.setRow (w.heap.size + 2) (rdA T6 D6)).setRow (w.heap.size + 3) (rsA a b ⟨(a : Int), TN, x⟩ p9 c9)) := (kr_turn (turns_setRow _ _ _) hq1.r6 (by decide) (by decide)).trans (kr_turn (turns_setRow _ _ _) hr7 (by decide) (by decide))
          refine bodyPost_ret (results_cells2_tmp rfl _ _ _ _ _ _ _ _ _ _ _ _ rfl rfl hs1 hs2 Tryz.underlying37 rfl (infoRD _ (rdA_size hq1.rd.n3 hq1.rd.m3)) Tryz.underlying46 rfl (infoRS _ rfl)) rfl ?_
          obtain ⟨f1, f2, f3⟩ := HFIN.out
          unfold RPuP
          rw [f1, f2, f3]
          exact ⟨T6, p9, c9, rfl, hq1.rd.step hk, hq1.rb.step hk, below_setRow (below_setRow hq1.low (by omega) _) (by omega) _⟩
        · have q3 : decide ((0 : Int) < (unitsAll (fD d a).steps : Int)) = false := decide_eq_false (by omega)
          have q4 : decide (0 < unitsAll (fD d a).steps) = false := decide_eq_false hu
          have HAC : Hid (acts d a (wrapB s x) = [.put (wrapB s x), .sync]) := by
            show _ = _
            unfold acts full
            rw [decide_eq_false hl, decide_eq_false hu]; rfl
          rw [HAC.out] at HPN
          go_upto_region 14 with fail
          clear q3 q4
          skip
          -- from region 14: put and sync; world w6, disk ts d
          have HIL : Hid (a < d.fs.length) := by show _ < _; rw [HPQ.out.rd.m3]; exact HI3.out
          have HL3 : Hid (∀ w', Below w6.heap.size w6 w' → w'.rangeAt w.heap.size 0 (rdA ts d).toList) := fun w' hb => row_rangeR (Below.keepOld hb HPQ.out.r3)
          have HT3 : Hid (∀ w', Below w6.heap.size w6 w' → w'.cell? ⟨w.heap.size + 1, 3, none⟩ = some (.int .u64 (s.turn : Int))) := fun w' hb => (rs_cells (Below.keepOld hb HPQ.out.r4)).2.2.2.1
          have HXB := Lib.hid (HX.out.below HPQ.out.low)
          refine wp_region_eager_u (Below w6.heap.size w6) [0, 1, 2, 3, 4, 6] [(0, true), (1, true), (2, true), (3, true), (4, true), (6, true), (5, false), (7, false), (8, false), (9, false)] (.take 10 (.take 11 (.take 12 (.one 13 (.one 14 .nil))))) (by kernel_rfl) (by kernel_rfl) ?_ (eagerUOpen rfl ?_)
          · exact below_drew1 _ _
          have hy0 : Below w6.heap.size w6 w6.drew := below_drew1 _ _
          repeat (first
            | ((with_reducible refine eagerULoadAt 3 ?_); refine wpEagerU_load (by rfl) 37 _ rfl w.heap.size 0 rfl (rdA ts d) _ (fun w' hb => HL3.out w' hb) Tryz.underlying37 rfl (infoRD _ (rdA_size HPQ.out.rd.n3 HPQ.out.rd.m3)) ?_; (try simp only [Act.put, List.setIfInBounds_toArray, List.set_cons_zero, List.set_cons_succ]); (try refine eagerUOpen rfl ?_))
            | (apply wpEagerU_take; (· rfl); (· (intro w' hb'; have hk' := (HT3.out) w' hb'; go_split_ands; go_simp; try with_reducible rfl)); (try simp only [Act.put, List.setIfInBounds_toArray, List.set_cons_zero, List.set_cons_succ]); (try refine eagerUOpen rfl ?_))
            | (first | (apply wpEagerU_take; (· rfl); (· (intro w' hb'; go_simp; try with_reducible rfl)); (try simp only [Act.put, List.setIfInBounds_toArray, List.set_cons_zero, List.set_cons_succ]); (try refine eagerUOpen rfl ?_)) | (refine wpEagerU_skip (by rfl) ?_; (try simp only [Act.put, List.setIfInBounds_toArray, List.set_cons_zero, List.set_cons_succ]); (try refine eagerUOpen rfl ?_))))
          (refine wpEagerU_op (by rfl) (fun K hK => ?_); go_simp; (refine (number8 w6.drew TN HTL.out).mono ?_; rintro e y8 ⟨p8, c8, rfl, ho, hb⟩; have hy1 : Below w6.heap.size w6 y8 := hy0.trans hb; have HO8 := Lib.hid ho; clear ho hb); refine Shut.out hK _ _ (by assumption) ?_; clear hK K; (try simp only [Act.put, List.setIfInBounds_toArray, List.set_cons_zero, List.set_cons_succ]); (try refine eagerUOpen rfl ?_))
          have HB8 : Hid (w6.heap.size ≤ y8.heap.size) := hy1.size
          have HXS := Lib.hid (HXB.out.below hy1)
          refine wpEagerU_op (by rfl) (fun K hK => oper_of_list rfl ?_)
          refine wpList_append_nx rfl _ _ 22 rfl (base := w6.drew.heap.size) Tryz.underlying22 Frm.info8b rfl (by omega) rfl HO8.out rfl HXS.out (bytesV_one _) ⟨by omega, by omega⟩ HB8.out ?_
          intro p9 c9 y9 ho9 hgr hnx _
          have hb9 := own_below HO8.out hgr HB8.out
          have hy2 : Below w6.heap.size w6 y9 := hy1.trans (show Below w6.heap.size y8 y9 from hb9)
          have HFB : Hid (Bs y9 p9 (8 + x.length) c9 (be TN 8 ++ x)) := by
            rw [← bytesV_append] at ho9
            exact Cut.own_bs ho9
          have HWB : Hid (frame (be TN 8 ++ x) = wrapB s x) := by show _ = _; unfold wrapB; rw [HTN.out]
          have HWL : Hid ((wrapB s x).length ≤ 60000) := by show _ ≤ _; rw [← HWB.out, Frm.frame_length, List.length_append, be_length]; omega
          have HFR := Lib.hid (Frm.rbytes_any p9 (8 + x.length) c9 (be TN 8 ++ x) y9 HFB.out (by omega))
          rw [HWB.out] at HFR
          refine only_end (Shut.out hK _ _ hy2 ?_)
          clear hK K ho9 hgr hnx hb9 HO8 HXS HB8 HFB HWB
          (try simp only [Act.put, List.setIfInBounds_toArray, List.set_cons_zero, List.set_cons_succ]); (try refine eagerUOpen rfl ?_)
          (refine wpEagerU_op (by rfl) (fun K hK => ?_); go_simp; (refine HFR.out.mono ?_; rintro e yF ⟨pF, cF, rfl, ho, hb⟩; have HOF := Lib.hid (Cut.own_bs ho); have hy3 : Below w6.heap.size w6 yF := hy2.trans (hb.mono hy2.size); clear ho hb); refine Shut.out hK _ _ (by assumption) ?_; clear hK K; (try simp only [Act.put, List.setIfInBounds_toArray, List.set_cons_zero, List.set_cons_succ]); (try refine eagerUOpen rfl ?_))
          have HPC : Hid (Calls Tryz.prog 8 #[.agg (rdA ts d), .int .i64 (a : Int), .slice pF (wrapB s x).length cF] yF (ROut (stpD d a (.put (wrapB s x))) (stpE d a (.put (wrapB s x))) yF)) := rput_in ts d a HI3.out pF (wrapB s x) cF yF (HPQ.out.rd.below hy3) HG.out.used HOF.out HWL.out (by have := fewfd (i := a) HG.out.few; omega)
          (refine wpEagerU_op (by rfl) (fun K hK => ?_); go_simp; (refine HPC.out.mono ?_; rintro e yP ⟨T5, rfl, hr, hb⟩; have HR5 := Lib.hid hr; have hy4 : Below w6.heap.size w6 yP := hy3.trans (hb.mono hy3.size); clear hr hb); refine Shut.out hK _ _ (by assumption) ?_; clear hK K; (try simp only [Act.put, List.setIfInBounds_toArray, List.set_cons_zero, List.set_cons_succ]); (try refine eagerUOpen rfl ?_))
          refine eagerUEnd ?_
          have hq := HPQ.out.next hy4
          have HQR := Lib.hid hq.r3
          have HSZ3 : Hid ((rdA ts d).size = (rdA T5 (stpD d a (.put (wrapB s x)))).size) := by show _ = _; rw [rdA_size hq.rd.n3 hq.rd.m3, rdA_size HR5.out.n3 HR5.out.m3]
          have HP5 := Lib.hid (hq.disk HR5.out)
          have HOK5 : Hid (stpE d a (.put (wrapB s x)) = 0 → Pnd d s a b x a [.sync] (stpD d a (.put (wrapB s x)))) := fun h => HPN.out.ok h
          have HNO5 : Hid (¬ stpE d a (.put (wrapB s x)) = 0 → putSD d s a b x = stpD d a (.put (wrapB s x)) ∧ putSS d s a b x = s ∧ putSE d s a b x = stpE d a (.put (wrapB s x))) := fun h => HPN.out.no h
          obtain ⟨M5, HG5⟩ : ∃ M, Hid (Gd (stpD d a (.put (wrapB s x))) M) := ⟨_, HG.out.did HIL.out _⟩
          clear hq HPN HPQ HL3 HT3 HXB HPC HFR HOF HWL hy0 hy1 hy2 hy3 hy4 HIL HG HR5
          generalize stpE d a (.put (wrapB s x)) = E5 at *
          generalize stpD d a (.put (wrapB s x)) = D5 at *
          repeat (apply tree_take; (· rfl); (· rfl); (· (intro w' hb'; go_simp; try with_reducible rfl)); try simp only [Act.put, List.setIfInBounds_toArray, List.set_cons_zero, List.set_cons_succ])
          refine tree_one rfl (by rfl) (fun K hK => oper_of_list rfl ?_)
          refine wpList_store_row rfl 37 _ _ rfl w.heap.size (rdA T5 D5) rfl rfl 37 (rdA ts d) HQR.out (infoRD _ (rdA_size HP5.out.rd.n3 HP5.out.rd.m3)) HSZ3.out (rdA_one HP5.out.rd.n3 HP5.out.rd.m3) ?_
          refine only_end (Shut.out hK _ _ trivial ?_)
          clear hK K HQR HSZ3
          try simp only [Act.put]
          generalize yP.setRow w.heap.size (rdA T5 D5) = z5 at *
          refine tree_one rfl (by rfl) (fun K hK => ?_)
          go_simp
          refine Shut.out hK _ _ trivial ?_
          clear hK K
          try simp only [Act.put, List.setIfInBounds_toArray, List.set_cons_zero, List.set_cons_succ]
          refine tree_nil ?_
          by_cases he1 : E5 = 0
          rotate_left
          · have q1 : (E5 != 0) = true := bne_iff_ne.2 he1
            have HFIN := Lib.hid (HNO5.out he1)
            have HPQ := HP5
            clear he1 HOK5
            go_upto_region 16 with fail
            skip
            -- the results stored and told: region's tree .take 0 (.take 1 (.take 2 (.one 3 (.one 4 (.one 5 .nil))))); HPQ : Hid (PQ w a b T5 D5 s p c z5), the error EX; HFIN : Hid (putSD .. = D5 ∧ putSS .. = s ∧ putSE .. = EX)
            have HL3 : Hid (∀ w', Turns (fun k => k = w.heap.size + 2 ∨ k = w.heap.size + 3) z5 w' → w'.rangeAt w.heap.size 0 (rdA T5 D5).toList) := fun w' hb => row_rangeR (hb.keep HPQ.out.r3 (by rintro (h | h) <;> omega))
            have HL4 : Hid (∀ w', Turns (fun k => k = w.heap.size + 2 ∨ k = w.heap.size + 3) z5 w' → w'.rangeAt (w.heap.size + 1) 0 (rsA a b s p c).toList) := fun w' hb => row_rangeR (hb.keep HPQ.out.r4 (by rintro (h | h) <;> omega))
            refine wp_region_tree (Turns (fun k => k = w.heap.size + 2 ∨ k = w.heap.size + 3) z5) (.take 0 (.take 1 (.take 2 (.one 3 (.one 4 (.one 5 .nil)))))) (by kernel_rfl) (by kernel_rfl) (Turns.of_below (below_drew1 _ _)) ?_
            have hy0 : Below z5.heap.size z5 z5.drew := below_drew1 _ _
            refine tree_load rfl (by rfl) 37 _ rfl w.heap.size 0 rfl (rdA T5 D5) _ (fun w' hb => HL3.out w' hb) Tryz.underlying37 rfl (infoRD _ (rdA_size HPQ.out.rd.n3 HPQ.out.rd.m3)) ?_
            try simp only [Act.put, List.setIfInBounds_toArray, List.set_cons_zero, List.set_cons_succ]
            refine tree_load rfl (by rfl) 46 _ rfl (w.heap.size + 1) 0 rfl (rsA a b s p c) _ (fun w' hb => HL4.out w' hb) Tryz.underlying46 rfl (infoRS _ rfl) ?_
            try simp only [Act.put, List.setIfInBounds_toArray, List.set_cons_zero, List.set_cons_succ]
            repeat (apply tree_take; (· rfl); (· rfl); (· (intro w' hb'; go_simp; try with_reducible rfl)); try simp only [Act.put, List.setIfInBounds_toArray, List.set_cons_zero, List.set_cons_succ])
            have hq1 := HPQ.out.next hy0
            have ht0 : Turns (fun k => k = w.heap.size + 2 ∨ k = w.heap.size + 3) z5 z5.drew := Turns.of_below hy0
            clear HL3 HL4 HPQ hy0
            generalize z5.drew = wD at *
            refine tree_one rfl (by rfl) (fun K hK => oper_of_list rfl ?_)
            refine wpList_store_row rfl 37 _ _ rfl (w.heap.size + 2) (rdA T5 D5) rfl rfl 37 zD hq1.r6 (infoRD _ (rdA_size hq1.rd.n3 hq1.rd.m3)) (by rw [rdA_size hq1.rd.n3 hq1.rd.m3]; rfl) (rdA_one hq1.rd.n3 hq1.rd.m3) ?_
            have ht1 := ht0.trans (turns_setRow wD (w.heap.size + 2) (rdA T5 D5)) (fun k _ hk => .inl hk)
            refine only_end (Shut.out hK _ _ ht1 ?_)
            clear hK K
            try simp only [Act.put]
            have hr7 : (wD.setRow (w.heap.size + 2) (rdA T5 D5)).heap[w.heap.size + 3]? = some (.cells zS 46 (0, 0)) := by rw [setRow_other _ _ _ _ (by omega)]; exact hq1.r7
            refine tree_one rfl (by rfl) (fun K hK => oper_of_list rfl ?_)
            refine wpList_store_row rfl 46 _ _ rfl (w.heap.size + 3) (rsA a b s p c) rfl rfl 46 zS hr7 (infoRS _ rfl) rfl (rsA_one _ _ _ _ _) ?_
            have ht2 := ht1.trans (turns_setRow (wD.setRow (w.heap.size + 2) (rdA T5 D5)) (w.heap.size + 3) (rsA a b s p c)) (fun k _ hk => .inr hk)
            refine only_end (Shut.out hK _ _ ht2 ?_)
            clear hK K
            try simp only [Act.put]
            refine tree_one rfl (by rfl) (fun K hK => ?_)
            go_simp
            refine Shut.out hK _ _ ht2 ?_
            clear hK K
            try simp only [Act.put, List.setIfInBounds_toArray, List.set_cons_zero, List.set_cons_succ]
            refine tree_nil ?_
            go_wp2_with fail
            have hs1 : ((wD.setRow (w.heap.size + 2) (rdA T5 D5)).setRow (w.heap.size + 3) (rsA a b s p c)).heap[w.heap.size + 2]? = some (.cells (rdA T5 D5) 37 (0, 0)) := by rw [setRow_other _ _ _ _ (by omega)]; exact setRow_heap _ _ _ _ _ _ hq1.r6
            have hs2 := setRow_heap _ _ _ (rsA a b s p c) _ _ hr7
            have hk : KR 0 wD ((wD.setRow (w.heap.size + 2) (rdA T5 D5)).setRow (w.heap.size + 3) (rsA a b s p c)) := (kr_turn (turns_setRow _ _ _) hq1.r6 (by decide) (by decide)).trans (kr_turn (turns_setRow _ _ _) hr7 (by decide) (by decide))
            refine bodyPost_ret (results_cells2_tmp rfl _ _ _ _ _ _ _ _ _ _ _ _ rfl rfl hs1 hs2 Tryz.underlying37 rfl (infoRD _ (rdA_size hq1.rd.n3 hq1.rd.m3)) Tryz.underlying46 rfl (infoRS _ rfl)) rfl ?_
            obtain ⟨f1, f2, f3⟩ := HFIN.out
            unfold RPuP
            rw [f1, f2, f3]
            exact ⟨T5, p, c, rfl, hq1.rd.step hk, hq1.rb.step hk, below_setRow (below_setRow hq1.low (by omega) _) (by omega) _⟩
          have q1 : (E5 != 0) = false := by rw [bne_eq_false_iff_eq]; exact he1
          have HPN := Lib.hid (HOK5.out he1)
          have HPQ := HP5
          have HIL : Hid (a < D5.fs.length) := by show _ < _; rw [HPQ.out.rd.m3]; exact HI3.out
          have HOKF : Hid (fD D5 a).Ok := RDB.okF HPQ.out.rd HI3.out
          have HC : Hid (Calls Tryz.prog 34 #[.agg (rdA T5 D5), .int .i64 (a : Int)] z5 (ROut (stpD D5 a .sync) (stpE D5 a .sync) z5)) := rsync_in T5 D5 a HI3.out (fD D5 a) (HPQ.out.rd.fd HI3.out) z5 HPQ.out.rd
          clear he1 HOK5 HNO5 HP5
          go_upto_region 17 with fail
          clear q1
          skip
          -- one call of the reference's disk: world z5, boxes HPQ (disk T5, D5); HC : Hid (Calls .. z5 (ROut (stpD D5 i .sync) (stpE D5 i .sync) z5)); HPN: pending .sync :: ..; 18: the region behind it
          go_wp2_with (refine wpList_load_row rfl 37 _ rfl w.heap.size rfl 37 (rdA T5 D5) (0, 0) _ HPQ.out.r3 Tryz.underlying37 rfl (infoRD _ (rdA_size HPQ.out.rd.n3 HPQ.out.rd.m3)) ?_)
          refine HC.out.mono ?_
          rintro e y6 ⟨T6, rfl, hr, hb⟩
          have hq := HPQ.out.next hb
          have HQR := Lib.hid hq.r3
          have HSZ3 : Hid ((rdA T5 D5).size = (rdA T6 (stpD D5 a .sync)).size) := by show _ = _; rw [rdA_size hq.rd.n3 hq.rd.m3, rdA_size hr.n3 hr.m3]
          have HP6 := Lib.hid (hq.disk hr)
          have HOK6 : Hid (stpE D5 a .sync = 0 → Pnd d s a b x a [] (stpD D5 a .sync)) := fun h => HPN.out.ok h
          have HNO6 : Hid (¬ stpE D5 a .sync = 0 → putSD d s a b x = stpD D5 a .sync ∧ putSS d s a b x = s ∧ putSE d s a b x = stpE D5 a .sync) := fun h => HPN.out.no h
          clear hq hr hb HPQ HC HPN
          have HG6 : Hid (Gd (stpD D5 a .sync) (M5)) := HG5.out.synd HIL.out HOKF.out
          generalize stpE D5 a .sync = E6 at *
          generalize stpD D5 a .sync = D6 at *
          go_upto_region 18 with (refine wpList_store_row rfl 37 _ _ rfl w.heap.size (rdA T6 D6) rfl rfl 37 (rdA T5 D5) HQR.out (infoRD _ (rdA_size HP6.out.rd.n3 HP6.out.rd.m3)) HSZ3.out (rdA_one HP6.out.rd.n3 HP6.out.rd.m3) ?_)
          try simp only [Act.put, List.setIfInBounds_toArray, List.set_cons_zero, List.set_cons_succ]
          clear HQR HSZ3
          generalize y6.setRow w.heap.size (rdA T6 D6) = z6 at *
          by_cases he1 : E6 = 0
          rotate_left
          · have q1 : (E6 != 0) = true := bne_iff_ne.2 he1
            have HFIN := Lib.hid (HNO6.out he1)
            have HPQ := HP6
            clear he1 HOK6
            go_upto_region 19 with fail
            skip
            -- the results stored and told: region's tree .take 0 (.take 1 (.take 2 (.one 3 (.one 4 (.one 5 .nil))))); HPQ : Hid (PQ w a b T6 D6 s p c z6), the error EX; HFIN : Hid (putSD .. = D6 ∧ putSS .. = s ∧ putSE .. = EX)
            have HL3 : Hid (∀ w', Turns (fun k => k = w.heap.size + 2 ∨ k = w.heap.size + 3) z6 w' → w'.rangeAt w.heap.size 0 (rdA T6 D6).toList) := fun w' hb => row_rangeR (hb.keep HPQ.out.r3 (by rintro (h | h) <;> omega))
            have HL4 : Hid (∀ w', Turns (fun k => k = w.heap.size + 2 ∨ k = w.heap.size + 3) z6 w' → w'.rangeAt (w.heap.size + 1) 0 (rsA a b s p c).toList) := fun w' hb => row_rangeR (hb.keep HPQ.out.r4 (by rintro (h | h) <;> omega))
            refine wp_region_tree (Turns (fun k => k = w.heap.size + 2 ∨ k = w.heap.size + 3) z6) (.take 0 (.take 1 (.take 2 (.one 3 (.one 4 (.one 5 .nil)))))) (by kernel_rfl) (by kernel_rfl) (Turns.of_below (below_drew1 _ _)) ?_
            have hy0 : Below z6.heap.size z6 z6.drew := below_drew1 _ _
            refine tree_load rfl (by rfl) 37 _ rfl w.heap.size 0 rfl (rdA T6 D6) _ (fun w' hb => HL3.out w' hb) Tryz.underlying37 rfl (infoRD _ (rdA_size HPQ.out.rd.n3 HPQ.out.rd.m3)) ?_
            try simp only [Act.put, List.setIfInBounds_toArray, List.set_cons_zero, List.set_cons_succ]
            refine tree_load rfl (by rfl) 46 _ rfl (w.heap.size + 1) 0 rfl (rsA a b s p c) _ (fun w' hb => HL4.out w' hb) Tryz.underlying46 rfl (infoRS _ rfl) ?_
            try simp only [Act.put, List.setIfInBounds_toArray, List.set_cons_zero, List.set_cons_succ]
            repeat (apply tree_take; (· rfl); (· rfl); (· (intro w' hb'; go_simp; try with_reducible rfl)); try simp only [Act.put, List.setIfInBounds_toArray, List.set_cons_zero, List.set_cons_succ])
            have hq1 := HPQ.out.next hy0
            have ht0 : Turns (fun k => k = w.heap.size + 2 ∨ k = w.heap.size + 3) z6 z6.drew := Turns.of_below hy0
            clear HL3 HL4 HPQ hy0
            generalize z6.drew = wD at *
            refine tree_one rfl (by rfl) (fun K hK => oper_of_list rfl ?_)
            refine wpList_store_row rfl 37 _ _ rfl (w.heap.size + 2) (rdA T6 D6) rfl rfl 37 zD hq1.r6 (infoRD _ (rdA_size hq1.rd.n3 hq1.rd.m3)) (by rw [rdA_size hq1.rd.n3 hq1.rd.m3]; rfl) (rdA_one hq1.rd.n3 hq1.rd.m3) ?_
            have ht1 := ht0.trans (turns_setRow wD (w.heap.size + 2) (rdA T6 D6)) (fun k _ hk => .inl hk)
            refine only_end (Shut.out hK _ _ ht1 ?_)
            clear hK K
            try simp only [Act.put]
            have hr7 : (wD.setRow (w.heap.size + 2) (rdA T6 D6)).heap[w.heap.size + 3]? = some (.cells zS 46 (0, 0)) := by rw [setRow_other _ _ _ _ (by omega)]; exact hq1.r7
            refine tree_one rfl (by rfl) (fun K hK => oper_of_list rfl ?_)
            refine wpList_store_row rfl 46 _ _ rfl (w.heap.size + 3) (rsA a b s p c) rfl rfl 46 zS hr7 (infoRS _ rfl) rfl (rsA_one _ _ _ _ _) ?_
            have ht2 := ht1.trans (turns_setRow (wD.setRow (w.heap.size + 2) (rdA T6 D6)) (w.heap.size + 3) (rsA a b s p c)) (fun k _ hk => .inr hk)
            refine only_end (Shut.out hK _ _ ht2 ?_)
            clear hK K
            try simp only [Act.put]
            refine tree_one rfl (by rfl) (fun K hK => ?_)
            go_simp
            refine Shut.out hK _ _ ht2 ?_
            clear hK K
            try simp only [Act.put, List.setIfInBounds_toArray, List.set_cons_zero, List.set_cons_succ]
            refine tree_nil ?_
            go_wp2_with fail
            have hs1 : ((wD.setRow (w.heap.size + 2) (rdA T6 D6)).setRow (w.heap.size + 3) (rsA a b s p c)).heap[w.heap.size + 2]? = some (.cells (rdA T6 D6) 37 (0, 0)) := by rw [setRow_other _ _ _ _ (by omega)]; exact setRow_heap _ _ _ _ _ _ hq1.r6
            have hs2 := setRow_heap _ _ _ (rsA a b s p c) _ _ hr7
            have hk : KR 0 wD ((wD.setRow (w.heap.size + 2) (rdA T6 D6)).setRow (w.heap.size + 3) (rsA a b s p c)) := (kr_turn (turns_setRow _ _ _) hq1.r6 (by decide) (by decide)).trans (kr_turn (turns_setRow _ _ _) hr7 (by decide) (by decide))
            refine bodyPost_ret (results_cells2_tmp rfl _ _ _ _ _ _ _ _ _ _ _ _ rfl rfl hs1 hs2 Tryz.underlying37 rfl (infoRD _ (rdA_size hq1.rd.n3 hq1.rd.m3)) Tryz.underlying46 rfl (infoRS _ rfl)) rfl ?_
            obtain ⟨f1, f2, f3⟩ := HFIN.out
            unfold RPuP
            rw [f1, f2, f3]
            exact ⟨T6, p, c, rfl, hq1.rd.step hk, hq1.rb.step hk, below_setRow (below_setRow hq1.low (by omega) _) (by omega) _⟩
          have q1 : (E6 != 0) = false := by rw [bne_eq_false_iff_eq]; exact he1
          have HFIN0 := Lib.hid (HOK6.out he1).end
          have HPQ := HP6
          clear he1 HOK6 HNO6 HP6 HIL HOKF HG5 HG6
          obtain ⟨_, _, c2, c3, c4, hfz⟩ := rs_cells HPQ.out.r4
          have hq1 := HPQ.out.cell (s' := ⟨(a : Int), s.turn, s.body⟩) (p' := p) (c' := c) 2 (.int .i64 (a : Int)) rfl HPQ.out.rb
          have hq2 := hq1.cell (s' := ⟨(a : Int), TN, s.body⟩) (p' := p) (c' := c) 3 (.int .u64 (TN : Int)) rfl hq1.rb
          go_upto_region 22 with fail
          clear c2 c3 c4 hfz hq1 HPQ q1
          generalize (z6.setCell ⟨w.heap.size + 1, 2, none⟩ (.int .i64 (a : Int))).setCell ⟨w.heap.size + 1, 3, none⟩ (.int .u64 (TN : Int)) = z8 at *
          have HQ2 := Lib.hid hq2
          have hal := Below.allocs z8 (.cells #[] 5)
          have HO0 : Hid ((z8.alloc (.cells #[] 5)).ownsRow z8.heap.size 5 1 (.slice (some ⟨z8.heap.size, 0, none⟩) 0 0) 0 []) := own_made0 z8 _ _ _ _ rfl (Nat.le_refl _)
          have HXS := Lib.hid ((HX.out.below hq2.low).below hal)
          have HZS := Lib.hid hal.size
          have HZL := Lib.hid hal
          clear hq2 hal
          go_wp2_with (at_builtin; refine wpList_append_nx rfl _ _ 22 rfl (base := z8.heap.size) Tryz.underlying22 Frm.info8b rfl (by omega) rfl HO0.out rfl HXS.out (bytesV_one _) ⟨by omega, by omega⟩ HZS.out ?_)
          intro p9 c9 y9 ho9 hgr hnx _
          have hb9 := HZL.out.trans (own_below HO0.out hgr HZS.out)
          have hq3 := HQ2.out.next hb9
          try simp only [Nat.zero_add, List.nil_append] at ho9
          try simp only [Nat.zero_add]
          obtain ⟨_, _, _, _, c4, hfz⟩ := rs_cells hq3.r4
          have HPQ := Lib.hid (hq3.cell (s' := ⟨(a : Int), TN, x⟩) (p' := p9) (c' := c9) 4 (.slice p9 x.length c9) rfl (RBs.own ho9))
          have HFIN : Hid (putSD d s a b x = D6 ∧ putSS d s a b x = ⟨(a : Int), TN, x⟩ ∧ putSE d s a b x = 0) := by
            have h := HFIN0.out
            rw [HTN.out] at h
            exact h
          clear ho9 hgr hnx hb9 hq3 HQ2 HO0 HXS HZS HZL HFIN0
          go_upto_region 23 with fail
          clear c4 hfz
          generalize y9.setCell ⟨w.heap.size + 1, 4, none⟩ (.slice p9 x.length c9) = z9 at *
          skip
          -- the results stored and told: region's tree .take 0 (.take 1 (.one 2 (.one 3 (.one 4 .nil)))); HPQ : Hid (PQ w a b T6 D6 ⟨(a : Int), TN, x⟩ p9 c9 z9), the error EX; HFIN : Hid (putSD .. = D6 ∧ putSS .. = ⟨(a : Int), TN, x⟩ ∧ putSE .. = EX)
          have HL3 : Hid (∀ w', Turns (fun k => k = w.heap.size + 2 ∨ k = w.heap.size + 3) z9 w' → w'.rangeAt w.heap.size 0 (rdA T6 D6).toList) := fun w' hb => row_rangeR (hb.keep HPQ.out.r3 (by rintro (h | h) <;> omega))
          have HL4 : Hid (∀ w', Turns (fun k => k = w.heap.size + 2 ∨ k = w.heap.size + 3) z9 w' → w'.rangeAt (w.heap.size + 1) 0 (rsA a b ⟨(a : Int), TN, x⟩ p9 c9).toList) := fun w' hb => row_rangeR (hb.keep HPQ.out.r4 (by rintro (h | h) <;> omega))
          refine wp_region_tree (Turns (fun k => k = w.heap.size + 2 ∨ k = w.heap.size + 3) z9) (.take 0 (.take 1 (.one 2 (.one 3 (.one 4 .nil))))) (by kernel_rfl) (by kernel_rfl) (Turns.of_below (below_drew1 _ _)) ?_
          have hy0 : Below z9.heap.size z9 z9.drew := below_drew1 _ _
          refine tree_load rfl (by rfl) 37 _ rfl w.heap.size 0 rfl (rdA T6 D6) _ (fun w' hb => HL3.out w' hb) Tryz.underlying37 rfl (infoRD _ (rdA_size HPQ.out.rd.n3 HPQ.out.rd.m3)) ?_
          try simp only [Act.put, List.setIfInBounds_toArray, List.set_cons_zero, List.set_cons_succ]
          refine tree_load rfl (by rfl) 46 _ rfl (w.heap.size + 1) 0 rfl (rsA a b ⟨(a : Int), TN, x⟩ p9 c9) _ (fun w' hb => HL4.out w' hb) Tryz.underlying46 rfl (infoRS _ rfl) ?_
          try simp only [Act.put, List.setIfInBounds_toArray, List.set_cons_zero, List.set_cons_succ]
          repeat (apply tree_take; (· rfl); (· rfl); (· (intro w' hb'; go_simp; try with_reducible rfl)); try simp only [Act.put, List.setIfInBounds_toArray, List.set_cons_zero, List.set_cons_succ])
          have hq1 := HPQ.out.next hy0
          have ht0 : Turns (fun k => k = w.heap.size + 2 ∨ k = w.heap.size + 3) z9 z9.drew := Turns.of_below hy0
          clear HL3 HL4 HPQ hy0
          generalize z9.drew = wD at *
          refine tree_one rfl (by rfl) (fun K hK => oper_of_list rfl ?_)
          refine wpList_store_row rfl 37 _ _ rfl (w.heap.size + 2) (rdA T6 D6) rfl rfl 37 zD hq1.r6 (infoRD _ (rdA_size hq1.rd.n3 hq1.rd.m3)) (by rw [rdA_size hq1.rd.n3 hq1.rd.m3]; rfl) (rdA_one hq1.rd.n3 hq1.rd.m3) ?_
          have ht1 := ht0.trans (turns_setRow wD (w.heap.size + 2) (rdA T6 D6)) (fun k _ hk => .inl hk)
          refine only_end (Shut.out hK _ _ ht1 ?_)
          clear hK K
          try simp only [Act.put]
          have hr7 : (wD.setRow (w.heap.size + 2) (rdA T6 D6)).heap[w.heap.size + 3]? = some (.cells zS 46 (0, 0)) := by rw [setRow_other _ _ _ _ (by omega)]; exact hq1.r7
          refine tree_one rfl (by rfl) (fun K hK => oper_of_list rfl ?_)
          refine wpList_store_row rfl 46 _ _ rfl (w.heap.size + 3) (rsA a b ⟨(a : Int), TN, x⟩ p9 c9) rfl rfl 46 zS hr7 (infoRS _ rfl) rfl (rsA_one _ _ _ _ _) ?_
          have ht2 := ht1.trans (turns_setRow (wD.setRow (w.heap.size + 2) (rdA T6 D6)) (w.heap.size + 3) (rsA a b ⟨(a : Int), TN, x⟩ p9 c9)) (fun k _ hk => .inr hk)
          refine only_end (Shut.out hK _ _ ht2 ?_)
          clear hK K
          try simp only [Act.put]
          refine tree_one rfl (by rfl) (fun K hK => ?_)
          go_simp
          refine Shut.out hK _ _ ht2 ?_
          clear hK K
          try simp only [Act.put, List.setIfInBounds_toArray, List.set_cons_zero, List.set_cons_succ]
          refine tree_nil ?_
          go_wp2_with fail
          have hs1 : ((wD.setRow (w.heap.size + 2) (rdA T6 D6)).setRow (w.heap.size + 3) (rsA a b ⟨(a : Int), TN, x⟩ p9 c9)).heap[w.heap.size + 2]? = some (.cells (rdA T6 D6) 37 (0, 0)) := by rw [setRow_other _ _ _ _ (by omega)]; exact setRow_heap _ _ _ _ _ _ hq1.r6
          have hs2 := setRow_heap _ _ _ (rsA a b ⟨(a : Int), TN, x⟩ p9 c9) _ _ hr7
          have hk : KR 0 wD ((wD.setRow (w.heap.size + 2) (rdA T6 D6)).setRow (w.heap.size + 3) (rsA a b ⟨(a : Int), TN, x⟩ p9 c9)) := (kr_turn (turns_setRow _ _ _) hq1.r6 (by decide) (by decide)).trans (kr_turn (turns_setRow _ _ _) hr7 (by decide) (by decide))
          refine bodyPost_ret (results_cells2_tmp rfl _ _ _ _ _ _ _ _ _ _ _ _ rfl rfl hs1 hs2 Tryz.underlying37 rfl (infoRD _ (rdA_size hq1.rd.n3 hq1.rd.m3)) Tryz.underlying46 rfl (infoRS _ rfl)) rfl ?_
          obtain ⟨f1, f2, f3⟩ := HFIN.out
          unfold RPuP
          rw [f1, f2, f3]
          exact ⟨T6, p9, c9, rfl, hq1.rd.step hk, hq1.rb.step hk, below_setRow (below_setRow hq1.low (by omega) _) (by omega) _⟩
end Go.Proofs.YtgmahahhkaofbaaGreatDoor.Slt
