/- MESSAGES: Decode. Conditions: the laid cell of errors.errorType; at most 2^40 bytes. -/
import Derived.Test.YtmjdpfmofbbknaaDoorMsg4
import Derived.Test.YtmjdpfmofbbknaaDoorRdr6
namespace Go.Proofs.YtmjdpfmofbbknaaDoor.Msg
open Go.RowKit Go.Mir Go.Mir.Parts Wr Cod Rdr

/-! ### plain: the program's chain -/
def dUp (s1 : RD) : MsgD × RD :=
  (⟨2, s1.numV 4, (s1.numS 4).numV 4, 0, ((s1.numS 4).numS 4).idV 16, ((((s1.numS 4).numS 4).takeS 16 true).cntS 2 1000).takeB ((((s1.numS 4).numS 4).takeS 16 true).cntV 2 1000) true⟩,
    ((((s1.numS 4).numS 4).takeS 16 true).cntS 2 1000).takeS ((((s1.numS 4).numS 4).takeS 16 true).cntV 2 1000) true)
def dP (l : List UInt8) : MsgD × RD :=
  if (RD.new l).numV 1 = 1 then (⟨1, 0, 0, ((RD.new l).numS 1).numV 2, z16, []⟩, ((RD.new l).numS 1).numS 2)
  else if (RD.new l).numV 1 = 2 then dUp ((RD.new l).numS 1)
  else if (RD.new l).numV 1 = 3 ∨ (RD.new l).numV 1 = 4 then (⟨((RD.new l).numV 1 : Int), ((RD.new l).numS 1).numV 4, 0, 0, z16, []⟩, ((RD.new l).numS 1).numS 4)
  else (⟨((RD.new l).numV 1 : Int), 0, 0, 0, z16, []⟩, ((RD.new l).numS 1).fail 4)
def dQ (l : List UInt8) : MsgD × Int := if (dP l).2.done ≠ 0 then (.zero, (dP l).2.done) else ((dP l).1, 0)
/-! ### in memory -/
structure DW (w : World) (base rb mb : Nat) (s : RD) (m : MsgD) (p : Option Addr) (c : Nat) (x : World) : Prop where
  rd : RAt x base rb s
  r0 : x.heap[w.heap.size]? = some (.cells (msgA MsgD.zero none 0) 28 (0, 0))
  r1 : x.heap[mb]? = some (.cells (msgA m p c) 28 (0, 0))
  low : Below w.heap.size w x
  ne : mb ≠ rb ∧ w.heap.size < rb ∧ w.heap.size < mb
  hint : m.hint.length = 16
theorem DW.left {w x y : World} {base rb mb : Nat} {s s' : RD} {m : MsgD} {p : Option Addr} {c : Nat} (h : DW w base rb mb s m p c x) (hl : LeftR base rb s' x y) : DW w base rb mb s' m p c y :=
  ⟨hl.there, hl.turn.keep h.r0 (by have := h.ne; omega), hl.turn.keep h.r1 (by have := h.ne; omega), h.low.trans (hl.turn.below h.low.size (fun i hi => by have := h.ne; omega)), h.ne, h.hint⟩
theorem DW.below {w x y : World} {base rb mb : Nat} {s : RD} {m : MsgD} {p : Option Addr} {c : Nat} (h : DW w base rb mb s m p c x) (hb : Below x.heap.size x y) : DW w base rb mb s m p c y :=
  ⟨h.rd.below hb, Below.keepOld hb h.r0, Below.keepOld hb h.r1, h.low.trans (hb.mono h.low.size), h.ne, h.hint⟩
theorem DW.kind {w x : World} {base rb mb : Nat} {s : RD} {m : MsgD} {p : Option Addr} {c : Nat} (h : DW w base rb mb s m p c x) : ∀ k M t fr, x.heap[k]? = some (.cells M t fr) → (t = 5 ∨ t = 72 ∨ t = 67) → ¬ k = mb := fun k M t fr hk h2 h3 => by
  subst h3
  rw [h.r1] at hk
  injection hk with e1
  injection e1 with _ e2
  subst e2
  revert h2
  decide
theorem DW.set {w x : World} {base rb mb : Nat} {s : RD} {m : MsgD} {p : Option Addr} {c : Nat} (h : DW w base rb mb s m p c x) (i : Nat) (v : Value) {m' : MsgD} {p' : Option Addr} {c' : Nat} (hv : (msgA m p c).setIfInBounds i v = msgA m' p' c') (hm : m'.hint.length = 16) :
    DW w base rb mb s m' p' c' (x.setCell ⟨mb, i, none⟩ v) :=
  ⟨h.rd.touch ((Turns.refl (fun k => k = mb) x).setCell (p := ⟨mb, i, none⟩) (fun _ => rfl) v) h.kind, by rw [heap_setCell_other _ _ _ _ (by have := h.ne; simp; omega)]; exact h.r0, by rw [heap_setCell_same _ _ _ _ _ _ h.r1, hv], h.low.setCell (by have := h.ne; show w.heap.size ≤ mb; omega) _, h.ne, hm⟩
theorem msgA_hint {m : MsgD} (hh : m.hint.length = 16) (p : Option Addr) (c : Nat) (h' : List UInt8) (hl' : h'.length = 16) {A' : Array Value} (h2 : A'.size = (msgA m p c).size) (h3 : ∀ i, A'[i]? = if 4 ≤ i ∧ i < 4 + (idA h').toList.length then (idA h').toList[i - 4]? else (msgA m p c)[i]?) : A' = msgA { m with hint := h' } p c := by
  apply Array.ext_getElem?
  intro i
  rw [h3 i, idA_toList, bytesV_length, hl']
  have l1 := bytesV_length m.hint
  have l2 := bytesV_length h'
  by_cases hi : 4 ≤ i ∧ i < 4 + 16
  · rw [if_pos hi]
    unfold msgA msgL
    rw [List.getElem?_toArray, List.getElem?_append_right (by simp; omega), List.getElem?_append_left (by simp [l2, hl']; omega)]
    rfl
  · rw [if_neg hi]
    unfold msgA msgL
    rw [List.getElem?_toArray, List.getElem?_toArray]
    rcases Nat.lt_or_ge i 4 with h5 | h5
    · rw [List.getElem?_append_left (by simp; omega), List.getElem?_append_left (by simp; omega)]
    · rw [List.getElem?_append_right (by simp; omega), List.getElem?_append_right (by simp [l1, hh]; omega), List.getElem?_append_right (by simp; omega), List.getElem?_append_right (by simp [l2, hl']; omega)]
      simp [l1, l2, hh, hl']
theorem DW.hintS {w x : World} {base rb mb : Nat} {s : RD} {m : MsgD} {p : Option Addr} {c : Nat} (h : DW w base rb mb s m p c x) (h' : List UInt8) (hl' : h'.length = 16) :
    DW w base rb mb s { m with hint := h' } p c (x.setCells mb 4 (idA h').toList) := by
  have ht := turns_setCells (S := fun k => k = mb) rfl (idA h').toList 4 x (Turns.refl _ x)
  obtain ⟨A', h1, h2, h3⟩ := setCells_row mb _ (idA h').toList 4 x _ h.r1 (by rw [msgA_size h.hint, Array.length_toList, idA_size]; omega)
  rw [msgA_hint h.hint p c h' hl' h2 h3] at h1
  exact ⟨h.rd.touch ht h.kind, ht.keep h.r0 (by have := h.ne; omega), h1, h.low.trans (ht.below h.low.size (fun i hi => by have := h.ne; omega)), h.ne, hl'⟩
theorem DW.cells {w x : World} {base rb mb : Nat} {s : RD} {m : MsgD} {p : Option Addr} {c : Nat} (h : DW w base rb mb s m p c x) :
    x.cell? ⟨mb, 0, none⟩ = some (.int .i64 m.kind) ∧ x.cell? ⟨mb, 1, none⟩ = some (.int .u32 (m.ses : Int)) ∧ x.cell? ⟨mb, 2, none⟩ = some (.int .u32 (m.seq : Int)) ∧ x.cell? ⟨mb, 3, none⟩ = some (.int .u32 (m.quo : Int)) ∧ x.cell? ⟨mb, 20, none⟩ = some (.slice p m.blob.length c) ∧ ∀ i, x.frozen? ⟨mb, i, none⟩ = false :=
  ⟨(msg_cells h.hint h.r1).1, (msg_cells h.hint h.r1).2.1, (msg_cells h.hint h.r1).2.2.1, (msg_cells h.hint h.r1).2.2.2.1, (msg_cells h.hint h.r1).2.2.2.2.1, fun i => frozen_of_row _ _ i _ _ h.r1⟩
theorem built_m (k : Int) : Tryd.prog.built 28 [(0, .int .i64 k)] = some (msgA ⟨k, 0, 0, 0, z16, []⟩ none 0) := by kernel_rfl
theorem built_m0 : Tryd.prog.built 28 [] = some (msgA MsgD.zero none 0) := by kernel_rfl
theorem set1 (m : MsgD) (p : Option Addr) (c n : Nat) : (msgA m p c).setIfInBounds 1 (.int .u32 (n : Int)) = msgA { m with ses := n } p c := rfl
theorem set2 (m : MsgD) (p : Option Addr) (c n : Nat) : (msgA m p c).setIfInBounds 2 (.int .u32 (n : Int)) = msgA { m with seq := n } p c := rfl
theorem set3 (m : MsgD) (p : Option Addr) (c n : Nat) : (msgA m p c).setIfInBounds 3 (.int .u32 (n : Int)) = msgA { m with quo := n } p c := rfl
def DecP (l : List UInt8) (w : World) (e : Ending) (w' : World) : Prop :=
  ∃ p c, e = .returned (.tuple #[.agg (msgA (dQ l).1 p c), .int .i64 (dQ l).2]) ∧ w'.ownsRow w.heap.size 5 1 (.slice p (dQ l).1.blob.length c) (dQ l).1.blob.length (bytesV (dQ l).1.blob) ∧ (dQ l).1.hint.length = 16 ∧ Below w.heap.size w w'
theorem results_cell_tmp2 {P : Program} {fn : Func} {p q : Tmp} {ty : TypeId} (h : fn.results = #[.cell p ty, .tmp q]) (tmps : Array Value) (w : World) (g : Nat) (t : TypeId) (cs : Array Value) (fr : Nat × Nat) (d : TypeDesc)
    (hp : tmps.getD p undef = .pointer (some ⟨g, 0, none⟩)) (hg : w.heap[g]? = some (.cells cs t fr))
    (hu : P.underlying ty = some d) (hd : (match d with | .struct _ | .array _ _ => true | _ => false) = true) (hi : (P.info? ty).map (·.size) = some cs.size) :
    (results fn tmps).run P w = .ok (.tuple #[.agg cs, tmps.getD q undef]) w := by
  have hp' : tmps[p]?.getD undef = .pointer (some ⟨g, 0, none⟩) := by simpa using hp
  simp [results, h, hp', asAddr, run_loadVar_row w g t ty cs fr d hg hu hd hi]
theorem idV_len (s : RD) (n : Nat) : (s.idV n).length = n := by
  unfold RD.idV
  have h := takeB_len s (n : Int) true
  rw [if_pos (by omega)] at h
  rw [List.length_append, List.length_replicate]
  omega
theorem numV_pow (s : RD) (k : Nat) (hk : k ≤ 8) : s.numV (k : Int) < 256 ^ k := by
  unfold RD.numV
  have h1 := beN_lt_pow (s.takeB (k : Int) (fitsW (k : Int)))
  have h2 := takeB_len s (k : Int) (fitsW (k : Int))
  rw [if_pos (by omega)] at h2
  have h3 : 256 ^ (s.takeB (k : Int) (fitsW (k : Int))).length ≤ 256 ^ k := Nat.pow_le_pow_right (by omega) (by omega)
  omega
set_option maxRecDepth 100000 in
set_option maxHeartbeats 3200000 in
theorem decode_any (p0 : Option Addr) (n0 c0 : Nat) (l : List UInt8) (w : World) (hE : EType w) (hB : Bs w p0 n0 c0 l) (hn : n0 ≤ 1099511627776) :
    Calls Tryd.prog 11 #[.slice p0 n0 c0] w (DecP l w) := by
  have hz := zeroM
  have HE := Lib.hid hE
  have hle := hB.le
  have hmax := hB.max
  have HZB : Hid (Below w.heap.size w (w.alloc (.cells (msgA MsgD.zero none 0) 28))) := Below.allocs _ _
  have HZR : Hid ((w.alloc (.cells (msgA MsgD.zero none 0) 28)).heap[w.heap.size]? = some (.cells (msgA MsgD.zero none 0) 28 (0, 0))) := heap_alloc_last _ _
  have HZS : Hid ((w.alloc (.cells (msgA MsgD.zero none 0) 28)).heap.size = w.heap.size + 1) := by show _ = _; simp
  have HBS := Lib.hid hB
  clear hB hE
  have hV : (RD.new l).numV 1 < 256 := by
    have := numV_pow (RD.new l) 1 (by omega)
    simpa using this
  have HNUM : Hid (∀ (w : World) (base rb : Nat), RAt w base rb (RD.new l) → Calls Tryd.prog 23 #[.pointer (some ⟨rb, 0, none⟩), .int .i64 1] w (NumP base rb (RD.new l) 1 w)) := fun w base rb h => Rdr.num_any w h 1 (by omega)
  have hdp : dP l = dP l := rfl
  have HQ : Hid (∀ s m, dP l = (m, s) → (s.done ≠ 0 → dQ l = (.zero, s.done)) ∧ (s.done = 0 → dQ l = (m, 0))) := fun s m h => by
    unfold dQ
    rw [h]
    exact ⟨fun h' => if_pos h', fun h' => if_neg (by simp [h'])⟩
  conv at hdp => rhs; unfold dP
  unfold NumP at HNUM
  generalize (RD.new l).numS 1 = s1 at *
  obtain ⟨V, hVV⟩ : ∃ V, (RD.new l).numV 1 = V := ⟨_, rfl⟩
  rw [hVV] at HNUM hdp hV
  have hVw : IntKind.i64.wrap (V : Int) = (V : Int) := IntWalk.i64_in _ (by omega)
  have HDP := Lib.hid hdp
  clear hdp hVV
  by_cases h1 : V = 1
  · have t1 : ((V : Int) == 1) = true := by rw [beq_iff_eq]; omega
    have hq := HQ.out (s1.numS 2) ⟨1, 0, 0, s1.numV 2, z16, []⟩ (by rw [HDP.out, if_pos h1])
    have hnb : s1.numV 2 < 65536 := by
      have := numV_pow s1 2 (by omega)
      simpa using this
    have HN2 : Hid (∀ (w : World) (base rb : Nat), RAt w base rb s1 → Calls Tryd.prog 23 #[.pointer (some ⟨rb, 0, none⟩), .int .i64 2] w (NumP base rb s1 2 w)) := fun w base rb h => Rdr.num_any w h 2 (by omega)
    unfold NumP at HN2
    generalize s1.numS 2 = s2 at *
    generalize s1.numV 2 = n1 at *
    have hnw : IntKind.u32.wrap (n1 : Int) = (n1 : Int) := by rw [IntKind.wrap_u32]; omega
    have HV1 : Hid ((1 : Int) = (V : Int)) := by show _ = _; omega
    rw [HV1.out] at hq
    clear h1 hV hnb
    go_enter Tryd.func11, Tryd.ntmps11
    go_upto_region 1 with fail
    generalize w.alloc (.cells (msgA MsgD.zero none 0) 28) = w1 at *
    go_wp2_with fail
    refine (Rdr.new_any w1 _ _ _ l (HBS.out.below HZB.out) (by omega)).mono ?_
    rintro e w2 ⟨rb, rfl, hr2, hb2⟩
    have HR2 := Lib.hid hr2
    have HB2 := Lib.hid hb2
    clear hr2 hb2
    go_wp2_with fail
    refine (HNUM.out _ _ _ HR2.out).mono ?_
    rintro e w3 ⟨rfl, hl3⟩
    have HL3 := Lib.hid hl3
    clear hl3
    go_upto_region 3 with (first
      | ((with_reducible refine wpAt 12 ?_); refine Rdr.wpList_build rfl 28 _ rfl [(0, .int .i64 (V : Int))] rfl _ (built_m _) ?_)
      | ((with_reducible refine wpStoreAt 5 ?_); refine wpList_store_row rfl 28 _ _ rfl w3.heap.size (msgA ⟨(V : Int), 0, 0, 0, z16, []⟩ none 0) rfl rfl 28 (msgA MsgD.zero none 0) (heap_alloc_last _ _) (sizeM _ rfl) rfl (msgA_one _ _ _) ?_))
    simp only [Act.put]
    have hdw : DW w w1.heap.size rb w3.heap.size s1 ⟨(V : Int), 0, 0, 0, z16, []⟩ none 0 ((w3.alloc (.cells (msgA MsgD.zero none 0) 28)).setRow w3.heap.size (msgA ⟨(V : Int), 0, 0, 0, z16, []⟩ none 0)) := by
      have hb4 : Below w3.heap.size w3 ((w3.alloc (.cells (msgA MsgD.zero none 0) 28)).setRow w3.heap.size (msgA ⟨(V : Int), 0, 0, 0, z16, []⟩ none 0)) := below_setRow (Below.allocs _ _) (Nat.le_refl _) _
      have hs1 := HZS.out
      have hs2 := HB2.out.size
      have hs3 := HL3.out.turn.size
      obtain ⟨v, bv, hr⟩ := HR2.out
      have hlow := hr.low
      have hlt := hr.lt
      have hb13 : Below w1.heap.size w1 w3 := HB2.out.trans (HL3.out.turn.below hs2 (fun i hi => by omega))
      have hb14 : Below w1.heap.size w1 _ := hb13.trans (hb4.mono hb13.size)
      exact ⟨HL3.out.there.below hb4, Below.keepOld hb14 HZR.out, setRow_heap _ _ _ _ _ _ (heap_alloc_last _ _), HZB.out.trans (hb14.mono (by omega)), ⟨by omega, by omega, by omega⟩, rfl⟩
    generalize (w3.alloc (.cells (msgA MsgD.zero none 0) 28)).setRow w3.heap.size (msgA ⟨(V : Int), 0, 0, 0, z16, []⟩ none 0) = w4 at *
    generalize w3.heap.size = mb at *
    have HDW := Lib.hid hdw
    obtain ⟨k0, k1, k2, k3, k20, kf⟩ := hdw.cells
    clear hdw HL3 HR2 HB2
    go_wp2_with fail
    refine (HN2.out _ _ _ HDW.out.rd).mono ?_
    rintro e x5 ⟨rfl, hl5⟩
    have hdw := HDW.out.left hl5
    clear HDW hl5 k0 k1 k2 k3 k20 kf
    obtain ⟨k0, k1, k2, k3, k20, kf⟩ := hdw.cells
    have hdw2 := hdw.set 3 (.int .u32 (n1 : Int)) (set3 _ _ _ _) rfl
    have HDW := Lib.hid hdw2
    have kf3 := kf 3
    clear hdw hdw2 kf
    go_upto_region 13 with fail
    generalize x5.setCell ⟨mb, 3, none⟩ (.int .u32 (n1 : Int)) = x6 at *
    clear k0 k1 k2 k3 k20 kf3
    obtain ⟨D, hD⟩ : ∃ D, (s2).done = D := ⟨_, rfl⟩
    have HDQ : Hid ((s2).done = D ∧ True) := ⟨hD, trivial⟩
    rw [hD] at hq
    have HF2 : Hid (¬ D = 0 → ∀ w', Below w.heap.size w w' → DecP l w (.returned (.tuple #[.agg (msgA MsgD.zero none 0), .int .i64 D])) w') := fun hz w' hb => by
      unfold DecP
      rw [hq.1 hz]
      exact ⟨none, 0, rfl, ⟨rfl, .inl ⟨rfl, rfl⟩⟩, rfl, hb⟩
    have HF : Hid (D = 0 → ∀ p c w', w'.ownsRow w.heap.size 5 1 (.slice p (MsgD.blob ⟨(V : Int), 0, 0, n1, z16, []⟩).length c) (MsgD.blob ⟨(V : Int), 0, 0, n1, z16, []⟩).length (bytesV (MsgD.blob ⟨(V : Int), 0, 0, n1, z16, []⟩)) → (MsgD.hint ⟨(V : Int), 0, 0, n1, z16, []⟩).length = 16 → Below w.heap.size w w' → DecP l w (.returned (.tuple #[.agg (msgA ⟨(V : Int), 0, 0, n1, z16, []⟩ p c), .int .i64 0])) w') := fun hz p c w' ho hh hb => by
      unfold DecP
      rw [hq.2 hz]
      exact ⟨p, c, rfl, ho, hh, hb⟩
    clear hD hq
    have HE9 := Lib.hid (HE.out.below HDW.out.low HE.out.lt)
    go_wp2_with fail
    refine (Rdr.done_any _ HDW.out.rd HE9.out).mono ?_
    rintro e x9 ⟨rfl, hb9⟩
    have hdw9 := HDW.out.below hb9
    clear hb9 HDW HE9
    have HDW := Lib.hid hdw9
    clear hdw9
    rw [HDQ.out.1]
    by_cases hz0 : D = 0
    · have hz1 : (D != 0) = false := by simp [hz0]
      have HFIN := Lib.hid (HF.out hz0)
      clear hz0
      go_wp2_with (first
        | refine wpList_load_row rfl 28 _ rfl mb rfl 28 (msgA ⟨(V : Int), 0, 0, n1, z16, []⟩ none 0) (0, 0) _ HDW.out.r1 Tryd.underlying28 rfl (sizeM _ (msgA_size HDW.out.hint _ _)) ?_
        | refine wpList_store_row rfl 28 _ _ rfl w.heap.size (msgA ⟨(V : Int), 0, 0, n1, z16, []⟩ none 0) rfl rfl 28 (msgA MsgD.zero none 0) HDW.out.r0 (sizeM _ (msgA_size HDW.out.hint _ _)) (by rw [msgA_size HDW.out.hint]; rfl) (msgA_one _ _ _) ?_)
      have HS := Lib.hid (setRow_heap _ _ _ (msgA ⟨(V : Int), 0, 0, n1, z16, []⟩ none 0) _ _ HDW.out.r0)
      refine bodyPost_ret (results_cell_tmp2 rfl _ _ _ _ _ _ _ rfl HS.out Tryd.underlying28 rfl (sizeM _ (msgA_size HDW.out.hint _ _))) rfl ?_
      exact HFIN.out _ _ _ (⟨rfl, .inl ⟨rfl, rfl⟩⟩) HDW.out.hint (below_setRow HDW.out.low (Nat.le_refl _) _)
    · have hz1 : (D != 0) = true := by simp [hz0]
      have HFIN := Lib.hid (HF2.out hz0)
      clear hz0
      go_wp2_with (first
        | refine Rdr.wpList_build rfl 28 _ rfl [] rfl _ built_m0 ?_
        | refine wpList_store_row rfl 28 _ _ rfl w.heap.size (msgA MsgD.zero none 0) rfl rfl 28 (msgA MsgD.zero none 0) HDW.out.r0 (sizeM _ rfl) rfl (msgA_one _ _ _) ?_)
      have HS := Lib.hid (setRow_heap _ _ _ (msgA MsgD.zero none 0) _ _ HDW.out.r0)
      refine bodyPost_ret (results_cell_tmp2 rfl _ _ _ _ _ _ _ rfl HS.out Tryd.underlying28 rfl (sizeM _ rfl)) rfl ?_
      exact HFIN.out _ (below_setRow HDW.out.low (Nat.le_refl _) _)
  by_cases h2 : V = 2
  · have t1 : ((V : Int) == 1) = false := by rw [beq_eq_false_iff_ne]; omega
    have t2 : ((V : Int) == 2) = true := by rw [beq_iff_eq]; omega
    have hq := HQ.out (dUp s1).2 (dUp s1).1 (by rw [HDP.out, if_neg h1, if_pos h2])
    have hn1 : s1.numV 4 < 4294967296 := by
      have := numV_pow s1 4 (by omega)
      simpa using this
    have HN1 : Hid (∀ (w : World) (base rb : Nat), RAt w base rb s1 → Calls Tryd.prog 23 #[.pointer (some ⟨rb, 0, none⟩), .int .i64 4] w (NumP base rb s1 4 w)) := fun w base rb h => Rdr.num_any w h 4 (by omega)
    unfold dUp at hq
    dsimp only at hq
    unfold NumP at HN1
    generalize s1.numS 4 = s2 at *
    generalize s1.numV 4 = n1 at *
    have hn2 : s2.numV 4 < 4294967296 := by
      have := numV_pow s2 4 (by omega)
      simpa using this
    have HN2 : Hid (∀ (w : World) (base rb : Nat), RAt w base rb s2 → Calls Tryd.prog 23 #[.pointer (some ⟨rb, 0, none⟩), .int .i64 4] w (NumP base rb s2 4 w)) := fun w base rb h => Rdr.num_any w h 4 (by omega)
    unfold NumP at HN2
    generalize s2.numS 4 = s3 at *
    generalize s2.numV 4 = n2 at *
    have HHL : Hid ((s3.idV 16).length = 16) := idV_len s3 16
    have HHI : Hid (∀ (w : World) (base rb : Nat), RAt w base rb s3 → Calls Tryd.prog 24 #[.pointer (some ⟨rb, 0, none⟩)] w (IdP base rb s3 16 w)) := fun w base rb h => Rdr.hint_any w h
    unfold IdP at HHI
    simp only [show (((16 : Nat) : Int)) = 16 from rfl] at HHI
    generalize s3.takeS 16 true = s4 at *
    generalize s3.idV 16 = hh at *
    have hcb : -9223372036854775808 ≤ s4.cntV 2 1000 ∧ s4.cntV 2 1000 ≤ 9223372036854775807 := by
      have := numV_pow s4 2 (by omega)
      have h9 : s4.numV 2 < 65536 := by simpa using this
      unfold RD.cntV
      split <;> omega
    have HCN : Hid (∀ (w : World) (base rb : Nat), RAt w base rb s4 → Calls Tryd.prog 26 #[.pointer (some ⟨rb, 0, none⟩), .int .i64 2, .int .i64 1000] w (CountP base rb s4 2 1000 w)) := fun w base rb h => Rdr.count_any w h 2 (by omega) 1000 (by omega)
    unfold CountP at HCN
    generalize s4.cntS 2 1000 = s5 at *
    generalize s4.cntV 2 1000 = cnt at *
    have HBY : Hid (∀ (w : World) (base rb : Nat), RAt w base rb s5 → Calls Tryd.prog 25 #[.pointer (some ⟨rb, 0, none⟩), .int .i64 cnt] w (BytesP base rb s5 cnt w)) := fun w base rb h => Rdr.bytes_any w h cnt hcb
    unfold BytesP at HBY
    generalize s5.takeS cnt true = s6 at *
    generalize s5.takeB cnt true = B at *
    have hnw1 : IntKind.u32.wrap (n1 : Int) = (n1 : Int) := by rw [IntKind.wrap_u32]; omega
    have hnw2 : IntKind.u32.wrap (n2 : Int) = (n2 : Int) := by rw [IntKind.wrap_u32]; omega
    have HV2 : Hid ((2 : Int) = (V : Int)) := by show _ = _; omega
    rw [HV2.out] at hq
    clear h1 h2 hV hn1 hn2 hcb
    go_enter Tryd.func11, Tryd.ntmps11
    go_upto_region 1 with fail
    generalize w.alloc (.cells (msgA MsgD.zero none 0) 28) = w1 at *
    go_wp2_with fail
    refine (Rdr.new_any w1 _ _ _ l (HBS.out.below HZB.out) (by omega)).mono ?_
    rintro e w2 ⟨rb, rfl, hr2, hb2⟩
    have HR2 := Lib.hid hr2
    have HB2 := Lib.hid hb2
    clear hr2 hb2
    go_wp2_with fail
    refine (HNUM.out _ _ _ HR2.out).mono ?_
    rintro e w3 ⟨rfl, hl3⟩
    have HL3 := Lib.hid hl3
    clear hl3
    go_upto_region 3 with (first
      | ((with_reducible refine wpAt 12 ?_); refine Rdr.wpList_build rfl 28 _ rfl [(0, .int .i64 (V : Int))] rfl _ (built_m _) ?_)
      | ((with_reducible refine wpStoreAt 5 ?_); refine wpList_store_row rfl 28 _ _ rfl w3.heap.size (msgA ⟨(V : Int), 0, 0, 0, z16, []⟩ none 0) rfl rfl 28 (msgA MsgD.zero none 0) (heap_alloc_last _ _) (sizeM _ rfl) rfl (msgA_one _ _ _) ?_))
    simp only [Act.put]
    have hdw : DW w w1.heap.size rb w3.heap.size s1 ⟨(V : Int), 0, 0, 0, z16, []⟩ none 0 ((w3.alloc (.cells (msgA MsgD.zero none 0) 28)).setRow w3.heap.size (msgA ⟨(V : Int), 0, 0, 0, z16, []⟩ none 0)) := by
      have hb4 : Below w3.heap.size w3 ((w3.alloc (.cells (msgA MsgD.zero none 0) 28)).setRow w3.heap.size (msgA ⟨(V : Int), 0, 0, 0, z16, []⟩ none 0)) := below_setRow (Below.allocs _ _) (Nat.le_refl _) _
      have hs1 := HZS.out
      have hs2 := HB2.out.size
      have hs3 := HL3.out.turn.size
      obtain ⟨v, bv, hr⟩ := HR2.out
      have hlow := hr.low
      have hlt := hr.lt
      have hb13 : Below w1.heap.size w1 w3 := HB2.out.trans (HL3.out.turn.below hs2 (fun i hi => by omega))
      have hb14 : Below w1.heap.size w1 _ := hb13.trans (hb4.mono hb13.size)
      exact ⟨HL3.out.there.below hb4, Below.keepOld hb14 HZR.out, setRow_heap _ _ _ _ _ _ (heap_alloc_last _ _), HZB.out.trans (hb14.mono (by omega)), ⟨by omega, by omega, by omega⟩, rfl⟩
    generalize (w3.alloc (.cells (msgA MsgD.zero none 0) 28)).setRow w3.heap.size (msgA ⟨(V : Int), 0, 0, 0, z16, []⟩ none 0) = w4 at *
    generalize w3.heap.size = mb at *
    have HDW := Lib.hid hdw
    obtain ⟨k0, k1, k2, k3, k20, kf⟩ := hdw.cells
    clear hdw HL3 HR2 HB2
    go_wp2_with fail
    refine (HN1.out _ _ _ HDW.out.rd).mono ?_
    rintro e x5 ⟨rfl, hl5⟩
    have hdw := HDW.out.left hl5
    clear HDW hl5 k0 k1 k2 k3 k20 kf
    have HDW := Lib.hid hdw
    clear hdw
    go_wp2_with fail
    refine (HN2.out _ _ _ HDW.out.rd).mono ?_
    rintro e x6 ⟨rfl, hl6⟩
    have hdw := HDW.out.left hl6
    clear HDW hl6
    have HDW := Lib.hid hdw
    clear hdw
    go_wp2_with fail
    refine (HHI.out _ _ _ HDW.out.rd).mono ?_
    rintro e x7 ⟨rfl, hl7⟩
    have hdw := HDW.out.left hl7
    clear HDW hl7
    obtain ⟨k0, k1, k2, k3, k20, kf⟩ := hdw.cells
    have hdw1 := hdw.set 1 (.int .u32 (n1 : Int)) (set1 _ _ _ _) rfl
    have hdw2 := hdw1.set 2 (.int .u32 (n2 : Int)) (set2 _ _ _ _) rfl
    have hdw3 := hdw2.hintS hh HHL.out
    have HDW := Lib.hid hdw3
    have HTH : Hid (((x7.setCell ⟨mb, 1, none⟩ (.int .u32 (n1 : Int))).setCell ⟨mb, 2, none⟩ (.int .u32 (n2 : Int))).there mb 4 (idA hh).size) := fun j hj => by
      rw [idA_size, HHL.out] at hj
      refine ⟨?_, frozen_of_row _ _ _ _ _ hdw2.r1⟩
      rw [cell_of_row _ _ _ _ _ _ hdw2.r1, Array.getElem?_eq_getElem (by rw [msgA_size hdw2.hint]; omega)]
      rfl
    have kf1 := kf 1
    have kf2 := kf 2
    clear hdw hdw1 hdw2 hdw3 kf
    go_upto_region 10 with (refine wpList_store_mid rfl 25 _ _ rfl mb 4 (idA hh) rfl rfl HTH.out (sizeH _ HHL.out) (idA_one _) ?_)
    simp only [Act.put]
    generalize ((x7.setCell ⟨mb, 1, none⟩ (.int .u32 (n1 : Int))).setCell ⟨mb, 2, none⟩ (.int .u32 (n2 : Int))).setCells mb 4 (idA hh).toList = x8 at *
    clear k0 k1 k2 k3 k20 kf1 kf2 HTH
    go_wp2_with fail
    refine (HCN.out _ _ _ HDW.out.rd).mono ?_
    rintro e x9 ⟨rfl, hl9⟩
    have hdw := HDW.out.left hl9
    clear HDW hl9
    have HDW := Lib.hid hdw
    clear hdw
    go_wp2_with fail
    refine (HBY.out _ _ _ HDW.out.rd).mono ?_
    rintro e y1 ⟨pb, cb, rfl, ho1, hl1⟩
    have hdw := HDW.out.left hl1
    have HSZ : Hid (w.heap.size ≤ x9.heap.size) := HDW.out.low.size
    have HSM : Hid (mb < x9.heap.size) := (Array.getElem?_eq_some_iff.1 HDW.out.r1).1
    clear HDW hl1
    obtain ⟨k0, k1, k2, k3, k20, kf⟩ := hdw.cells
    have hdw1 := hdw.set 20 (.slice pb B.length cb) (msgA_setS _ hdw.hint _ _ _ B pb cb rfl) hdw.hint
    have HDW := Lib.hid hdw1
    have HOW : Hid ((y1.setCell ⟨mb, 20, none⟩ (.slice pb B.length cb)).ownsRow x9.heap.size 5 1 (.slice pb B.length cb) B.length (bytesV B)) :=
      own_touch ho1 ((Turns.refl (fun k => k = mb) y1).setCell (p := ⟨mb, 20, none⟩) (fun _ => rfl) _) (fun k hk e => by have := (ho1.lt k hk).1; have := HSM.out; omega)
    have kf20 := kf 20
    clear hdw hdw1 kf ho1
    go_upto_region 13 with fail
    generalize y1.setCell ⟨mb, 20, none⟩ (.slice pb B.length cb) = y2 at *
    clear k0 k1 k2 k3 k20 kf20
    obtain ⟨D, hD⟩ : ∃ D, (s6).done = D := ⟨_, rfl⟩
    have HDQ : Hid ((s6).done = D ∧ True) := ⟨hD, trivial⟩
    rw [hD] at hq
    have HF2 : Hid (¬ D = 0 → ∀ w', Below w.heap.size w w' → DecP l w (.returned (.tuple #[.agg (msgA MsgD.zero none 0), .int .i64 D])) w') := fun hz w' hb => by
      unfold DecP
      rw [hq.1 hz]
      exact ⟨none, 0, rfl, ⟨rfl, .inl ⟨rfl, rfl⟩⟩, rfl, hb⟩
    have HF : Hid (D = 0 → ∀ p c w', w'.ownsRow w.heap.size 5 1 (.slice p (MsgD.blob ⟨(V : Int), n1, n2, 0, hh, B⟩).length c) (MsgD.blob ⟨(V : Int), n1, n2, 0, hh, B⟩).length (bytesV (MsgD.blob ⟨(V : Int), n1, n2, 0, hh, B⟩)) → (MsgD.hint ⟨(V : Int), n1, n2, 0, hh, B⟩).length = 16 → Below w.heap.size w w' → DecP l w (.returned (.tuple #[.agg (msgA ⟨(V : Int), n1, n2, 0, hh, B⟩ p c), .int .i64 0])) w') := fun hz p c w' ho hh hb => by
      unfold DecP
      rw [hq.2 hz]
      exact ⟨p, c, rfl, ho, hh, hb⟩
    clear hD hq
    have HE9 := Lib.hid (HE.out.below HDW.out.low HE.out.lt)
    go_wp2_with fail
    refine (Rdr.done_any _ HDW.out.rd HE9.out).mono ?_
    rintro e x9 ⟨rfl, hb9⟩
    have hdw9 := HDW.out.below hb9
    have how9 := own_touch HOW.out (Turns.of_below (S := fun _ => False) hb9) (fun _ _ h => h)
    clear HOW
    have HOW := Lib.hid how9
    clear how9
    clear hb9 HDW HE9
    have HDW := Lib.hid hdw9
    clear hdw9
    rw [HDQ.out.1]
    by_cases hz0 : D = 0
    · have hz1 : (D != 0) = false := by simp [hz0]
      have HFIN := Lib.hid (HF.out hz0)
      clear hz0
      go_wp2_with (first
        | refine wpList_load_row rfl 28 _ rfl mb rfl 28 (msgA ⟨(V : Int), n1, n2, 0, hh, B⟩ pb cb) (0, 0) _ HDW.out.r1 Tryd.underlying28 rfl (sizeM _ (msgA_size HDW.out.hint _ _)) ?_
        | refine wpList_store_row rfl 28 _ _ rfl w.heap.size (msgA ⟨(V : Int), n1, n2, 0, hh, B⟩ pb cb) rfl rfl 28 (msgA MsgD.zero none 0) HDW.out.r0 (sizeM _ (msgA_size HDW.out.hint _ _)) (by rw [msgA_size HDW.out.hint]; rfl) (msgA_one _ _ _) ?_)
      have HS := Lib.hid (setRow_heap _ _ _ (msgA ⟨(V : Int), n1, n2, 0, hh, B⟩ pb cb) _ _ HDW.out.r0)
      refine bodyPost_ret (results_cell_tmp2 rfl _ _ _ _ _ _ _ rfl HS.out Tryd.underlying28 rfl (sizeM _ (msgA_size HDW.out.hint _ _))) rfl ?_
      exact HFIN.out _ _ _ (own_base (own_touch HOW.out (turns_setRow _ w.heap.size _) (fun k hk e => by have := (HOW.out.lt k hk).1; have h5 := HDW.out.ne.2.2; have := HSM.out; omega)) (fun k hk => by have := (HOW.out.lt k hk).1; have := HSZ.out; omega)) HDW.out.hint (below_setRow HDW.out.low (Nat.le_refl _) _)
    · have hz1 : (D != 0) = true := by simp [hz0]
      have HFIN := Lib.hid (HF2.out hz0)
      clear hz0
      go_wp2_with (first
        | refine Rdr.wpList_build rfl 28 _ rfl [] rfl _ built_m0 ?_
        | refine wpList_store_row rfl 28 _ _ rfl w.heap.size (msgA MsgD.zero none 0) rfl rfl 28 (msgA MsgD.zero none 0) HDW.out.r0 (sizeM _ rfl) rfl (msgA_one _ _ _) ?_)
      have HS := Lib.hid (setRow_heap _ _ _ (msgA MsgD.zero none 0) _ _ HDW.out.r0)
      refine bodyPost_ret (results_cell_tmp2 rfl _ _ _ _ _ _ _ rfl HS.out Tryd.underlying28 rfl (sizeM _ rfl)) rfl ?_
      exact HFIN.out _ (below_setRow HDW.out.low (Nat.le_refl _) _)
  by_cases h34 : V = 3 ∨ V = 4
  · have t1 : ((V : Int) == 1) = false := by rw [beq_eq_false_iff_ne]; omega
    have t2 : ((V : Int) == 2) = false := by rw [beq_eq_false_iff_ne]; omega
    have hq := HQ.out (s1.numS 4) ⟨(V : Int), s1.numV 4, 0, 0, z16, []⟩ (by rw [HDP.out, if_neg h1, if_neg h2, if_pos h34])
    have hnb : s1.numV 4 < 4294967296 := by
      have := numV_pow s1 4 (by omega)
      simpa using this
    have HN2 : Hid (∀ (w : World) (base rb : Nat), RAt w base rb s1 → Calls Tryd.prog 23 #[.pointer (some ⟨rb, 0, none⟩), .int .i64 4] w (NumP base rb s1 4 w)) := fun w base rb h => Rdr.num_any w h 4 (by omega)
    unfold NumP at HN2
    generalize s1.numS 4 = s2 at *
    generalize s1.numV 4 = n1 at *
    have hnw : IntKind.u32.wrap (n1 : Int) = (n1 : Int) := by rw [IntKind.wrap_u32]; omega
    clear hnb
    rcases h34 with h3 | h4
    · have t3 : ((V : Int) == 3) = true := by rw [beq_iff_eq]; omega
      clear h1 h2 h3 hV
      go_enter Tryd.func11, Tryd.ntmps11
      go_upto_region 1 with fail
      generalize w.alloc (.cells (msgA MsgD.zero none 0) 28) = w1 at *
      go_wp2_with fail
      refine (Rdr.new_any w1 _ _ _ l (HBS.out.below HZB.out) (by omega)).mono ?_
      rintro e w2 ⟨rb, rfl, hr2, hb2⟩
      have HR2 := Lib.hid hr2
      have HB2 := Lib.hid hb2
      clear hr2 hb2
      go_wp2_with fail
      refine (HNUM.out _ _ _ HR2.out).mono ?_
      rintro e w3 ⟨rfl, hl3⟩
      have HL3 := Lib.hid hl3
      clear hl3
      go_upto_region 3 with (first
        | ((with_reducible refine wpAt 12 ?_); refine Rdr.wpList_build rfl 28 _ rfl [(0, .int .i64 (V : Int))] rfl _ (built_m _) ?_)
        | ((with_reducible refine wpStoreAt 5 ?_); refine wpList_store_row rfl 28 _ _ rfl w3.heap.size (msgA ⟨(V : Int), 0, 0, 0, z16, []⟩ none 0) rfl rfl 28 (msgA MsgD.zero none 0) (heap_alloc_last _ _) (sizeM _ rfl) rfl (msgA_one _ _ _) ?_))
      simp only [Act.put]
      have hdw : DW w w1.heap.size rb w3.heap.size s1 ⟨(V : Int), 0, 0, 0, z16, []⟩ none 0 ((w3.alloc (.cells (msgA MsgD.zero none 0) 28)).setRow w3.heap.size (msgA ⟨(V : Int), 0, 0, 0, z16, []⟩ none 0)) := by
        have hb4 : Below w3.heap.size w3 ((w3.alloc (.cells (msgA MsgD.zero none 0) 28)).setRow w3.heap.size (msgA ⟨(V : Int), 0, 0, 0, z16, []⟩ none 0)) := below_setRow (Below.allocs _ _) (Nat.le_refl _) _
        have hs1 := HZS.out
        have hs2 := HB2.out.size
        have hs3 := HL3.out.turn.size
        obtain ⟨v, bv, hr⟩ := HR2.out
        have hlow := hr.low
        have hlt := hr.lt
        have hb13 : Below w1.heap.size w1 w3 := HB2.out.trans (HL3.out.turn.below hs2 (fun i hi => by omega))
        have hb14 : Below w1.heap.size w1 _ := hb13.trans (hb4.mono hb13.size)
        exact ⟨HL3.out.there.below hb4, Below.keepOld hb14 HZR.out, setRow_heap _ _ _ _ _ _ (heap_alloc_last _ _), HZB.out.trans (hb14.mono (by omega)), ⟨by omega, by omega, by omega⟩, rfl⟩
      generalize (w3.alloc (.cells (msgA MsgD.zero none 0) 28)).setRow w3.heap.size (msgA ⟨(V : Int), 0, 0, 0, z16, []⟩ none 0) = w4 at *
      generalize w3.heap.size = mb at *
      have HDW := Lib.hid hdw
      obtain ⟨k0, k1, k2, k3, k20, kf⟩ := hdw.cells
      clear hdw HL3 HR2 HB2
      go_wp2_with fail
      refine (HN2.out _ _ _ HDW.out.rd).mono ?_
      rintro e x5 ⟨rfl, hl5⟩
      have hdw := HDW.out.left hl5
      clear HDW hl5 k0 k1 k2 k3 k20 kf
      obtain ⟨k0, k1, k2, k3, k20, kf⟩ := hdw.cells
      have hdw2 := hdw.set 1 (.int .u32 (n1 : Int)) (set1 _ _ _ _) rfl
      have HDW := Lib.hid hdw2
      have kf1 := kf 1
      clear hdw hdw2 kf
      go_upto_region 13 with fail
      generalize x5.setCell ⟨mb, 1, none⟩ (.int .u32 (n1 : Int)) = x6 at *
      clear k0 k1 k2 k3 k20 kf1
      obtain ⟨D, hD⟩ : ∃ D, (s2).done = D := ⟨_, rfl⟩
      have HDQ : Hid ((s2).done = D ∧ True) := ⟨hD, trivial⟩
      rw [hD] at hq
      have HF2 : Hid (¬ D = 0 → ∀ w', Below w.heap.size w w' → DecP l w (.returned (.tuple #[.agg (msgA MsgD.zero none 0), .int .i64 D])) w') := fun hz w' hb => by
        unfold DecP
        rw [hq.1 hz]
        exact ⟨none, 0, rfl, ⟨rfl, .inl ⟨rfl, rfl⟩⟩, rfl, hb⟩
      have HF : Hid (D = 0 → ∀ p c w', w'.ownsRow w.heap.size 5 1 (.slice p (MsgD.blob ⟨(V : Int), n1, 0, 0, z16, []⟩).length c) (MsgD.blob ⟨(V : Int), n1, 0, 0, z16, []⟩).length (bytesV (MsgD.blob ⟨(V : Int), n1, 0, 0, z16, []⟩)) → (MsgD.hint ⟨(V : Int), n1, 0, 0, z16, []⟩).length = 16 → Below w.heap.size w w' → DecP l w (.returned (.tuple #[.agg (msgA ⟨(V : Int), n1, 0, 0, z16, []⟩ p c), .int .i64 0])) w') := fun hz p c w' ho hh hb => by
        unfold DecP
        rw [hq.2 hz]
        exact ⟨p, c, rfl, ho, hh, hb⟩
      clear hD hq
      have HE9 := Lib.hid (HE.out.below HDW.out.low HE.out.lt)
      go_wp2_with fail
      refine (Rdr.done_any _ HDW.out.rd HE9.out).mono ?_
      rintro e x9 ⟨rfl, hb9⟩
      have hdw9 := HDW.out.below hb9
      clear hb9 HDW HE9
      have HDW := Lib.hid hdw9
      clear hdw9
      rw [HDQ.out.1]
      by_cases hz0 : D = 0
      · have hz1 : (D != 0) = false := by simp [hz0]
        have HFIN := Lib.hid (HF.out hz0)
        clear hz0
        go_wp2_with (first
          | refine wpList_load_row rfl 28 _ rfl mb rfl 28 (msgA ⟨(V : Int), n1, 0, 0, z16, []⟩ none 0) (0, 0) _ HDW.out.r1 Tryd.underlying28 rfl (sizeM _ (msgA_size HDW.out.hint _ _)) ?_
          | refine wpList_store_row rfl 28 _ _ rfl w.heap.size (msgA ⟨(V : Int), n1, 0, 0, z16, []⟩ none 0) rfl rfl 28 (msgA MsgD.zero none 0) HDW.out.r0 (sizeM _ (msgA_size HDW.out.hint _ _)) (by rw [msgA_size HDW.out.hint]; rfl) (msgA_one _ _ _) ?_)
        have HS := Lib.hid (setRow_heap _ _ _ (msgA ⟨(V : Int), n1, 0, 0, z16, []⟩ none 0) _ _ HDW.out.r0)
        refine bodyPost_ret (results_cell_tmp2 rfl _ _ _ _ _ _ _ rfl HS.out Tryd.underlying28 rfl (sizeM _ (msgA_size HDW.out.hint _ _))) rfl ?_
        exact HFIN.out _ _ _ (⟨rfl, .inl ⟨rfl, rfl⟩⟩) HDW.out.hint (below_setRow HDW.out.low (Nat.le_refl _) _)
      · have hz1 : (D != 0) = true := by simp [hz0]
        have HFIN := Lib.hid (HF2.out hz0)
        clear hz0
        go_wp2_with (first
          | refine Rdr.wpList_build rfl 28 _ rfl [] rfl _ built_m0 ?_
          | refine wpList_store_row rfl 28 _ _ rfl w.heap.size (msgA MsgD.zero none 0) rfl rfl 28 (msgA MsgD.zero none 0) HDW.out.r0 (sizeM _ rfl) rfl (msgA_one _ _ _) ?_)
        have HS := Lib.hid (setRow_heap _ _ _ (msgA MsgD.zero none 0) _ _ HDW.out.r0)
        refine bodyPost_ret (results_cell_tmp2 rfl _ _ _ _ _ _ _ rfl HS.out Tryd.underlying28 rfl (sizeM _ rfl)) rfl ?_
        exact HFIN.out _ (below_setRow HDW.out.low (Nat.le_refl _) _)
    · have t3 : ((V : Int) == 3) = false := by rw [beq_eq_false_iff_ne]; omega
      have t4 : ((V : Int) == 4) = true := by rw [beq_iff_eq]; omega
      clear h1 h2 h4 hV
      go_enter Tryd.func11, Tryd.ntmps11
      go_upto_region 1 with fail
      generalize w.alloc (.cells (msgA MsgD.zero none 0) 28) = w1 at *
      go_wp2_with fail
      refine (Rdr.new_any w1 _ _ _ l (HBS.out.below HZB.out) (by omega)).mono ?_
      rintro e w2 ⟨rb, rfl, hr2, hb2⟩
      have HR2 := Lib.hid hr2
      have HB2 := Lib.hid hb2
      clear hr2 hb2
      go_wp2_with fail
      refine (HNUM.out _ _ _ HR2.out).mono ?_
      rintro e w3 ⟨rfl, hl3⟩
      have HL3 := Lib.hid hl3
      clear hl3
      go_upto_region 3 with (first
        | ((with_reducible refine wpAt 12 ?_); refine Rdr.wpList_build rfl 28 _ rfl [(0, .int .i64 (V : Int))] rfl _ (built_m _) ?_)
        | ((with_reducible refine wpStoreAt 5 ?_); refine wpList_store_row rfl 28 _ _ rfl w3.heap.size (msgA ⟨(V : Int), 0, 0, 0, z16, []⟩ none 0) rfl rfl 28 (msgA MsgD.zero none 0) (heap_alloc_last _ _) (sizeM _ rfl) rfl (msgA_one _ _ _) ?_))
      simp only [Act.put]
      have hdw : DW w w1.heap.size rb w3.heap.size s1 ⟨(V : Int), 0, 0, 0, z16, []⟩ none 0 ((w3.alloc (.cells (msgA MsgD.zero none 0) 28)).setRow w3.heap.size (msgA ⟨(V : Int), 0, 0, 0, z16, []⟩ none 0)) := by
        have hb4 : Below w3.heap.size w3 ((w3.alloc (.cells (msgA MsgD.zero none 0) 28)).setRow w3.heap.size (msgA ⟨(V : Int), 0, 0, 0, z16, []⟩ none 0)) := below_setRow (Below.allocs _ _) (Nat.le_refl _) _
        have hs1 := HZS.out
        have hs2 := HB2.out.size
        have hs3 := HL3.out.turn.size
        obtain ⟨v, bv, hr⟩ := HR2.out
        have hlow := hr.low
        have hlt := hr.lt
        have hb13 : Below w1.heap.size w1 w3 := HB2.out.trans (HL3.out.turn.below hs2 (fun i hi => by omega))
        have hb14 : Below w1.heap.size w1 _ := hb13.trans (hb4.mono hb13.size)
        exact ⟨HL3.out.there.below hb4, Below.keepOld hb14 HZR.out, setRow_heap _ _ _ _ _ _ (heap_alloc_last _ _), HZB.out.trans (hb14.mono (by omega)), ⟨by omega, by omega, by omega⟩, rfl⟩
      generalize (w3.alloc (.cells (msgA MsgD.zero none 0) 28)).setRow w3.heap.size (msgA ⟨(V : Int), 0, 0, 0, z16, []⟩ none 0) = w4 at *
      generalize w3.heap.size = mb at *
      have HDW := Lib.hid hdw
      obtain ⟨k0, k1, k2, k3, k20, kf⟩ := hdw.cells
      clear hdw HL3 HR2 HB2
      go_wp2_with fail
      refine (HN2.out _ _ _ HDW.out.rd).mono ?_
      rintro e x5 ⟨rfl, hl5⟩
      have hdw := HDW.out.left hl5
      clear HDW hl5 k0 k1 k2 k3 k20 kf
      obtain ⟨k0, k1, k2, k3, k20, kf⟩ := hdw.cells
      have hdw2 := hdw.set 1 (.int .u32 (n1 : Int)) (set1 _ _ _ _) rfl
      have HDW := Lib.hid hdw2
      have kf1 := kf 1
      clear hdw hdw2 kf
      go_upto_region 13 with fail
      generalize x5.setCell ⟨mb, 1, none⟩ (.int .u32 (n1 : Int)) = x6 at *
      clear k0 k1 k2 k3 k20 kf1
      obtain ⟨D, hD⟩ : ∃ D, (s2).done = D := ⟨_, rfl⟩
      have HDQ : Hid ((s2).done = D ∧ True) := ⟨hD, trivial⟩
      rw [hD] at hq
      have HF2 : Hid (¬ D = 0 → ∀ w', Below w.heap.size w w' → DecP l w (.returned (.tuple #[.agg (msgA MsgD.zero none 0), .int .i64 D])) w') := fun hz w' hb => by
        unfold DecP
        rw [hq.1 hz]
        exact ⟨none, 0, rfl, ⟨rfl, .inl ⟨rfl, rfl⟩⟩, rfl, hb⟩
      have HF : Hid (D = 0 → ∀ p c w', w'.ownsRow w.heap.size 5 1 (.slice p (MsgD.blob ⟨(V : Int), n1, 0, 0, z16, []⟩).length c) (MsgD.blob ⟨(V : Int), n1, 0, 0, z16, []⟩).length (bytesV (MsgD.blob ⟨(V : Int), n1, 0, 0, z16, []⟩)) → (MsgD.hint ⟨(V : Int), n1, 0, 0, z16, []⟩).length = 16 → Below w.heap.size w w' → DecP l w (.returned (.tuple #[.agg (msgA ⟨(V : Int), n1, 0, 0, z16, []⟩ p c), .int .i64 0])) w') := fun hz p c w' ho hh hb => by
        unfold DecP
        rw [hq.2 hz]
        exact ⟨p, c, rfl, ho, hh, hb⟩
      clear hD hq
      have HE9 := Lib.hid (HE.out.below HDW.out.low HE.out.lt)
      go_wp2_with fail
      refine (Rdr.done_any _ HDW.out.rd HE9.out).mono ?_
      rintro e x9 ⟨rfl, hb9⟩
      have hdw9 := HDW.out.below hb9
      clear hb9 HDW HE9
      have HDW := Lib.hid hdw9
      clear hdw9
      rw [HDQ.out.1]
      by_cases hz0 : D = 0
      · have hz1 : (D != 0) = false := by simp [hz0]
        have HFIN := Lib.hid (HF.out hz0)
        clear hz0
        go_wp2_with (first
          | refine wpList_load_row rfl 28 _ rfl mb rfl 28 (msgA ⟨(V : Int), n1, 0, 0, z16, []⟩ none 0) (0, 0) _ HDW.out.r1 Tryd.underlying28 rfl (sizeM _ (msgA_size HDW.out.hint _ _)) ?_
          | refine wpList_store_row rfl 28 _ _ rfl w.heap.size (msgA ⟨(V : Int), n1, 0, 0, z16, []⟩ none 0) rfl rfl 28 (msgA MsgD.zero none 0) HDW.out.r0 (sizeM _ (msgA_size HDW.out.hint _ _)) (by rw [msgA_size HDW.out.hint]; rfl) (msgA_one _ _ _) ?_)
        have HS := Lib.hid (setRow_heap _ _ _ (msgA ⟨(V : Int), n1, 0, 0, z16, []⟩ none 0) _ _ HDW.out.r0)
        refine bodyPost_ret (results_cell_tmp2 rfl _ _ _ _ _ _ _ rfl HS.out Tryd.underlying28 rfl (sizeM _ (msgA_size HDW.out.hint _ _))) rfl ?_
        exact HFIN.out _ _ _ (⟨rfl, .inl ⟨rfl, rfl⟩⟩) HDW.out.hint (below_setRow HDW.out.low (Nat.le_refl _) _)
      · have hz1 : (D != 0) = true := by simp [hz0]
        have HFIN := Lib.hid (HF2.out hz0)
        clear hz0
        go_wp2_with (first
          | refine Rdr.wpList_build rfl 28 _ rfl [] rfl _ built_m0 ?_
          | refine wpList_store_row rfl 28 _ _ rfl w.heap.size (msgA MsgD.zero none 0) rfl rfl 28 (msgA MsgD.zero none 0) HDW.out.r0 (sizeM _ rfl) rfl (msgA_one _ _ _) ?_)
        have HS := Lib.hid (setRow_heap _ _ _ (msgA MsgD.zero none 0) _ _ HDW.out.r0)
        refine bodyPost_ret (results_cell_tmp2 rfl _ _ _ _ _ _ _ rfl HS.out Tryd.underlying28 rfl (sizeM _ rfl)) rfl ?_
        exact HFIN.out _ (below_setRow HDW.out.low (Nat.le_refl _) _)
  · have t1 : ((V : Int) == 1) = false := by rw [beq_eq_false_iff_ne]; omega
    have t2 : ((V : Int) == 2) = false := by rw [beq_eq_false_iff_ne]; omega
    have t3 : ((V : Int) == 3) = false := by rw [beq_eq_false_iff_ne]; omega
    have t4 : ((V : Int) == 4) = false := by rw [beq_eq_false_iff_ne]; omega
    have hq := HQ.out (s1.fail 4) ⟨(V : Int), 0, 0, 0, z16, []⟩ (by rw [HDP.out, if_neg h1, if_neg h2, if_neg h34])
    clear h1 h2 h34
    go_enter Tryd.func11, Tryd.ntmps11
    go_upto_region 1 with fail
    generalize w.alloc (.cells (msgA MsgD.zero none 0) 28) = w1 at *
    go_wp2_with fail
    refine (Rdr.new_any w1 _ _ _ l (HBS.out.below HZB.out) (by omega)).mono ?_
    rintro e w2 ⟨rb, rfl, hr2, hb2⟩
    have HR2 := Lib.hid hr2
    have HB2 := Lib.hid hb2
    clear hr2 hb2
    go_wp2_with fail
    refine (HNUM.out _ _ _ HR2.out).mono ?_
    rintro e w3 ⟨rfl, hl3⟩
    have HL3 := Lib.hid hl3
    clear hl3
    go_upto_region 3 with (first
      | ((with_reducible refine wpAt 12 ?_); refine Rdr.wpList_build rfl 28 _ rfl [(0, .int .i64 (V : Int))] rfl _ (built_m _) ?_)
      | ((with_reducible refine wpStoreAt 5 ?_); refine wpList_store_row rfl 28 _ _ rfl w3.heap.size (msgA ⟨(V : Int), 0, 0, 0, z16, []⟩ none 0) rfl rfl 28 (msgA MsgD.zero none 0) (heap_alloc_last _ _) (sizeM _ rfl) rfl (msgA_one _ _ _) ?_))
    simp only [Act.put]
    have hdw : DW w w1.heap.size rb w3.heap.size s1 ⟨(V : Int), 0, 0, 0, z16, []⟩ none 0 ((w3.alloc (.cells (msgA MsgD.zero none 0) 28)).setRow w3.heap.size (msgA ⟨(V : Int), 0, 0, 0, z16, []⟩ none 0)) := by
      have hb4 : Below w3.heap.size w3 ((w3.alloc (.cells (msgA MsgD.zero none 0) 28)).setRow w3.heap.size (msgA ⟨(V : Int), 0, 0, 0, z16, []⟩ none 0)) := below_setRow (Below.allocs _ _) (Nat.le_refl _) _
      have hs1 := HZS.out
      have hs2 := HB2.out.size
      have hs3 := HL3.out.turn.size
      obtain ⟨v, bv, hr⟩ := HR2.out
      have hlow := hr.low
      have hlt := hr.lt
      have hb13 : Below w1.heap.size w1 w3 := HB2.out.trans (HL3.out.turn.below hs2 (fun i hi => by omega))
      have hb14 : Below w1.heap.size w1 _ := hb13.trans (hb4.mono hb13.size)
      exact ⟨HL3.out.there.below hb4, Below.keepOld hb14 HZR.out, setRow_heap _ _ _ _ _ _ (heap_alloc_last _ _), HZB.out.trans (hb14.mono (by omega)), ⟨by omega, by omega, by omega⟩, rfl⟩
    generalize (w3.alloc (.cells (msgA MsgD.zero none 0) 28)).setRow w3.heap.size (msgA ⟨(V : Int), 0, 0, 0, z16, []⟩ none 0) = w4 at *
    generalize w3.heap.size = mb at *
    have HDW := Lib.hid hdw
    obtain ⟨k0, k1, k2, k3, k20, kf⟩ := hdw.cells
    clear hdw HL3 HR2 HB2
    go_wp2_with fail
    refine (Rdr.fail_any _ HDW.out.rd 4 (by omega)).mono ?_
    rintro e x5 ⟨rfl, hl5⟩
    have hdw := HDW.out.left hl5
    clear HDW hl5
    have HDW := Lib.hid hdw
    clear hdw
    obtain ⟨D, hD⟩ : ∃ D, ((s1.fail 4)).done = D := ⟨_, rfl⟩
    have HDQ : Hid (((s1.fail 4)).done = D ∧ True) := ⟨hD, trivial⟩
    rw [hD] at hq
    have HF2 : Hid (¬ D = 0 → ∀ w', Below w.heap.size w w' → DecP l w (.returned (.tuple #[.agg (msgA MsgD.zero none 0), .int .i64 D])) w') := fun hz w' hb => by
      unfold DecP
      rw [hq.1 hz]
      exact ⟨none, 0, rfl, ⟨rfl, .inl ⟨rfl, rfl⟩⟩, rfl, hb⟩
    have HF : Hid (D = 0 → ∀ p c w', w'.ownsRow w.heap.size 5 1 (.slice p (MsgD.blob ⟨(V : Int), 0, 0, 0, z16, []⟩).length c) (MsgD.blob ⟨(V : Int), 0, 0, 0, z16, []⟩).length (bytesV (MsgD.blob ⟨(V : Int), 0, 0, 0, z16, []⟩)) → (MsgD.hint ⟨(V : Int), 0, 0, 0, z16, []⟩).length = 16 → Below w.heap.size w w' → DecP l w (.returned (.tuple #[.agg (msgA ⟨(V : Int), 0, 0, 0, z16, []⟩ p c), .int .i64 0])) w') := fun hz p c w' ho hh hb => by
      unfold DecP
      rw [hq.2 hz]
      exact ⟨p, c, rfl, ho, hh, hb⟩
    clear hD hq
    have HE9 := Lib.hid (HE.out.below HDW.out.low HE.out.lt)
    go_wp2_with fail
    refine (Rdr.done_any _ HDW.out.rd HE9.out).mono ?_
    rintro e x9 ⟨rfl, hb9⟩
    have hdw9 := HDW.out.below hb9
    clear hb9 HDW HE9
    have HDW := Lib.hid hdw9
    clear hdw9
    rw [HDQ.out.1]
    by_cases hz0 : D = 0
    · have hz1 : (D != 0) = false := by simp [hz0]
      have HFIN := Lib.hid (HF.out hz0)
      clear hz0
      go_wp2_with (first
        | refine wpList_load_row rfl 28 _ rfl mb rfl 28 (msgA ⟨(V : Int), 0, 0, 0, z16, []⟩ none 0) (0, 0) _ HDW.out.r1 Tryd.underlying28 rfl (sizeM _ (msgA_size HDW.out.hint _ _)) ?_
        | refine wpList_store_row rfl 28 _ _ rfl w.heap.size (msgA ⟨(V : Int), 0, 0, 0, z16, []⟩ none 0) rfl rfl 28 (msgA MsgD.zero none 0) HDW.out.r0 (sizeM _ (msgA_size HDW.out.hint _ _)) (by rw [msgA_size HDW.out.hint]; rfl) (msgA_one _ _ _) ?_)
      have HS := Lib.hid (setRow_heap _ _ _ (msgA ⟨(V : Int), 0, 0, 0, z16, []⟩ none 0) _ _ HDW.out.r0)
      refine bodyPost_ret (results_cell_tmp2 rfl _ _ _ _ _ _ _ rfl HS.out Tryd.underlying28 rfl (sizeM _ (msgA_size HDW.out.hint _ _))) rfl ?_
      exact HFIN.out _ _ _ (⟨rfl, .inl ⟨rfl, rfl⟩⟩) HDW.out.hint (below_setRow HDW.out.low (Nat.le_refl _) _)
    · have hz1 : (D != 0) = true := by simp [hz0]
      have HFIN := Lib.hid (HF2.out hz0)
      clear hz0
      go_wp2_with (first
        | refine Rdr.wpList_build rfl 28 _ rfl [] rfl _ built_m0 ?_
        | refine wpList_store_row rfl 28 _ _ rfl w.heap.size (msgA MsgD.zero none 0) rfl rfl 28 (msgA MsgD.zero none 0) HDW.out.r0 (sizeM _ rfl) rfl (msgA_one _ _ _) ?_)
      have HS := Lib.hid (setRow_heap _ _ _ (msgA MsgD.zero none 0) _ _ HDW.out.r0)
      refine bodyPost_ret (results_cell_tmp2 rfl _ _ _ _ _ _ _ rfl HS.out Tryd.underlying28 rfl (sizeM _ rfl)) rfl ?_
      exact HFIN.out _ (below_setRow HDW.out.low (Nat.le_refl _) _)
end Go.Proofs.YtmjdpfmofbbknaaDoor.Msg
