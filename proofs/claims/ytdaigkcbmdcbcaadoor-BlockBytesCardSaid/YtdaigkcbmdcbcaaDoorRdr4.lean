/- THE WALKS OF A READER: an id; a hint. Conditions: none. -/
import Derived.Test.YtdaigkcbmdcbcaaDoorRdr3
import Derived.Test.YtdaigkcbmdcbcaaDoorEager2
namespace Go.Proofs.YtdaigkcbmdcbcaaDoor.Rdr
open Go.RowKit Go.Mir Go.Mir.Parts

theorem wpList_copy_turn {P : Program} {w : World} {ops : Array Oper} {rest : List Oper} {o : Oper} {a : Act} {Q : Exit → Act → World → Prop} (hgd : o.guard = none) (d s : Operand) (dT sT : TypeId)
    (ho : o.op = .call { callee := .builtin .copy, args := #[d, s], argTypes := #[dT, sT] }) (elem : TypeId) (hu : P.underlying dT = some (.slice elem)) (hsz : (P.info? elem).map (·.size) = some 1)
    (dp sp : Option Addr) (dLen dCap sLen sCap : Nat) (hd : a.eval d = .slice dp dLen dCap) (hs : a.eval s = .slice sp sLen sCap)
    (g off : Nat) (cur : Array Value) (t : TypeId) (hg : w.heap[g]? = some (.cells cur t (0, 0))) (cs : List Value) (hn : cs.length = Nat.min sLen dLen)
    (hpos : 0 < cs.length → dp = some ⟨g, off, none⟩ ∧ ∃ ad, sp = some ad ∧ ∀ j v, cs[j]? = some v → w.cell? (ad.add j) = some v)
    (hfit : off + cs.length ≤ cur.size) (h1 : ∀ v ∈ cs, v.oneCell' = true)
    (h : ∀ w', Hid (w'.heap[g]? = some (.cells (cur.toList.take off ++ (cs ++ cur.toList.drop (off + cs.length))).toArray t (0, 0))) → Turns (fun k => k = g) w w' → wpList P ops Q rest (a.put o.dst (goInt cs.length)) w') :
    wpList P ops Q (o :: rest) a w := by
  by_cases h0 : cs.length = 0
  · obtain rfl : cs = [] := List.eq_nil_of_length_eq_zero h0
    refine wpList_copy_nothing hgd d s dT sT ho elem hu hsz dp sp dLen dCap sLen sCap hd hs (by simpa using hn.symm) ?_
    exact h w (show _ = _ by simpa using hg) (Turns.refl _ _)
  · obtain ⟨rfl, ad, rfl, hsrc⟩ := hpos (by omega)
    refine wpList_copy_own hgd d s dT sT ho elem hu hsz g off dLen dCap ad sLen sCap hd hs cur t hg cs hn hsrc hfit h1 ?_
    exact h _ (setRow_heap w g _ _ t _ hg) (turns_setRow w g _)
theorem bytesV_rep (n k : Nat) : (bytesV (List.replicate n 0)).drop k = bytesV (List.replicate (n - k) 0) := by unfold bytesV; rw [List.map_replicate, List.map_replicate, List.drop_replicate]
def RD.idV (s : RD) (n : Nat) : List UInt8 := s.takeB n true ++ List.replicate (n - (s.takeB n true).length) 0
def IdP (base rb : Nat) (s : RD) (n : Nat) (w : World) (e : Ending) (w' : World) : Prop := e = .returned (.agg (idA (s.idV n))) ∧ LeftR base rb (s.takeS n true) w w'
theorem RAt.touch {S : Nat → Prop} {w w' : World} {base rb : Nat} {s : RD} (h : RAt w base rb s) (ht : Turns S w w') (hS : ∀ k M t fr, w.heap[k]? = some (.cells M t fr) → (t = 5 ∨ t = 94 ∨ t = 85) → ¬ S k) : RAt w' base rb s := by
  obtain ⟨v, bv, h⟩ := h
  exact ⟨v, bv, ht.keep h.row (hS _ _ _ _ h.row (.inr (.inr rfl))), h.low, h.bytes.touch ht (fun k M fr hk => hS k M _ fr hk (.inl rfl)), h.fault.touch ht (fun k M fr hk => hS k M _ fr hk (.inr (.inl rfl))), h.at1, h.len⟩

def zid : Array Value := idA (List.replicate 32 0)
theorem zeroid (w : World) : (zeroValue 23).run Tryd.prog w = .ok (.agg zid) w := by kernel_rfl
theorem infoid (cs : Array Value) (h : cs.size = 32) : (Tryd.prog.info? 23).map (·.size) = some cs.size := by rw [h]; kernel_rfl
theorem kindid {w : World} {g : Nat} {M : Array Value} (h : w.heap[g]? = some (.cells M 23 (0, 0))) : ∀ M t fr, w.heap[g]? = some (.cells M t fr) → ¬ (t = 5 ∨ t = 94 ∨ t = 85) := fun M t fr h2 h3 => by
  rw [h] at h2
  injection h2 with e1
  injection e1 with _ e2
  subst e2
  revert h3
  decide
set_option maxRecDepth 100000 in
set_option maxHeartbeats 1600000 in
theorem id_any {base rb : Nat} {s : RD} (w : World) (h : RAt w base rb s) :
    Calls Tryd.prog 36 #[.pointer (some ⟨rb, 0, none⟩)] w (IdP base rb s 32 w) := by
  have hz := zeroid
  have H2 := Lib.hid (two_allocs w (.cells zid 23) (.cells zid 23))
  have HLR : Hid (∀ w2 w', Below w.heap.size w w2 → LeftR base rb (s.takeS 32 true) w2 w' → LeftR base rb (s.takeS 32 true) w w') := fun w2 w' hb hl => LeftR.trans (LeftR.same h hb) hl
  have HRL : Hid (rb < w.heap.size) := by obtain ⟨v, bv, h⟩ := h; exact h.lt
  have H := Lib.hid h
  clear h
  go_enter Tryd.func36, Tryd.ntmps36
  go_upto_region 2 with fail
  generalize (w.alloc (.cells zid 23)).alloc (.cells zid 23) = w2 at *
  have HB2 := Lib.hid H2.out.2.2.2
  have hsl : ∀ w', (Instr.sliceAt 23 (.pointer (some ⟨w.heap.size + 1, 0, none⟩)) none none none).run Tryd.prog w' = .ok (.slice (some ⟨w.heap.size + 1, 0, none⟩) 32 32) w' := fun w' => by kernel_rfl
  have HT := Lib.hid (take_any w2.drew ((H.out.below HB2.out).below (below_drew1 _ _)) 32 (by omega) true)
  refine wp_region_eager_t (Turns (fun k => k = rb) w2) [0, 1] [(0, true), (1, true), (2, false)] [3] (by kernel_rfl) (by kernel_rfl) ?_ (eagerTOpen rfl ?_)
  · exact (Turns.refl _ _).drew
  have hy0 : Turns (fun k => k = rb) w2 w2.drew := (Turns.refl _ _).drew
  repeat (first
    | (first | (apply wpEagerT_take; (· rfl); (· (intro w' hb'; go_simp; try with_reducible rfl)); (try simp only [Act.put, List.setIfInBounds_toArray, List.set_cons_zero, List.set_cons_succ]); (try refine eagerTOpen rfl ?_)) | (refine wpEagerT_skip (by rfl) ?_; (try simp only [Act.put, List.setIfInBounds_toArray, List.set_cons_zero, List.set_cons_succ]); (try refine eagerTOpen rfl ?_))))
  (refine wpEagerT_op (by rfl) (fun K hK => ?_); go_simp; (refine (HT.out).mono ?_; rintro e y ⟨p, c, rfl, hbs, hl⟩; have HBS := Lib.hid hbs; have HL := Lib.hid hl; have hy1 : Turns (fun k => k = rb) w2 y := hy0.trans hl.2 (fun _ _ h => h); clear hbs hl); refine Shut.out hK _ _ (by assumption) ?_; clear hK K; (try simp only [Act.put, List.setIfInBounds_toArray, List.set_cons_zero, List.set_cons_succ]); (try refine eagerTOpen rfl ?_))
  refine eagerTEnd (tail1 rfl ?_)
  have HR0 : Hid (y.heap[w.heap.size]? = some (.cells zid 23 (0, 0))) := hy1.keep H2.out.1 (by have := HRL.out; omega)
  have HR1 : Hid (y.heap[w.heap.size + 1]? = some (.cells zid 23 (0, 0))) := hy1.keep H2.out.2.1 (by have := HRL.out; omega)
  have HLN := Lib.hid (takeB_len s 32 true)
  have HFF : Hid (∀ w', Turns (fun k => k = w.heap.size ∨ k = w.heap.size + 1) y w' → LeftR base rb (s.takeS 32 true) w w') := fun w' ht => by
    have hsame := (LeftR.trans (LeftR.same H.out HB2.out) (LeftR.trans (LeftR.same (H.out.below HB2.out) (below_drew1 _ _)) HL.out)).same1
    obtain ⟨v5, bv5, h5⟩ := HL.out.1
    refine ⟨HL.out.1.touch ht ?_, (((Turns.of_below HB2.out).trans hy1 (fun _ _ h => h)).trans ht ?_), by rw [← hsame, h5.cells.2.1]; exact ht.cell h5.cells.2.1 (by have := HRL.out; show ¬ (rb = _ ∨ rb = _); omega)⟩
    · intro k M t fr hk ht hs
      rcases hs with rfl | rfl
      · exact kindid HR0.out _ _ _ hk ht
      · exact kindid HR1.out _ _ _ hk ht
    · intro i hi hs
      omega
  have HID : Hid (s.idV 32 = s.takeB 32 true ++ List.replicate (32 - (s.takeB 32 true).length) 0) := rfl
  have hy2 : w2.heap.size ≤ y.heap.size := hy1.size
  have hsz2 := H2.out.2.2.1
  clear hy1 hy0
  generalize s.takeB 32 true = L at *
  have hlen : L.length ≤ 32 := by have := HLN.out; simp at this; omega
  have HMIN : Hid ((bytesV L).length = Nat.min L.length 32) := by
    show _ = _
    rw [bytesV_length]
    exact (Nat.min_eq_left hlen).symm
  have HFIT : Hid (0 + (bytesV L).length ≤ zid.size) := by
    show _ ≤ _
    rw [bytesV_length, show zid.size = 32 by rfl]
    omega
  have HPOS : Hid (0 < (bytesV L).length → some (⟨w.heap.size + 1, 0, none⟩ : Addr) = some ⟨w.heap.size + 1, 0, none⟩ ∧ ∃ ad, p = some ad ∧ ∀ j v, (bytesV L)[j]? = some v → y.cell? (ad.add j) = some v) := fun hp => by
    rw [bytesV_length] at hp
    obtain ⟨b, o, rfl⟩ := HBS.out.addr hp (by omega)
    exact ⟨rfl, _, rfl, fun j v hv => HBS.out.cell _ rfl j v hv⟩
  have HY := Lib.hid (HFF.out y (Turns.refl _ _))
  generalize hLn : L.length = m at *
  have HLn := Lib.hid hLn
  clear hLn
  have HROW : Hid ((bytesV L ++ zid.toList.drop (bytesV L).length).toArray = idA (s.idV 32)) := by
    show _ = _
    rw [HID.out, show zid.toList = bytesV (List.replicate 32 0) from idA_toList _]
    unfold idA
    rw [bytesV_append, bytesV_length, HLn.out]
    rw [bytesV_rep]
  have HIL : Hid ((idA (s.idV 32)).size = 32) := by
    show _ = _
    rw [idA_size, HID.out, List.length_append, List.length_replicate, HLn.out]
    omega
  have HZ : Hid ((idA (s.idV 32)).size = zid.size) := HIL.out.trans (show 32 = zid.size from rfl)
  generalize hX : s.idV 32 = X at *
  have HX := Lib.hid hX
  clear hX
  go_wp2_with (refine wpList_copy_turn rfl _ _ 29 29 rfl 5 Tryd.underlying29 (by kernel_rfl) _ _ _ _ _ _ rfl rfl (w.heap.size + 1) 0 zid 23 HR1.out (bytesV L) HMIN.out HPOS.out HFIT.out (bytesV_one _) ?_)
  intro w4 HX4 ht4
  rw [HROW.out] at HX4
  have HR4 : Hid (w4.heap[w.heap.size]? = some (.cells zid 23 (0, 0))) := ht4.keep HR0.out (by omega)
  have HT4 := Lib.hid ht4
  clear ht4
  refine noPanic_end ?_
  go_wp2_with (first
    | refine wpList_load_row rfl 23 _ rfl (w.heap.size + 1) rfl 23 (idA X) (0, 0) _ HX4.out Tryd.underlying23 rfl (infoid _ HIL.out) ?_
    | refine wpList_store_row rfl 23 _ _ rfl w.heap.size (idA X) rfl rfl 23 zid HR4.out (infoid _ HIL.out) HZ.out.symm (idA_one _) ?_)
  have HS := Lib.hid (setRow_heap _ _ _ (idA X) _ _ HR4.out)
  refine bodyPost_ret (results_cell_row rfl _ _ _ _ _ _ _ rfl HS.out Tryd.underlying23 rfl (infoid _ HIL.out)) rfl ?_
  refine ⟨by rw [HX.out], HFF.out _ (((HT4.out.imp (fun _ _ h => .inr h)).trans (turns_setRow _ _ _) (fun _ _ h => .inl h)))⟩
def zhint : Array Value := idA (List.replicate 16 0)
theorem zerohint (w : World) : (zeroValue 40).run Tryd.prog w = .ok (.agg zhint) w := by kernel_rfl
theorem infohint (cs : Array Value) (h : cs.size = 16) : (Tryd.prog.info? 40).map (·.size) = some cs.size := by rw [h]; kernel_rfl
theorem kindhint {w : World} {g : Nat} {M : Array Value} (h : w.heap[g]? = some (.cells M 40 (0, 0))) : ∀ M t fr, w.heap[g]? = some (.cells M t fr) → ¬ (t = 5 ∨ t = 94 ∨ t = 85) := fun M t fr h2 h3 => by
  rw [h] at h2
  injection h2 with e1
  injection e1 with _ e2
  subst e2
  revert h3
  decide
set_option maxRecDepth 100000 in
set_option maxHeartbeats 1600000 in
theorem hint_any {base rb : Nat} {s : RD} (w : World) (h : RAt w base rb s) :
    Calls Tryd.prog 61 #[.pointer (some ⟨rb, 0, none⟩)] w (IdP base rb s 16 w) := by
  have hz := zerohint
  have H2 := Lib.hid (two_allocs w (.cells zhint 40) (.cells zhint 40))
  have HLR : Hid (∀ w2 w', Below w.heap.size w w2 → LeftR base rb (s.takeS 16 true) w2 w' → LeftR base rb (s.takeS 16 true) w w') := fun w2 w' hb hl => LeftR.trans (LeftR.same h hb) hl
  have HRL : Hid (rb < w.heap.size) := by obtain ⟨v, bv, h⟩ := h; exact h.lt
  have H := Lib.hid h
  clear h
  go_enter Tryd.func61, Tryd.ntmps61
  go_upto_region 2 with fail
  generalize (w.alloc (.cells zhint 40)).alloc (.cells zhint 40) = w2 at *
  have HB2 := Lib.hid H2.out.2.2.2
  have hsl : ∀ w', (Instr.sliceAt 40 (.pointer (some ⟨w.heap.size + 1, 0, none⟩)) none none none).run Tryd.prog w' = .ok (.slice (some ⟨w.heap.size + 1, 0, none⟩) 16 16) w' := fun w' => by kernel_rfl
  have HT := Lib.hid (take_any w2.drew ((H.out.below HB2.out).below (below_drew1 _ _)) 16 (by omega) true)
  refine wp_region_eager_t (Turns (fun k => k = rb) w2) [0, 1] [(0, true), (1, true), (2, false)] [3] (by kernel_rfl) (by kernel_rfl) ?_ (eagerTOpen rfl ?_)
  · exact (Turns.refl _ _).drew
  have hy0 : Turns (fun k => k = rb) w2 w2.drew := (Turns.refl _ _).drew
  repeat (first
    | (first | (apply wpEagerT_take; (· rfl); (· (intro w' hb'; go_simp; try with_reducible rfl)); (try simp only [Act.put, List.setIfInBounds_toArray, List.set_cons_zero, List.set_cons_succ]); (try refine eagerTOpen rfl ?_)) | (refine wpEagerT_skip (by rfl) ?_; (try simp only [Act.put, List.setIfInBounds_toArray, List.set_cons_zero, List.set_cons_succ]); (try refine eagerTOpen rfl ?_))))
  (refine wpEagerT_op (by rfl) (fun K hK => ?_); go_simp; (refine (HT.out).mono ?_; rintro e y ⟨p, c, rfl, hbs, hl⟩; have HBS := Lib.hid hbs; have HL := Lib.hid hl; have hy1 : Turns (fun k => k = rb) w2 y := hy0.trans hl.2 (fun _ _ h => h); clear hbs hl); refine Shut.out hK _ _ (by assumption) ?_; clear hK K; (try simp only [Act.put, List.setIfInBounds_toArray, List.set_cons_zero, List.set_cons_succ]); (try refine eagerTOpen rfl ?_))
  refine eagerTEnd (tail1 rfl ?_)
  have HR0 : Hid (y.heap[w.heap.size]? = some (.cells zhint 40 (0, 0))) := hy1.keep H2.out.1 (by have := HRL.out; omega)
  have HR1 : Hid (y.heap[w.heap.size + 1]? = some (.cells zhint 40 (0, 0))) := hy1.keep H2.out.2.1 (by have := HRL.out; omega)
  have HLN := Lib.hid (takeB_len s 16 true)
  have HFF : Hid (∀ w', Turns (fun k => k = w.heap.size ∨ k = w.heap.size + 1) y w' → LeftR base rb (s.takeS 16 true) w w') := fun w' ht => by
    have hsame := (LeftR.trans (LeftR.same H.out HB2.out) (LeftR.trans (LeftR.same (H.out.below HB2.out) (below_drew1 _ _)) HL.out)).same1
    obtain ⟨v5, bv5, h5⟩ := HL.out.1
    refine ⟨HL.out.1.touch ht ?_, (((Turns.of_below HB2.out).trans hy1 (fun _ _ h => h)).trans ht ?_), by rw [← hsame, h5.cells.2.1]; exact ht.cell h5.cells.2.1 (by have := HRL.out; show ¬ (rb = _ ∨ rb = _); omega)⟩
    · intro k M t fr hk ht hs
      rcases hs with rfl | rfl
      · exact kindhint HR0.out _ _ _ hk ht
      · exact kindhint HR1.out _ _ _ hk ht
    · intro i hi hs
      omega
  have HID : Hid (s.idV 16 = s.takeB 16 true ++ List.replicate (16 - (s.takeB 16 true).length) 0) := rfl
  have hy2 : w2.heap.size ≤ y.heap.size := hy1.size
  have hsz2 := H2.out.2.2.1
  clear hy1 hy0
  generalize s.takeB 16 true = L at *
  have hlen : L.length ≤ 16 := by have := HLN.out; simp at this; omega
  have HMIN : Hid ((bytesV L).length = Nat.min L.length 16) := by
    show _ = _
    rw [bytesV_length]
    exact (Nat.min_eq_left hlen).symm
  have HFIT : Hid (0 + (bytesV L).length ≤ zhint.size) := by
    show _ ≤ _
    rw [bytesV_length, show zhint.size = 16 by rfl]
    omega
  have HPOS : Hid (0 < (bytesV L).length → some (⟨w.heap.size + 1, 0, none⟩ : Addr) = some ⟨w.heap.size + 1, 0, none⟩ ∧ ∃ ad, p = some ad ∧ ∀ j v, (bytesV L)[j]? = some v → y.cell? (ad.add j) = some v) := fun hp => by
    rw [bytesV_length] at hp
    obtain ⟨b, o, rfl⟩ := HBS.out.addr hp (by omega)
    exact ⟨rfl, _, rfl, fun j v hv => HBS.out.cell _ rfl j v hv⟩
  have HY := Lib.hid (HFF.out y (Turns.refl _ _))
  generalize hLn : L.length = m at *
  have HLn := Lib.hid hLn
  clear hLn
  have HROW : Hid ((bytesV L ++ zhint.toList.drop (bytesV L).length).toArray = idA (s.idV 16)) := by
    show _ = _
    rw [HID.out, show zhint.toList = bytesV (List.replicate 16 0) from idA_toList _]
    unfold idA
    rw [bytesV_append, bytesV_length, HLn.out]
    rw [bytesV_rep]
  have HIL : Hid ((idA (s.idV 16)).size = 16) := by
    show _ = _
    rw [idA_size, HID.out, List.length_append, List.length_replicate, HLn.out]
    omega
  have HZ : Hid ((idA (s.idV 16)).size = zhint.size) := HIL.out.trans (show 16 = zhint.size from rfl)
  generalize hX : s.idV 16 = X at *
  have HX := Lib.hid hX
  clear hX
  go_wp2_with (refine wpList_copy_turn rfl _ _ 29 29 rfl 5 Tryd.underlying29 (by kernel_rfl) _ _ _ _ _ _ rfl rfl (w.heap.size + 1) 0 zhint 40 HR1.out (bytesV L) HMIN.out HPOS.out HFIT.out (bytesV_one _) ?_)
  intro w4 HX4 ht4
  rw [HROW.out] at HX4
  have HR4 : Hid (w4.heap[w.heap.size]? = some (.cells zhint 40 (0, 0))) := ht4.keep HR0.out (by omega)
  have HT4 := Lib.hid ht4
  clear ht4
  refine noPanic_end ?_
  go_wp2_with (first
    | refine wpList_load_row rfl 40 _ rfl (w.heap.size + 1) rfl 40 (idA X) (0, 0) _ HX4.out Tryd.underlying40 rfl (infohint _ HIL.out) ?_
    | refine wpList_store_row rfl 40 _ _ rfl w.heap.size (idA X) rfl rfl 40 zhint HR4.out (infohint _ HIL.out) HZ.out.symm (idA_one _) ?_)
  have HS := Lib.hid (setRow_heap _ _ _ (idA X) _ _ HR4.out)
  refine bodyPost_ret (results_cell_row rfl _ _ _ _ _ _ _ rfl HS.out Tryd.underlying40 rfl (infohint _ HIL.out)) rfl ?_
  refine ⟨by rw [HX.out], HFF.out _ (((HT4.out.imp (fun _ _ h => .inr h)).trans (turns_setRow _ _ _) (fun _ _ h => .inl h)))⟩
end Go.Proofs.YtdaigkcbmdcbcaaDoor.Rdr
