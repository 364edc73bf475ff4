/- PARTS, JOINED: REPLIES: the reference's Decode. Conditions: at most 2^40 bytes. REPLIES: law ReplyReads. Conditions: internal/bytealg.MaxLen holds an int; the laid cell of errors.errorType. -/
import Derived.Test.YtmphajilnkgcaaaDoorRp1
import Derived.Test.YtmphajilnkgcaaaDoorRp2
import Derived.Test.YtmphajilnkgcaaaDoorRp3
import Derived.Test.YtmphajilnkgcaaaDoorRp4
import Derived.Test.YtmphajilnkgcaaaDoorRp5
import Derived.Test.YtmphajilnkgcaaaDoorRp6
namespace Go.Proofs.YtmphajilnkgcaaaDoor.Rpl
open Go.RowKit Go.Mir Go.Mir.Hx Go.Mir.Parts Rdr Cod

def nvV (l : List Nat) : List Value := l.map fun (n : Nat) => .int .u32 (n : Int)
theorem nvV_one (l : List Nat) : ∀ u ∈ nvV l, u.oneCell' = true := by
  intro u hu; simp only [nvV, List.mem_map] at hu; obtain ⟨_, _, rfl⟩ := hu; rfl
theorem infoU32 : (Tryd.prog.info? 25).map (fun i => (i.zero, i.size, i.bytes)) = some (some (.int .u32 0), 1, 4) := by kernel_rfl
theorem wpList_buildNum {ops : Array Oper} {rest : List Oper} {o : Oper} {a : Act} {w : World} {Q : Exit → Act → World → Prop} (hg : o.guard = none) (x : Operand) (ho : o.op = .buildSlice 57 1 #[(0, x)]) (z : Int) (n : Nat) (hx : a.eval x = .int .u32 z) (hz : z = (n : Int))
    (h : wpList Tryd.prog ops Q rest (a.put o.dst (.slice (some ⟨w.heap.size, 0, none⟩) 1 1)) (w.alloc (.cells #[.int .u32 (n : Int)] 25))) : wpList Tryd.prog ops Q (o :: rest) a w := by
  subst hz
  obtain ⟨i, hi, hiv⟩ := Option.map_eq_some_iff.1 infoU32
  obtain ⟨h1, h2, _⟩ := (by simpa using hiv : i.zero = some (.int .u32 0) ∧ i.size = 1 ∧ i.bytes = 4)
  refine wpList_buildSlice hg 57 25 1 _ ho _ i _ Tryd.underlying57 hi h1 (by rw [h2]; omega) (by rw [h2]; omega) ?_ h
  have : (#[(0, x)].map fun (p : Nat × Operand) => (p.1, a.eval p.2)).toList = [(0, .int .u32 (n : Int))] := by simp [hx]
  rw [this, h2, show Array.map (fun x => (Value.int .u32 0).cells[x % (Value.int .u32 0).cells.size]!) (Array.range (1 * 1)) = #[.int .u32 0] from by kernel_rfl]
  simp [Instr.fill, Value.cells]
set_option maxRecDepth 100000 in
set_option maxHeartbeats 1600000 in
theorem rwith2_any (k e : Int) (r : RP) (g c : Nat) (w : World) (hc5 : 5 ≤ c) (hcm : c ≤ 9223372036854775807) (hg : g < w.heap.size) (hc : w.cell? ⟨g, 0, none⟩ = some (.int .u32 (r.se : Int)) ∧ w.cell? ⟨g, 1, none⟩ = some (.int .u32 (r.sq : Int)) ∧ w.cell? ⟨g, 2, none⟩ = some (.int .u32 (r.qu : Int)) ∧ w.cell? ⟨g, 3, none⟩ = some (.int .u32 (r.us : Int)) ∧ w.cell? ⟨g, 4, none⟩ = some (.int .u32 (r.ex : Int))) :
    Calls Tryd.prog 25 #[.int .i64 k, .int .i64 e, .slice (some ⟨g, 0, none⟩) 5 c] w fun x w' => x = .returned (.agg (rpA ⟨k, e, r.se, r.sq, r.qu, r.us, r.ex⟩)) ∧ Below w.heap.size w w' := by
  have hz := zeroR
  have HB := Lib.hid (Below.allocs w (.cells zR 27))
  have HR := Lib.hid (heap_alloc_last w (.cells zR 27))
  have HC1 : Hid (∀ w', Below w.heap.size w w' → w'.cell? ⟨g, 0, none⟩ = some (.int .u32 (r.se : Int)) ∧ w'.cell? ⟨g, 1, none⟩ = some (.int .u32 (r.sq : Int)) ∧ w'.cell? ⟨g, 2, none⟩ = some (.int .u32 (r.qu : Int)) ∧ w'.cell? ⟨g, 3, none⟩ = some (.int .u32 (r.us : Int)) ∧ w'.cell? ⟨g, 4, none⟩ = some (.int .u32 (r.ex : Int))) := fun w' hb => ⟨cell_below hc.1 hb, cell_below hc.2.1 hb, cell_below hc.2.2.1 hb, cell_below hc.2.2.2.1 hb, cell_below hc.2.2.2.2 hb⟩
  clear hc
  go_enter Tryd.func25, Tryd.ntmps25
  go_upto_region 1 with fail
  generalize w.alloc (.cells zR 27) = w1 at *
  refine wp_region_tree (Below w.heap.size w1) (.take 0 (.take 1 (.take 2 (.take 3 (.take 4 (.take 5 (.take 6 (.take 7 (.take 8 (.take 9 (.take 10 (.take 11 (.take 12 (.take 13 (.take 14 (.take 15 (.take 16 (.one 17 (.one 18 .nil))))))))))))))))))) (by kernel_rfl) (by kernel_rfl) ((below_drew1 w1.heap.size w1).mono HB.out.size) ?_
  have hy0 : Below w.heap.size w1 w1.drew := (below_drew1 w1.heap.size w1).mono HB.out.size
  have HR1 : Hid (w1.drew.heap[w.heap.size]? = some (.cells zR 27 (0, 0))) := Below.keepOld (below_drew1 w1.heap.size w1) HR.out
  have hc : Hid (∀ w', Below w.heap.size w1 w' → w'.cell? ⟨g, 0, none⟩ = some (.int .u32 (r.se : Int)) ∧ w'.cell? ⟨g, 1, none⟩ = some (.int .u32 (r.sq : Int)) ∧ w'.cell? ⟨g, 2, none⟩ = some (.int .u32 (r.qu : Int)) ∧ w'.cell? ⟨g, 3, none⟩ = some (.int .u32 (r.us : Int)) ∧ w'.cell? ⟨g, 4, none⟩ = some (.int .u32 (r.ex : Int))) := fun w' hb => HC1.out w' (HB.out.trans hb)
  repeat (apply tree_take; (· rfl); (· rfl); (· (intro w' hb'; obtain ⟨c0, c1, c2, c3, c4⟩ := hc.out w' hb'; go_simp; try with_reducible rfl)); try simp only [Act.put, List.setIfInBounds_toArray, List.set_cons_zero, List.set_cons_succ])
  refine tree_one rfl (by rfl) (fun K hK => oper_of_list rfl ?_)
  refine Rdr.wpList_build rfl 27 _ rfl [(0, .int .i64 k), (1, .int .i64 e), (2, .int .u32 (r.se : Int)), (3, .int .u32 (r.sq : Int)), (4, .int .u32 (r.qu : Int)), (5, .int .u32 (r.us : Int)), (6, .int .u32 (r.ex : Int))] rfl _ (built_rw k e r) ?_
  refine only_end (Shut.out hK _ _ hy0 ?_)
  clear hK K
  try simp only [Act.put, List.setIfInBounds_toArray, List.set_cons_zero, List.set_cons_succ]
  refine tree_one rfl (by rfl) (fun K hK => oper_of_list rfl ?_)
  refine wpList_store_row rfl 27 _ _ rfl w.heap.size (rpA ⟨k, e, r.se, r.sq, r.qu, r.us, r.ex⟩) rfl rfl 27 zR HR1.out (infoR _ rfl) rfl (rpA_one _) ?_
  have hy1 := below_setRow hy0 (Nat.le_refl _) (rpA ⟨k, e, r.se, r.sq, r.qu, r.us, r.ex⟩)
  refine only_end (Shut.out hK _ _ hy1 ?_)
  clear hK K
  refine tree_nil ?_
  go_wp2_with fail
  have HS := Lib.hid (setRow_heap _ _ _ (rpA ⟨k, e, r.se, r.sq, r.qu, r.us, r.ex⟩) _ _ HR1.out)
  refine bodyPost_ret (results_cell_row rfl _ _ _ _ _ _ _ rfl HS.out Tryd.underlying27 rfl (infoR _ rfl)) rfl ?_
  exact ⟨rfl, HB.out.trans hy1⟩
def RDecP (l : List UInt8) (w : World) (e : Ending) (w' : World) : Prop := e = .returned (.tuple #[.agg (rpA (decD l).1), .int .i64 (decD l).2]) ∧ Below w.heap.size w w'
/-- the numbers in 22 bytes -/
def nAt (l : List UInt8) (q : Nat) : Nat := beN ((l.drop (2 + 4 * q)).take 4)
def nsAt (l : List UInt8) (q : Nat) : List Nat := (List.range q).map (nAt l)
theorem nsAt_succ (l : List UInt8) (q : Nat) : nsAt l (q + 1) = nsAt l q ++ [nAt l q] := by unfold nsAt; rw [List.range_succ, List.map_append]; rfl
theorem nAt_four (l : List UInt8) (q : Nat) (b0 b1 b2 b3 : UInt8) (h0 : l[2 + 4 * q]? = some b0) (h1 : l[2 + 4 * q + 1]? = some b1) (h2 : l[2 + 4 * q + 2]? = some b2) (h3 : l[2 + 4 * q + 3]? = some b3) : nAt l q = b0.toNat * 16777216 + b1.toNat * 65536 + b2.toNat * 256 + b3.toNat := by
  have e : (l.drop (2 + 4 * q)).take 4 = [b0, b1, b2, b3] := by
    apply List.ext_getElem?
    intro i
    rw [List.getElem?_take]
    match i with
    | 0 => simpa using h0
    | 1 => simpa using h1
    | 2 => simpa using h2
    | 3 => simpa using h3
    | i + 4 => rw [if_neg (by omega)]; rfl
  unfold nAt
  rw [e]
  show 256 * (256 * (256 * (256 * 0 + b0.toNat) + b1.toNat) + b2.toNat) + b3.toNat = _
  omega
/-- the numbers so far -/
structure FS (w : World) (l : List UInt8) (q : Nat) (p : Option Addr) (c : Nat) (X : World) : Prop where
  own : X.ownsRow (w.heap.size + 1) 25 1 (.slice p q c) q (nvV (nsAt l q))
  box : X.heap[w.heap.size]? = some (.cells zR 27 (0, 0))
  low : Below w.heap.size w X
theorem FS.size {w X : World} {l : List UInt8} {q : Nat} {p : Option Addr} {c : Nat} (h : FS w l q p c X) : w.heap.size + 1 ≤ X.heap.size := (Array.getElem?_eq_some_iff.1 h.box).1
theorem num_made (w : World) (n : Nat) : Sl (w.alloc (.cells #[.int .u32 (n : Int)] 25)) (some ⟨w.heap.size, 0, none⟩) 1 1 1 (nvV [n]) := by
  have h : (w.alloc (.cells #[.int .u32 (n : Int)] 25)).ownsRow w.heap.size 25 1 (.slice (some ⟨w.heap.size, 0, none⟩) 1 1) 1 (nvV [n]) :=
    ⟨rfl, .inr ⟨w.heap.size, 1, _, rfl, Nat.le_refl _, heap_alloc_last _ _, Nat.le_refl _, by simp [maxLen], rfl, rfl⟩⟩
  obtain ⟨p, c, he, hs⟩ := own_sl h
  cases he
  exact hs
theorem rD_two (l : List UInt8) (h : l.length = 22) (x0 x1 : UInt8) (h0 : l[0]? = some x0) (h1 : l[1]? = some x1) : rD l 5 = ⟨(x0.toNat : Int), (x1.toNat : Int), nAt l 0, nAt l 1, nAt l 2, nAt l 3, nAt l 4⟩ := by
  rw [rD_fit l h]
  have e0 : l.take 1 = [x0] := by
    apply List.ext_getElem?
    intro i
    rw [List.getElem?_take]
    match i with
    | 0 => simpa using h0
    | i + 1 => rw [if_neg (by omega)]; rfl
  have e1 : (l.drop 1).take 1 = [x1] := by
    apply List.ext_getElem?
    intro i
    rw [List.getElem?_take]
    match i with
    | 0 => simpa using h1
    | i + 1 => rw [if_neg (by omega)]; rfl
  have b (x : UInt8) : beN [x] = x.toNat := by show 256 * 0 + x.toNat = _; omega
  rw [e0, e1, b, b]
  rfl
set_option maxRecDepth 100000 in
set_option maxHeartbeats 6400000 in
theorem rdecode_any (w : World) (p : Option Addr) (n c : Nat) (l : List UInt8) (hB : Bs w p n c l) :
    Calls Tryd.prog 19 #[.slice p n c] w (RDecP l w) := by
  have hz := zeroR
  have HBS := Lib.hid hB
  have hle := hB.le
  have hmax := hB.max
  have HLN := Lib.hid hB.length
  have HZB := Lib.hid (Below.allocs w (.cells zR 27))
  have HZR := Lib.hid (heap_alloc_last w (.cells zR 27))
  have HDD : Hid (decD l = if l.length < 22 then (RP.zero, 2) else if 22 < l.length then (RP.zero, 3) else if (rD l 5).right then (rD l 5, 0) else (RP.zero, 4)) := rfl
  rw [HLN.out] at HDD
  clear hB
  by_cases hl1 : n < 22
  · have d1 : decide ((n : Int) < 22) = true := decide_eq_true (by omega)
    have d2 : decide (n < 22) = true := decide_eq_true hl1
    rw [if_pos hl1] at HDD
    clear hl1
    go_enter Tryd.func19, Tryd.ntmps19
    go_upto_region 2 with fail
    skip
    go_wp2_with (first
      | refine Rdr.wpList_build rfl 27 _ rfl [] rfl _ built_r0 ?_
      | refine wpList_store_row rfl 27 _ _ rfl w.heap.size zR rfl rfl 27 zR HZR.out (infoR _ rfl) rfl (rpA_one _) ?_)
    have HS := Lib.hid (setRow_heap _ _ _ zR _ _ HZR.out)
    refine bodyPost_ret (results_row_tmp rfl _ _ _ _ _ _ _ rfl HS.out Tryd.underlying27 rfl (infoR _ rfl)) rfl ?_
    unfold RDecP
    rw [HDD.out]
    exact ⟨rfl, below_setRow HZB.out (Nat.le_refl _) _⟩
  have d1 : decide ((n : Int) < 22) = false := decide_eq_false (by omega)
  have d2 : decide (n < 22) = false := decide_eq_false hl1
  rw [if_neg hl1] at HDD
  by_cases hl2 : 22 < n
  · have d3 : decide ((22 : Int) < (n : Int)) = true := decide_eq_true (by omega)
    have d4 : decide (22 < n) = true := decide_eq_true hl2
    rw [if_pos hl2] at HDD
    clear hl1 hl2
    go_enter Tryd.func19, Tryd.ntmps19
    go_upto_region 4 with fail
    skip
    go_wp2_with (first
      | refine Rdr.wpList_build rfl 27 _ rfl [] rfl _ built_r0 ?_
      | refine wpList_store_row rfl 27 _ _ rfl w.heap.size zR rfl rfl 27 zR HZR.out (infoR _ rfl) rfl (rpA_one _) ?_)
    have HS := Lib.hid (setRow_heap _ _ _ zR _ _ HZR.out)
    refine bodyPost_ret (results_row_tmp rfl _ _ _ _ _ _ _ rfl HS.out Tryd.underlying27 rfl (infoR _ rfl)) rfl ?_
    unfold RDecP
    rw [HDD.out]
    exact ⟨rfl, below_setRow HZB.out (Nat.le_refl _) _⟩
  rw [if_neg hl2] at HDD
  obtain rfl : n = 22 := by omega
  clear hl1 hl2 d1 d2
  obtain ⟨b, o, rfl⟩ := HBS.out.addr (by omega) (by omega)
  have HF0 : Hid (FS w l 0 none 0 (w.alloc (.cells zR 27))) := ⟨World.ownsRow_nil _ _ _ _, HZR.out, HZB.out⟩
  go_enter Tryd.func19, Tryd.ntmps19
  go_upto_region 7 with fail
  generalize w.alloc (.cells zR 27) = w1 at *
  go_loopw [4, 5] (fun v j wr => ∃ (q i : Nat) (pv : Option Addr) (cv : Nat), q ≤ 5 ∧ i = 2 + 4 * q ∧ j = .int .i64 i ∧ v = .slice pv q cv ∧ FS w l q pv cv wr) (fun _ j _ => 22 - (intOf j).toNat)
  case atStart => exact ⟨0, 2, none, 0, by omega, rfl, rfl, rfl, HF0.out⟩
  case round =>
    clear HF0
    obtain ⟨q, i, pv, cv, hq, hiq, rfl, rfl, hfs⟩ := hrel
    have HFS := Lib.hid hfs
    have HIQ := Lib.hid hiq
    by_cases hlt : q < 5
    · have hi22 : i < 22 := by omega
      have hdi : decide ((i : Int) < 22) = true := decide_eq_true (by omega)
      have hdi2 : decide (i < 22) = true := decide_eq_true hi22
      have HW := Lib.hid (fun w' (hb : Below (w.heap.size + 1) wr w') => HBS.out.below (hfs.low.trans (hb.mono (Nat.le_succ _))))
      have hl0 : i < l.length := by rw [HLN.out]; omega
      have hl1 : i + 1 < l.length := by rw [HLN.out]; omega
      have hl2 : i + 2 < l.length := by rw [HLN.out]; omega
      have hl3 : i + 3 < l.length := by rw [HLN.out]; omega
      have hk0 : Hid (∀ w', Below (w.heap.size + 1) wr w' → w'.cell? ⟨b, o + i, none⟩ = some (.int .u8 (l[i].toNat : Int))) := fun w' hb => Bs.byte (HW.out w' hb) hl0
      have hk1 : Hid (∀ w', Below (w.heap.size + 1) wr w' → w'.cell? ⟨b, o + (i + 1), none⟩ = some (.int .u8 (l[i + 1].toNat : Int))) := fun w' hb => Bs.byte (HW.out w' hb) hl1
      have hk2 : Hid (∀ w', Below (w.heap.size + 1) wr w' → w'.cell? ⟨b, o + (i + 2), none⟩ = some (.int .u8 (l[i + 2].toNat : Int))) := fun w' hb => Bs.byte (HW.out w' hb) hl2
      have hk3 : Hid (∀ w', Below (w.heap.size + 1) wr w' → w'.cell? ⟨b, o + (i + 3), none⟩ = some (.int .u8 (l[i + 3].toNat : Int))) := fun w' hb => Bs.byte (HW.out w' hb) hl3
      have HFOUR := Lib.hid (nAt_four l q l[i] l[i + 1] l[i + 2] l[i + 3] (by rw [← hiq]; exact List.getElem?_eq_getElem hl0) (by rw [← hiq]; exact List.getElem?_eq_getElem hl1) (by rw [← hiq]; exact List.getElem?_eq_getElem hl2) (by rw [← hiq]; exact List.getElem?_eq_getElem hl3))
      generalize l[i] = x0 at *
      generalize l[i + 1] = x1 at *
      generalize l[i + 2] = x2 at *
      generalize l[i + 3] = x3 at *
      obtain ⟨i1, hi1⟩ : ∃ k, i + 1 = k := ⟨_, rfl⟩
      obtain ⟨i2, hi2⟩ : ∃ k, i + 2 = k := ⟨_, rfl⟩
      obtain ⟨i3, hi3⟩ : ∃ k, i + 3 = k := ⟨_, rfl⟩
      rw [hi1] at hk1
      rw [hi2] at hk2
      rw [hi3] at hk3
      have e1 : (i : Int) + 1 = (i1 : Int) := by omega
      have e2 : (i : Int) + 2 = (i2 : Int) := by omega
      have e3 : (i : Int) + 3 = (i3 : Int) := by omega
      have g1 : IntKind.i64.wrap (i1 : Int) = (i1 : Int) := by rw [IntKind.wrap_i64]; omega
      have g2 : IntKind.i64.wrap (i2 : Int) = (i2 : Int) := by rw [IntKind.wrap_i64]; omega
      have g3 : IntKind.i64.wrap (i3 : Int) = (i3 : Int) := by rw [IntKind.wrap_i64]; omega
      have hi22i : (i : Int) < 22 := by omega
      have f1i : (i1 : Int) < 22 := by omega
      have f2i : (i2 : Int) < 22 := by omega
      have f3i : (i3 : Int) < 22 := by omega
      have f1 : i1 < 22 := by omega
      have f2 : i2 < 22 := by omega
      have f3 : i3 < 22 := by omega
      have hws := hfs.size
      have hy0 : Below (w.heap.size + 1) wr wr.drew := (below_drew1 wr.heap.size wr).mono hfs.size
      clear hl0 hl1 hl2 hl3 hi1 hi2 hi3 hiq hfs HW
      go_upto_region 9 with fail
      refine wp_region_eager_in (Below (w.heap.size + 1) wr) [(0, true), (1, true), (2, true), (3, true), (4, true), (5, true), (6, true), (7, true), (8, true), (9, true), (10, true), (11, true), (12, true), (13, true), (14, true), (15, true), (16, true), (17, true), (18, true), (19, true), (20, true), (21, true), (22, true), (23, true), (24, true), (25, true), (26, true), (27, true), (28, true), (29, true), (30, false), (31, false), (32, true)] (by kernel_rfl) (by kernel_rfl) ?_ (eagerOpen rfl ?_)
      · exact hy0
      repeat (first
        | (first | (apply wpEager_take; (· rfl); (· (intro w' hb'; go_simp; try with_reducible rfl)); (try simp only [Act.put, List.setIfInBounds_toArray, List.set_cons_zero, List.set_cons_succ]); (try refine eagerOpen rfl ?_)) | (refine wpEager_skip (by rfl) ?_; (try simp only [Act.put, List.setIfInBounds_toArray, List.set_cons_zero, List.set_cons_succ]); (try refine eagerOpen rfl ?_)) | (refine wpEager_off (by rfl) ?_; (try simp only [Act.put, List.setIfInBounds_toArray, List.set_cons_zero, List.set_cons_succ]); (try refine eagerOpen rfl ?_)))
        | (apply wpEager_take; (· rfl); (· (intro w' hb'; have hk' := (hk0.out) w' hb'; go_split_ands; go_simp; try with_reducible rfl)); (try simp only [Act.put, List.setIfInBounds_toArray, List.set_cons_zero, List.set_cons_succ]); (try refine eagerOpen rfl ?_))
        | (apply wpEager_take; (· rfl); (· (intro w' hb'; have hk' := (hk1.out) w' hb'; go_split_ands; go_simp; try with_reducible rfl)); (try simp only [Act.put, List.setIfInBounds_toArray, List.set_cons_zero, List.set_cons_succ]); (try refine eagerOpen rfl ?_))
        | (apply wpEager_take; (· rfl); (· (intro w' hb'; have hk' := (hk2.out) w' hb'; go_split_ands; go_simp; try with_reducible rfl)); (try simp only [Act.put, List.setIfInBounds_toArray, List.set_cons_zero, List.set_cons_succ]); (try refine eagerOpen rfl ?_))
        | (apply wpEager_take; (· rfl); (· (intro w' hb'; have hk' := (hk3.out) w' hb'; go_split_ands; go_simp; try with_reducible rfl)); (try simp only [Act.put, List.setIfInBounds_toArray, List.set_cons_zero, List.set_cons_succ]); (try refine eagerOpen rfl ?_)))
      refine wpEager_op (by rfl) (fun K hK => oper_of_list rfl ?_)
      refine wpList_buildNum rfl _ rfl _ (nAt l q) rfl ?_ ?_
      · rw [HFOUR.out]
        have l0 := UInt8.toNat_lt x0
        have l1 := UInt8.toNat_lt x1
        have l2 := UInt8.toNat_lt x2
        have l3 := UInt8.toNat_lt x3
        simp only [IntKind.wrap_u32]
        omega
      have hy2 : Below (w.heap.size + 1) wr (wr.drew.alloc (.cells #[.int .u32 (nAt l q : Int)] 25)) := hy0.alloc (Nat.le_trans hws hy0.size) _
      have HSL := Lib.hid (num_made wr.drew (nAt l q))
      have HO5 : Hid ((wr.drew.alloc (.cells #[.int .u32 (nAt l q : Int)] 25)).ownsRow (w.heap.size + 1) 25 1 (.slice pv q cv) q (nvV (nsAt l q))) := own_touch HFS.out.own (Turns.of_below (S := fun _ => False) ((below_drew1 wr.heap.size wr).alloc (below_drew1 wr.heap.size wr).size _)) (fun _ _ h => h)
      refine only_end (Shut.out hK _ _ hy2 ?_)
      clear hK K
      (try simp only [Act.put, List.setIfInBounds_toArray, List.set_cons_zero, List.set_cons_succ]); (try refine eagerOpen rfl ?_)
      generalize wr.drew.alloc (.cells #[.int .u32 (nAt l q : Int)] 25) = y2 at *
      generalize wr.drew.heap.size = gn at *
      refine wpEager_op (by rfl) (fun K hK => oper_of_list rfl ?_)
      refine wpList_append_nx rfl _ _ 57 rfl (base := w.heap.size + 1) Tryd.underlying57 infoU32 rfl (by omega) rfl HO5.out rfl HSL.out (nvV_one _) ⟨by omega, by omega⟩ (Nat.le_trans hws hy2.size) ?_
      intro p' c' w5 ho5 hgr hnx _
      have hy5 : Below (w.heap.size + 1) wr w5 := hy2.trans (own_below HO5.out hgr (Nat.le_trans hws hy2.size))
      refine only_end (Shut.out hK _ _ hy5 ?_)
      clear hK K
      (try simp only [Act.put, List.setIfInBounds_toArray, List.set_cons_zero, List.set_cons_succ]); (try refine eagerOpen rfl ?_)
      repeat (first | (apply wpEager_take; (· rfl); (· (intro w' hb'; go_simp; try with_reducible rfl)); (try simp only [Act.put, List.setIfInBounds_toArray, List.set_cons_zero, List.set_cons_succ]); (try refine eagerOpen rfl ?_)) | (refine wpEager_skip (by rfl) ?_; (try simp only [Act.put, List.setIfInBounds_toArray, List.set_cons_zero, List.set_cons_succ]); (try refine eagerOpen rfl ?_)) | (refine wpEager_off (by rfl) ?_; (try simp only [Act.put, List.setIfInBounds_toArray, List.set_cons_zero, List.set_cons_succ]); (try refine eagerOpen rfl ?_)))
      refine eagerEnd ?_
      have HF5 : Hid (FS w l (q + 1) p' c' w5) := by
        refine ⟨?_, Below.keepBlock hy5 HFS.out.box (Nat.lt_succ_self _), HFS.out.low.trans (hy5.mono (Nat.le_succ _))⟩
        rw [nsAt_succ]
        unfold nvV at ho5 ⊢
        rw [List.map_append]
        exact ho5
      clear HFS HO5 HSL ho5 hgr hnx hy5 hy2 hy0 hk0 hk1 hk2 hk3 HFOUR e1 e2 e3 g1 g2 g3 f1 f2 f3 f1i f2i f3i
      go_wp2_with fail
      go_roundw
      case rel => exact ⟨q + 1, i + 4, p', c', by omega, by have := HIQ.out; omega, by go_num, rfl, HF5.out⟩
      case measure => simp [intOf]; omega
    · obtain rfl : q = 5 := by omega
      obtain rfl : i = 22 := by omega
      have hdi : decide ((22 : Int) < 22) = false := by decide
      have hns : nsAt l 5 = [nAt l 0, nAt l 1, nAt l 2, nAt l 3, nAt l 4] := rfl
      have HRF := Lib.hid (rD_fit l HLN.out)
      obtain ⟨g, cap, hv, hbg, hc5, hcm⟩ := own_some hfs.own (fun e => by cases e)
      obtain ⟨rfl, rfl⟩ : pv = some ⟨g, 0, none⟩ ∧ cv = cap := by cases hv; exact ⟨rfl, rfl⟩
      have hg := (hfs.own.lt _ rfl).2
      have hcell (j : Nat) (v : Nat) (hj : (nsAt l 5)[j]? = some v) : wr.cell? ⟨g, j, none⟩ = some (.int .u32 (v : Int)) := by
        obtain ⟨p', c', he, hs⟩ := own_sl hfs.own
        cases he
        have := hs.at (j := j) (u := .int .u32 (v : Int)) (by unfold nvV; rw [List.getElem?_map, hj]; rfl)
        rwa [Nat.zero_add] at this
      have hl0 : 0 < l.length := by rw [HLN.out]; omega
      have hl1 : 1 < l.length := by rw [HLN.out]; omega
      have hbw := HBS.out.below hfs.low
      have HRR := Lib.hid (rD_two l HLN.out l[0] l[1] (List.getElem?_eq_getElem hl0) (List.getElem?_eq_getElem hl1))
      have hk0 : Hid (∀ w', Below wr.heap.size wr w' → w'.cell? ⟨b, o, none⟩ = some (.int .u8 (l[0].toNat : Int))) := fun w' hb => Bs.byte (hbw.below hb) hl0
      have hk1 : Hid (∀ w', Below wr.heap.size wr w' → w'.cell? ⟨b, o + 1, none⟩ = some (.int .u8 (l[1].toNat : Int))) := fun w' hb => Bs.byte (hbw.below hb) hl1
      have b0 := UInt8.toNat_lt l[0]
      have b1 := UInt8.toNat_lt l[1]
      generalize l[0] = x0 at *
      generalize l[1] = x1 at *
      have hw0 : IntKind.i64.wrap (x0.toNat : Int) = (x0.toNat : Int) := by rw [IntKind.wrap_i64]; omega
      have hw1 : IntKind.i64.wrap (x1.toNat : Int) = (x1.toNat : Int) := by rw [IntKind.wrap_i64]; omega
      have HWI : Hid (∀ y, Below wr.heap.size wr y → Calls Tryd.prog 25 #[.int .i64 (x0.toNat : Int), .int .i64 (x1.toNat : Int), .slice (some ⟨g, 0, none⟩) 5 cv] y fun x w' => x = .returned (.agg (rpA (rD l 5))) ∧ Below y.heap.size y w') := fun y hb => by
        rw [HRR.out]
        exact rwith2_any _ _ ⟨0, 0, nAt l 0, nAt l 1, nAt l 2, nAt l 3, nAt l 4⟩ g cv y hc5 hcm (Nat.lt_of_lt_of_le hg hb.size) ⟨cell_below (hcell 0 _ rfl) hb, cell_below (hcell 1 _ rfl) hb, cell_below (hcell 2 _ rfl) hb, cell_below (hcell 3 _ rfl) hb, cell_below (hcell 4 _ rfl) hb⟩
      have hy0 : Below wr.heap.size wr wr.drew := below_drew1 wr.heap.size wr
      have HSZ := Lib.hid hfs.size
      clear hv hbg hcell hns HRF hg hfs hbw hl0 hl1 HRR b0 b1 hlt hq hiq HIQ
      generalize rD l 5 = RR at *
      go_upto_region 10 with fail
      refine wp_region_tree (Below wr.heap.size wr) (.take 0 (.take 1 (.take 2 (.take 3 (.take 4 (.take 5 (.take 6 (.take 7 (.take 8 (.two 9 10 (.one 10 (.one 11 .nil)) (.one 9 (.one 11 .nil)))))))))))) (by kernel_rfl) (by kernel_rfl) hy0 ?_
      repeat (apply tree_take; (· rfl); (· rfl); (· (intro w' hb'; have c0 := hk0.out w' hb'; have c1 := hk1.out w' hb'; go_simp; try with_reducible rfl)); try simp only [Act.put, List.setIfInBounds_toArray, List.set_cons_zero, List.set_cons_succ])
      refine tree_two ?_ ?_
      · refine tree_one rfl (by rfl) (fun K hK => ?_)
        go_simp
        refine (HWI.out _ hy0).mono ?_
        rintro e y ⟨rfl, hb⟩
        have hy1 := hy0.trans hb
        refine Shut.out hK _ _ hy1 ?_
        clear hK K hb
        try simp only [Act.put, List.setIfInBounds_toArray, List.set_cons_zero, List.set_cons_succ]
        refine tree_one rfl (by rfl) (fun K hK => ?_)
        go_simp
        have hy2 := hy1.alloc hy1.size (.cells zR 27)
        refine Shut.out hK _ _ hy2 ?_
        clear hK K
        try simp only [Act.put, List.setIfInBounds_toArray, List.set_cons_zero, List.set_cons_succ]
        refine tree_one rfl (by rfl) (fun K hK => oper_of_list rfl ?_)
        refine wpList_store_row rfl 27 _ _ rfl y.heap.size (rpA RR) rfl rfl 27 zR (heap_alloc_last _ _) (infoR _ rfl) rfl (rpA_one _) ?_
        have hy3 := below_setRow hy2 hy1.size (rpA RR)
        refine only_end (Shut.out hK _ _ hy3 ?_)
        clear hK K
        try simp only [Act.put, List.setIfInBounds_toArray, List.set_cons_zero, List.set_cons_succ]
        refine tree_nil ?_
        have HX := Lib.hid (setRow_heap _ _ _ (rpA RR) _ _ (heap_alloc_last y (.cells zR 27)))
        have HZX := Lib.hid (Below.keepOld hy3 HFS.out.box)
        have HBX := Lib.hid (HFS.out.low.trans (hy3.mono HFS.out.low.size))
        clear hy0 hy1 hy2 hy3 HFS HWI hk0 hk1
        generalize (y.alloc (.cells zR 27)).setRow y.heap.size (rpA RR) = WX at *
        generalize y.heap.size = gx at *
        skip
        -- world WX, block gx; HX, HBX, HZX; RR right or not
        have HRI := Lib.hid (rright_any RR WX)
        obtain ⟨bb, hbb⟩ : ∃ b, decide RR.right = b := ⟨_, rfl⟩
        rw [hbb] at HRI
        go_wp2_with (refine wpList_load_row rfl 27 _ rfl gx rfl 27 (rpA RR) (0, 0) _ HX.out Tryd.underlying27 rfl (infoR _ rfl) ?_)
        refine HRI.out.mono ?_
        rintro e y9 ⟨rfl, hb9⟩
        have HX9 := Lib.hid (Below.keepOld hb9 HX.out)
        have HZ9 := Lib.hid (Below.keepOld hb9 HZX.out)
        have HB9 := Lib.hid (HBX.out.trans (hb9.mono HBX.out.size))
        clear hb9 HX HZX HBX HRI
        cases bb with
        | false =>
          have hnr : ¬ RR.right := of_decide_eq_false hbb
          rw [if_neg hnr] at HDD
          clear hbb hnr
          go_wp2_with (first
            | refine Rdr.wpList_build rfl 27 _ rfl [] rfl _ built_r0 ?_
            | refine wpList_store_row rfl 27 _ _ rfl w.heap.size zR rfl rfl 27 zR HZ9.out (infoR _ rfl) rfl (rpA_one _) ?_)
          have HS := Lib.hid (setRow_heap _ _ _ zR _ _ HZ9.out)
          refine bodyPost_ret (results_row_tmp rfl _ _ _ _ _ _ _ rfl HS.out Tryd.underlying27 rfl (infoR _ rfl)) rfl ?_
          unfold RDecP
          rw [HDD.out]
          exact ⟨rfl, below_setRow HB9.out (Nat.le_refl _) _⟩
        | true =>
          have hnr : RR.right := of_decide_eq_true hbb
          rw [if_pos hnr] at HDD
          clear hbb hnr
          go_wp2_with (first
            | refine wpList_load_row rfl 27 _ rfl gx rfl 27 (rpA RR) (0, 0) _ HX9.out Tryd.underlying27 rfl (infoR _ rfl) ?_
            | refine wpList_store_row rfl 27 _ _ rfl w.heap.size (rpA RR) rfl rfl 27 zR HZ9.out (infoR _ rfl) rfl (rpA_one _) ?_)
          have HS := Lib.hid (setRow_heap _ _ _ (rpA RR) _ _ HZ9.out)
          refine bodyPost_ret (results_row_tmp rfl _ _ _ _ _ _ _ rfl HS.out Tryd.underlying27 rfl (infoR _ rfl)) rfl ?_
          unfold RDecP
          rw [HDD.out]
          exact ⟨rfl, below_setRow HB9.out (Nat.le_refl _) _⟩
      · refine tree_one rfl (by rfl) (fun K hK => ?_)
        go_simp
        have hy1 := hy0.alloc hy0.size (.cells zR 27)
        have HR1 : Hid ((wr.drew.alloc (.cells zR 27)).heap[wr.heap.size]? = some (.cells zR 27 (0, 0))) := heap_alloc_last wr.drew (.cells zR 27)
        refine Shut.out hK _ _ hy1 ?_
        clear hK K
        try simp only [Act.put, List.setIfInBounds_toArray, List.set_cons_zero, List.set_cons_succ]
        refine tree_one rfl (by rfl) (fun K hK => ?_)
        go_simp
        refine (HWI.out _ hy1).mono ?_
        rintro e y ⟨rfl, hb⟩
        have hy2 := hy1.trans (hb.mono hy1.size)
        have HR2 := Lib.hid (Below.keepOld hb HR1.out)
        refine Shut.out hK _ _ hy2 ?_
        clear hK K hb
        try simp only [Act.put, List.setIfInBounds_toArray, List.set_cons_zero, List.set_cons_succ]
        refine tree_one rfl (by rfl) (fun K hK => oper_of_list rfl ?_)
        refine wpList_store_row rfl 27 _ _ rfl wr.heap.size (rpA RR) rfl rfl 27 zR HR2.out (infoR _ rfl) rfl (rpA_one _) ?_
        have hy3 := below_setRow hy2 (Nat.le_refl _) (rpA RR)
        refine only_end (Shut.out hK _ _ hy3 ?_)
        clear hK K
        try simp only [Act.put, List.setIfInBounds_toArray, List.set_cons_zero, List.set_cons_succ]
        refine tree_nil ?_
        have HX := Lib.hid (setRow_heap _ _ _ (rpA RR) _ _ HR2.out)
        have HZX := Lib.hid (Below.keepOld hy3 HFS.out.box)
        have HBX := Lib.hid (HFS.out.low.trans (hy3.mono HFS.out.low.size))
        clear hy0 hy1 hy2 hy3 HFS HWI hk0 hk1 HR1 HR2
        generalize y.setRow wr.heap.size (rpA RR) = WX at *
        generalize wr.heap.size = gx at *
        skip
        -- world WX, block gx; HX, HBX, HZX; RR right or not
        have HRI := Lib.hid (rright_any RR WX)
        obtain ⟨bb, hbb⟩ : ∃ b, decide RR.right = b := ⟨_, rfl⟩
        rw [hbb] at HRI
        go_wp2_with (refine wpList_load_row rfl 27 _ rfl gx rfl 27 (rpA RR) (0, 0) _ HX.out Tryd.underlying27 rfl (infoR _ rfl) ?_)
        refine HRI.out.mono ?_
        rintro e y9 ⟨rfl, hb9⟩
        have HX9 := Lib.hid (Below.keepOld hb9 HX.out)
        have HZ9 := Lib.hid (Below.keepOld hb9 HZX.out)
        have HB9 := Lib.hid (HBX.out.trans (hb9.mono HBX.out.size))
        clear hb9 HX HZX HBX HRI
        cases bb with
        | false =>
          have hnr : ¬ RR.right := of_decide_eq_false hbb
          rw [if_neg hnr] at HDD
          clear hbb hnr
          go_wp2_with (first
            | refine Rdr.wpList_build rfl 27 _ rfl [] rfl _ built_r0 ?_
            | refine wpList_store_row rfl 27 _ _ rfl w.heap.size zR rfl rfl 27 zR HZ9.out (infoR _ rfl) rfl (rpA_one _) ?_)
          have HS := Lib.hid (setRow_heap _ _ _ zR _ _ HZ9.out)
          refine bodyPost_ret (results_row_tmp rfl _ _ _ _ _ _ _ rfl HS.out Tryd.underlying27 rfl (infoR _ rfl)) rfl ?_
          unfold RDecP
          rw [HDD.out]
          exact ⟨rfl, below_setRow HB9.out (Nat.le_refl _) _⟩
        | true =>
          have hnr : RR.right := of_decide_eq_true hbb
          rw [if_pos hnr] at HDD
          clear hbb hnr
          go_wp2_with (first
            | refine wpList_load_row rfl 27 _ rfl gx rfl 27 (rpA RR) (0, 0) _ HX9.out Tryd.underlying27 rfl (infoR _ rfl) ?_
            | refine wpList_store_row rfl 27 _ _ rfl w.heap.size (rpA RR) rfl rfl 27 zR HZ9.out (infoR _ rfl) rfl (rpA_one _) ?_)
          have HS := Lib.hid (setRow_heap _ _ _ (rpA RR) _ _ HZ9.out)
          refine bodyPost_ret (results_row_tmp rfl _ _ _ _ _ _ _ rfl HS.out Tryd.underlying27 rfl (infoR _ rfl)) rfl ?_
          unfold RDecP
          rw [HDD.out]
          exact ⟨rfl, below_setRow HB9.out (Nat.le_refl _) _⟩
end Go.Proofs.YtmphajilnkgcaaaDoor.Rpl

namespace Go.Proofs.YtmphajilnkgcaaaDoor.Rpl
open Go.RowKit Go.Mir Go.Mir.Hx Go.Mir.Parts Rdr

theorem rD_wf (l : List UInt8) : (rD l 5).wf := by
  intro n hn
  have h (i : Nat) := nD_lt l i
  simp only [RP.nums, rD, mkR, numsD, List.mem_cons, List.not_mem_nil, or_false] at hn
  rcases hn with rfl | rfl | rfl | rfl | rfl
  · exact h 0
  · exact h 1
  · exact h 2
  · exact h 3
  · exact h 4
set_option maxRecDepth 100000 in
set_option maxHeartbeats 3200000 in
theorem law_reads (p : Option Addr) (n c : Nat) (l : List UInt8) (w : World) (hm : MaxL w) (hE : EType w) (hB : Bs w p n c l) :
    Calls Tryd.prog 5 #[.slice p n c] w fun e w' => e = .returned (.bool true) ∧ Below w.heap.size w w' := by
  have hz := zeroR
  have HM := Lib.hid hm
  have hle := hB.le
  have hmax := hB.max
  have HLN := Lib.hid hB.length
  have HBS := Lib.hid hB
  by_cases hl : 200 < n
  · have d1 : decide ((200 : Int) < (n : Int)) = true := decide_eq_true (by omega)
    have d2 : decide (200 < n) = true := decide_eq_true hl
    clear hm hz hE hB
    go_enter Tryd.func5, Tryd.ntmps5
    go_wp2_with fail
    refine (alive15_any w HM.out).mono ?_
    rintro e w1 ⟨rfl, hb⟩
    go_wp2_with fail
    go_ret
    exact ⟨rfl, hb⟩
  have d1 : decide ((200 : Int) < (n : Int)) = false := decide_eq_false (by omega)
  have d2 : decide (200 < n) = false := decide_eq_false hl
  have hp := decode_any w p n c l hB hE (by omega)
  have hrp := fun w' (hb : Below w.heap.size w w') => rdecode_any w' p n c l (hB.below hb)
  unfold DecP at hp
  unfold RDecP at hrp
  have HDD : Hid (decD l = if l.length < 22 then (RP.zero, 2) else if 22 < l.length then (RP.zero, 3) else if (rD l 5).right then (rD l 5, 0) else (RP.zero, 4)) := rfl
  clear hm hE hB hl
  by_cases hl1 : l.length < 22
  · rw [if_pos hl1] at HDD
    simp only [HDD.out] at hp hrp
    skip
    have HP := Lib.hid hp
    have HRP := Lib.hid hrp
    clear hp hrp hl1 HDD
    skip
    go_enter Tryd.func5, Tryd.ntmps5
    go_wp2_with fail
    refine HP.out.mono ?_
    rintro e w1 ⟨rfl, hb1⟩
    have hal := below_setRow (Below.allocs w1 (.cells zR 27)) (Nat.le_refl _) (rpA RP.zero)
    have HB2 := Lib.hid (hb1.trans (hal.mono hb1.size))
    have HRX := Lib.hid (setRow_heap _ _ _ (rpA RP.zero) _ _ (heap_alloc_last w1 (.cells zR 27)))
    clear hb1 hal HP
    go_upto_region 4 with (refine wpList_store_row rfl 27 _ _ rfl w1.heap.size (rpA RP.zero) rfl rfl 27 zR (heap_alloc_last _ _) (infoR _ rfl) rfl (rpA_one _) ?_)
    try simp only [Act.put, List.setIfInBounds_toArray, List.set_cons_zero, List.set_cons_succ]
    generalize (w1.alloc (.cells zR 27)).setRow w1.heap.size (rpA RP.zero) = w2 at *
    generalize w1.heap.size = g1 at *
    go_wp2_with fail
    refine (HRP.out w2 HB2.out).mono ?_
    rintro e w3 ⟨rfl, hb3⟩
    have hal := below_setRow (Below.allocs w3 (.cells zR 27)) (Nat.le_refl _) (rpA RP.zero)
    have hal2 : Below w3.heap.size w3 ((w3.alloc (.cells zR 27)).setRow w3.heap.size (rpA RP.zero)) := hal
    have HB4 := Lib.hid (HB2.out.trans ((hb3.trans (hal.mono hb3.size)).mono HB2.out.size))
    have HRX4 := Lib.hid (Below.keepOld hal2 (Below.keepOld hb3 HRX.out))
    have HRY := Lib.hid (setRow_heap _ _ _ (rpA RP.zero) _ _ (heap_alloc_last w3 (.cells zR 27)))
    clear hb3 hal hal2 HRP HRX HB2
    go_upto_region 5 with (refine wpList_store_row rfl 27 _ _ rfl w3.heap.size (rpA RP.zero) rfl rfl 27 zR (heap_alloc_last _ _) (infoR _ rfl) rfl (rpA_one _) ?_)
    try simp only [Act.put, List.setIfInBounds_toArray, List.set_cons_zero, List.set_cons_succ]
    generalize (w3.alloc (.cells zR 27)).setRow w3.heap.size (rpA RP.zero) = w4 at *
    generalize w3.heap.size = g3 at *
    unfold rpA RP.zero at HRX4 HRY
    dsimp only at HRX4 HRY
    go_wp2_with (first
      | refine wpList_load_row rfl 27 _ rfl g1 rfl 27 _ (0, 0) _ HRX4.out Tryd.underlying27 rfl (infoR _ rfl) ?_
      | refine wpList_load_row rfl 27 _ rfl g3 rfl 27 _ (0, 0) _ HRY.out Tryd.underlying27 rfl (infoR _ rfl) ?_
      | refine Rdr.wpList_build rfl 27 _ rfl [] rfl #[.int .i64 0, .int .i64 0, .int .u32 0, .int .u32 0, .int .u32 0, .int .u32 0, .int .u32 0] built_r0 ?_)
    refine (alive15_any w4 (HM.out.below HB4.out)).mono ?_
    rintro e w6 ⟨rfl, hb⟩
    go_wp2_with fail
    go_ret
    exact ⟨rfl, HB4.out.trans (hb.mono HB4.out.size)⟩
  rw [if_neg hl1] at HDD
  by_cases hl2 : 22 < l.length
  · rw [if_pos hl2] at HDD
    simp only [HDD.out] at hp hrp
    skip
    have HP := Lib.hid hp
    have HRP := Lib.hid hrp
    clear hp hrp hl1 HDD
    skip
    go_enter Tryd.func5, Tryd.ntmps5
    go_wp2_with fail
    refine HP.out.mono ?_
    rintro e w1 ⟨rfl, hb1⟩
    have hal := below_setRow (Below.allocs w1 (.cells zR 27)) (Nat.le_refl _) (rpA RP.zero)
    have HB2 := Lib.hid (hb1.trans (hal.mono hb1.size))
    have HRX := Lib.hid (setRow_heap _ _ _ (rpA RP.zero) _ _ (heap_alloc_last w1 (.cells zR 27)))
    clear hb1 hal HP
    go_upto_region 4 with (refine wpList_store_row rfl 27 _ _ rfl w1.heap.size (rpA RP.zero) rfl rfl 27 zR (heap_alloc_last _ _) (infoR _ rfl) rfl (rpA_one _) ?_)
    try simp only [Act.put, List.setIfInBounds_toArray, List.set_cons_zero, List.set_cons_succ]
    generalize (w1.alloc (.cells zR 27)).setRow w1.heap.size (rpA RP.zero) = w2 at *
    generalize w1.heap.size = g1 at *
    go_wp2_with fail
    refine (HRP.out w2 HB2.out).mono ?_
    rintro e w3 ⟨rfl, hb3⟩
    have hal := below_setRow (Below.allocs w3 (.cells zR 27)) (Nat.le_refl _) (rpA RP.zero)
    have hal2 : Below w3.heap.size w3 ((w3.alloc (.cells zR 27)).setRow w3.heap.size (rpA RP.zero)) := hal
    have HB4 := Lib.hid (HB2.out.trans ((hb3.trans (hal.mono hb3.size)).mono HB2.out.size))
    have HRX4 := Lib.hid (Below.keepOld hal2 (Below.keepOld hb3 HRX.out))
    have HRY := Lib.hid (setRow_heap _ _ _ (rpA RP.zero) _ _ (heap_alloc_last w3 (.cells zR 27)))
    clear hb3 hal hal2 HRP HRX HB2
    go_upto_region 5 with (refine wpList_store_row rfl 27 _ _ rfl w3.heap.size (rpA RP.zero) rfl rfl 27 zR (heap_alloc_last _ _) (infoR _ rfl) rfl (rpA_one _) ?_)
    try simp only [Act.put, List.setIfInBounds_toArray, List.set_cons_zero, List.set_cons_succ]
    generalize (w3.alloc (.cells zR 27)).setRow w3.heap.size (rpA RP.zero) = w4 at *
    generalize w3.heap.size = g3 at *
    unfold rpA RP.zero at HRX4 HRY
    dsimp only at HRX4 HRY
    go_wp2_with (first
      | refine wpList_load_row rfl 27 _ rfl g1 rfl 27 _ (0, 0) _ HRX4.out Tryd.underlying27 rfl (infoR _ rfl) ?_
      | refine wpList_load_row rfl 27 _ rfl g3 rfl 27 _ (0, 0) _ HRY.out Tryd.underlying27 rfl (infoR _ rfl) ?_
      | refine Rdr.wpList_build rfl 27 _ rfl [] rfl #[.int .i64 0, .int .i64 0, .int .u32 0, .int .u32 0, .int .u32 0, .int .u32 0, .int .u32 0] built_r0 ?_)
    refine (alive15_any w4 (HM.out.below HB4.out)).mono ?_
    rintro e w6 ⟨rfl, hb⟩
    go_wp2_with fail
    go_ret
    exact ⟨rfl, HB4.out.trans (hb.mono HB4.out.size)⟩
  rw [if_neg hl2] at HDD
  by_cases hl3 : (rD l 5).right
  rotate_left
  · rw [if_neg hl3] at HDD
    simp only [HDD.out] at hp hrp
    skip
    have HP := Lib.hid hp
    have HRP := Lib.hid hrp
    clear hp hrp hl1 HDD
    skip
    go_enter Tryd.func5, Tryd.ntmps5
    go_wp2_with fail
    refine HP.out.mono ?_
    rintro e w1 ⟨rfl, hb1⟩
    have hal := below_setRow (Below.allocs w1 (.cells zR 27)) (Nat.le_refl _) (rpA RP.zero)
    have HB2 := Lib.hid (hb1.trans (hal.mono hb1.size))
    have HRX := Lib.hid (setRow_heap _ _ _ (rpA RP.zero) _ _ (heap_alloc_last w1 (.cells zR 27)))
    clear hb1 hal HP
    go_upto_region 4 with (refine wpList_store_row rfl 27 _ _ rfl w1.heap.size (rpA RP.zero) rfl rfl 27 zR (heap_alloc_last _ _) (infoR _ rfl) rfl (rpA_one _) ?_)
    try simp only [Act.put, List.setIfInBounds_toArray, List.set_cons_zero, List.set_cons_succ]
    generalize (w1.alloc (.cells zR 27)).setRow w1.heap.size (rpA RP.zero) = w2 at *
    generalize w1.heap.size = g1 at *
    go_wp2_with fail
    refine (HRP.out w2 HB2.out).mono ?_
    rintro e w3 ⟨rfl, hb3⟩
    have hal := below_setRow (Below.allocs w3 (.cells zR 27)) (Nat.le_refl _) (rpA RP.zero)
    have hal2 : Below w3.heap.size w3 ((w3.alloc (.cells zR 27)).setRow w3.heap.size (rpA RP.zero)) := hal
    have HB4 := Lib.hid (HB2.out.trans ((hb3.trans (hal.mono hb3.size)).mono HB2.out.size))
    have HRX4 := Lib.hid (Below.keepOld hal2 (Below.keepOld hb3 HRX.out))
    have HRY := Lib.hid (setRow_heap _ _ _ (rpA RP.zero) _ _ (heap_alloc_last w3 (.cells zR 27)))
    clear hb3 hal hal2 HRP HRX HB2
    go_upto_region 5 with (refine wpList_store_row rfl 27 _ _ rfl w3.heap.size (rpA RP.zero) rfl rfl 27 zR (heap_alloc_last _ _) (infoR _ rfl) rfl (rpA_one _) ?_)
    try simp only [Act.put, List.setIfInBounds_toArray, List.set_cons_zero, List.set_cons_succ]
    generalize (w3.alloc (.cells zR 27)).setRow w3.heap.size (rpA RP.zero) = w4 at *
    generalize w3.heap.size = g3 at *
    unfold rpA RP.zero at HRX4 HRY
    dsimp only at HRX4 HRY
    go_wp2_with (first
      | refine wpList_load_row rfl 27 _ rfl g1 rfl 27 _ (0, 0) _ HRX4.out Tryd.underlying27 rfl (infoR _ rfl) ?_
      | refine wpList_load_row rfl 27 _ rfl g3 rfl 27 _ (0, 0) _ HRY.out Tryd.underlying27 rfl (infoR _ rfl) ?_
      | refine Rdr.wpList_build rfl 27 _ rfl [] rfl #[.int .i64 0, .int .i64 0, .int .u32 0, .int .u32 0, .int .u32 0, .int .u32 0, .int .u32 0] built_r0 ?_)
    refine (alive15_any w4 (HM.out.below HB4.out)).mono ?_
    rintro e w6 ⟨rfl, hb⟩
    go_wp2_with fail
    go_ret
    exact ⟨rfl, HB4.out.trans (hb.mono HB4.out.size)⟩
  rw [if_pos hl3] at HDD
  simp only [HDD.out] at hp hrp
  have HEN : Hid (encD (rD l 5) = l) := enc_rD l (by omega)
  have HEC := Lib.hid (fun w => encode_any (rD l 5) w hl3 (rD_wf l))
  unfold EncP at HEC
  rw [HEN.out] at HEC
  have HP := Lib.hid hp
  have HRP := Lib.hid hrp
  clear hp hrp hl1 hl2 hl3 HDD HEN
  generalize rD l 5 = RR at *
  obtain ⟨kind, err, se, sq, qu, us, ex⟩ := RR
  skip
  go_enter Tryd.func5, Tryd.ntmps5
  go_wp2_with fail
  refine HP.out.mono ?_
  rintro e w1 ⟨rfl, hb1⟩
  have hal := below_setRow (Below.allocs w1 (.cells zR 27)) (Nat.le_refl _) (rpA (⟨kind, err, se, sq, qu, us, ex⟩ : RP))
  have HB2 := Lib.hid (hb1.trans (hal.mono hb1.size))
  have HRX := Lib.hid (setRow_heap _ _ _ (rpA (⟨kind, err, se, sq, qu, us, ex⟩ : RP)) _ _ (heap_alloc_last w1 (.cells zR 27)))
  clear hb1 hal HP
  go_upto_region 4 with (refine wpList_store_row rfl 27 _ _ rfl w1.heap.size (rpA (⟨kind, err, se, sq, qu, us, ex⟩ : RP)) rfl rfl 27 zR (heap_alloc_last _ _) (infoR _ rfl) rfl (rpA_one _) ?_)
  try simp only [Act.put, List.setIfInBounds_toArray, List.set_cons_zero, List.set_cons_succ]
  generalize (w1.alloc (.cells zR 27)).setRow w1.heap.size (rpA (⟨kind, err, se, sq, qu, us, ex⟩ : RP)) = w2 at *
  generalize w1.heap.size = g1 at *
  go_wp2_with fail
  refine (HRP.out w2 HB2.out).mono ?_
  rintro e w3 ⟨rfl, hb3⟩
  have hal := below_setRow (Below.allocs w3 (.cells zR 27)) (Nat.le_refl _) (rpA (⟨kind, err, se, sq, qu, us, ex⟩ : RP))
  have hal2 : Below w3.heap.size w3 ((w3.alloc (.cells zR 27)).setRow w3.heap.size (rpA (⟨kind, err, se, sq, qu, us, ex⟩ : RP))) := hal
  have HB4 := Lib.hid (HB2.out.trans ((hb3.trans (hal.mono hb3.size)).mono HB2.out.size))
  have HRX4 := Lib.hid (Below.keepOld hal2 (Below.keepOld hb3 HRX.out))
  have HRY := Lib.hid (setRow_heap _ _ _ (rpA (⟨kind, err, se, sq, qu, us, ex⟩ : RP)) _ _ (heap_alloc_last w3 (.cells zR 27)))
  clear hb3 hal hal2 HRP HRX HB2
  go_upto_region 5 with (refine wpList_store_row rfl 27 _ _ rfl w3.heap.size (rpA (⟨kind, err, se, sq, qu, us, ex⟩ : RP)) rfl rfl 27 zR (heap_alloc_last _ _) (infoR _ rfl) rfl (rpA_one _) ?_)
  try simp only [Act.put, List.setIfInBounds_toArray, List.set_cons_zero, List.set_cons_succ]
  generalize (w3.alloc (.cells zR 27)).setRow w3.heap.size (rpA (⟨kind, err, se, sq, qu, us, ex⟩ : RP)) = w4 at *
  generalize w3.heap.size = g3 at *
  unfold rpA at HRX4 HRY
  dsimp only at HRX4 HRY
  go_wp2_with (first
    | refine wpList_load_row rfl 27 _ rfl g1 rfl 27 _ (0, 0) _ HRX4.out Tryd.underlying27 rfl (infoR _ rfl) ?_
    | refine wpList_load_row rfl 27 _ rfl g3 rfl 27 _ (0, 0) _ HRY.out Tryd.underlying27 rfl (infoR _ rfl) ?_)
  refine (HEC.out w4).mono ?_
  rintro e w5 ⟨q, d, rfl, hs, hb⟩
  have hc1 := Cut.bconv hs
  have HB5 := Lib.hid (HB4.out.trans (hb.mono HB4.out.size))
  have hc2 := Cut.bconv (HBS.out.below HB5.out)
  rw [HLN.out] at hc1
  rw [HLN.out]
  clear hs hb HEC HB4 HRX4 HRY
  go_wp2_with fail
  refine (alive15_any w5 (HM.out.below HB5.out)).mono ?_
  rintro e w6 ⟨rfl, hb⟩
  go_wp2_with fail
  go_ret
  exact ⟨rfl, HB5.out.trans (hb.mono HB5.out.size)⟩
end Go.Proofs.YtmphajilnkgcaaaDoor.Rpl
