/- PARTS, JOINED: SCRIPTS: Line. Conditions: at most 100000 bytes, and ids. SCRIPTS: words as ids, and as numbers; a word's kind. Conditions: words that fit. SCRIPTS: the document's: a word's kind, keep, words as numbers. Conditions: words that fit. SCRIPTS: words as numbers, stored through pointers. Conditions: words that fit. SCRIPTS: the readers, in a map. Conditions: none. A REGION THAT DRAWS ITS ORDER, WALKED BY A TREE: what reads only what stood at its start is taken at once; where two operations may come next, both ways are walked. No program is named. Conditions: none. -/
import Derived.Test.YtcddgbobbogpgaaDoorSa1
import Derived.Test.YtcddgbobbogpgaaDoorSa2
import Derived.Test.YtcddgbobbogpgaaDoorSa3
import Derived.Test.YtcddgbobbogpgaaDoorSa4
import Derived.WideMake
namespace Go.Proofs.YtcddgbobbogpgaaDoor.Scr
open Go.RowKit Go.Mir Go.Mir.Hx Go.Mir.Parts HexW Rpl
open Go.Lib (join)

theorem wpList_buildStr {ops : Array Oper} {rest : List Oper} {o : Oper} {a : Act} {w : World} {Q : Exit → Act → World → Prop} (hg : o.guard = none) (x : Operand) (ho : o.op = .buildSlice 65 1 #[(0, x)]) (s : List UInt8) (hx : a.eval x = .string (S s))
    (h : wpList Tryd.prog ops Q rest (a.put o.dst (.slice (some ⟨w.heap.size, 0, none⟩) 1 1)) (w.alloc (.cells #[.string (S s)] 9))) : wpList Tryd.prog ops Q (o :: rest) a w := by
  obtain ⟨i, hi, hiv⟩ := Option.map_eq_some_iff.1 infoStr
  obtain ⟨h1, h2, _⟩ := (by simpa using hiv : i.zero = some (.string ⟨#[]⟩) ∧ i.size = 1 ∧ i.bytes = 16)
  refine wpList_buildSlice hg 65 9 1 _ ho _ i _ Tryd.underlying65 hi h1 (by rw [h2]; omega) (by rw [h2]; omega) ?_ h
  have : (#[(0, x)].map fun (p : Nat × Operand) => (p.1, a.eval p.2)).toList = [(0, .string (S s))] := by simp [hx]
  rw [this, h2, show Array.map (fun x => (Value.string ⟨#[]⟩).cells[x % (Value.string ⟨#[]⟩).cells.size]!) (Array.range (1 * 1)) = #[.string ⟨#[]⟩] from by kernel_rfl]
  simp [Instr.fill, Value.cells]
theorem own_str (w : World) (base : Nat) (s : List UInt8) (hb : base ≤ w.heap.size) : (w.alloc (.cells #[.string (S s)] 9)).ownsRow base 9 1 (.slice (some ⟨w.heap.size, 0, none⟩) 1 1) 1 (strV [s]) :=
  ⟨rfl, .inr ⟨w.heap.size, 1, _, rfl, hb, heap_alloc_last _ _, Nat.le_refl _, by simp [maxLen], rfl, rfl⟩⟩
theorem idx1 (w0 : World) : (Instr.index 63 (.agg (strV K6).toArray) (.int .i64 1)).run Tryd.prog w0 = .ok (.string (S (K6.getD 1 []))) w0 := by kernel_rfl
theorem idx2 (w0 : World) : (Instr.index 63 (.agg (strV K6).toArray) (.int .i64 2)).run Tryd.prog w0 = .ok (.string (S (K6.getD 2 []))) w0 := by kernel_rfl
theorem idx3 (w0 : World) : (Instr.index 63 (.agg (strV K6).toArray) (.int .i64 3)).run Tryd.prog w0 = .ok (.string (S (K6.getD 3 []))) w0 := by kernel_rfl
theorem idx4 (w0 : World) : (Instr.index 63 (.agg (strV K6).toArray) (.int .i64 4)).run Tryd.prog w0 = .ok (.string (S (K6.getD 4 []))) w0 := by kernel_rfl
theorem idx5 (w0 : World) : (Instr.index 63 (.agg (strV K6).toArray) (.int .i64 5)).run Tryd.prog w0 = .ok (.string (S (K6.getD 5 []))) w0 := by kernel_rfl
theorem idx6 (w0 : World) : (Instr.index 63 (.agg (strV K6).toArray) (.int .i64 6)).run Tryd.prog w0 = .ok (.string (S (K6.getD 6 []))) w0 := by kernel_rfl
theorem idx_name (k : Int) (h : 1 ≤ k ∧ k ≤ 6) : ∀ w0, (Instr.index 63 (.agg (strV K6).toArray) (.int .i64 k)).run Tryd.prog w0 = .ok (.string (S (K6.getD k.toNat []))) w0 := fun w0 => by
  have hc : k = 1 ∨ k = 2 ∨ k = 3 ∨ k = 4 ∨ k = 5 ∨ k = 6 := by omega
  rcases hc with rfl | rfl | rfl | rfl | rfl | rfl
  · exact idx1 w0
  · exact idx2 w0
  · exact idx3 w0
  · exact idx4 w0
  · exact idx5 w0
  · exact idx6 w0
theorem idT_len (x : List UInt8) (h : x.length = 32) : (idText x).length ≤ 64 := by
  unfold idText; rw [pairsL_length, List.length_take]; omega
theorem textT_len (b : List UInt8) : (textL b).length ≤ 2 * b.length + 1 := by
  unfold textL
  split
  · show 1 ≤ _; omega
  · rw [pairsL_length]; omega
theorem k6_short (i : Nat) : (K6.getD i []).length ≤ 20 := by
  have h1 : ∀ x ∈ K6, x.length ≤ 20 := by decide
  by_cases h : i < K6.length
  · rw [List.getD_eq_getElem?_getD, List.getElem?_eq_getElem h]
    exact h1 _ (List.getElem_mem h)
  · rw [List.getD_eq_getElem?_getD, List.getElem?_eq_none (by omega)]; decide
theorem words_short {e : Ev} (hg : Good e) (hw : e.Wf) (hb : e.b.length ≤ 100000) : ∀ x ∈ wordsE e, x.length ≤ 200001 := fun x hx => by
  rcases List.mem_cons.1 hx with rfl | hx
  · have := k6_short e.k.toNat; omega
  · unfold restE at hx
    split at hx
    · rw [List.mem_singleton] at hx; rw [hx]; have := textT_len e.b; omega
    · split at hx
      · rcases List.mem_cons.1 hx with rfl | hx
        · have := idT_len _ hw.h; omega
        · rcases List.mem_cons.1 hx with rfl | hx
          · have := idT_len _ hw.p; omega
          · obtain ⟨y, hy, rfl⟩ := List.mem_map.1 hx
            have := idT_len _ (hw.tx y hy); omega
      · split at hx
        · rename_i h56
          obtain ⟨y, hy, rfl⟩ := List.mem_map.1 hx
          have h1 := hg.2.2 h56 y hy
          unfold okN at h1
          have := dec_len y.toNat (by omega); omega
        · rw [List.mem_singleton] at hx; rw [hx]; have := idT_len _ hw.id; omega
theorem rest_len (e : Ev) : (restE e).length ≤ e.tx.length + 4 := by
  unfold restE
  split
  · show 1 ≤ _; omega
  · split
    · simp only [List.length_cons, List.length_map]; omega
    · split
      · rw [List.length_map]; unfold numsE; split
        · show 1 ≤ _; omega
        · show 4 ≤ _; omega
      · show 1 ≤ _; omega
/-! ### ids, one behind the other -/
theorem infoIds : (Tryd.prog.info? 25).map (fun i => (i.zero, i.size, i.bytes)) = some (some (.agg Z32), 32, 32) := by kernel_rfl
theorem fill_v (a0 a1 a2 a3 a4 a5 a6 a7 a8 a9 a10 a11 a12 a13 a14 a15 a16 a17 a18 a19 a20 a21 a22 a23 a24 a25 a26 a27 a28 a29 a30 a31 b0 b1 b2 b3 b4 b5 b6 b7 b8 b9 b10 b11 b12 b13 b14 b15 b16 b17 b18 b19 b20 b21 b22 b23 b24 b25 b26 b27 b28 b29 b30 b31 : Value) : Instr.fill (fun i => some (i * 32, 32)) (Array.map (fun x => (Value.agg Z32).cells[x % (Value.agg Z32).cells.size]!) (Array.range (2 * 32))) [(0, .agg [a0, a1, a2, a3, a4, a5, a6, a7, a8, a9, a10, a11, a12, a13, a14, a15, a16, a17, a18, a19, a20, a21, a22, a23, a24, a25, a26, a27, a28, a29, a30, a31].toArray), (1, .agg [b0, b1, b2, b3, b4, b5, b6, b7, b8, b9, b10, b11, b12, b13, b14, b15, b16, b17, b18, b19, b20, b21, b22, b23, b24, b25, b26, b27, b28, b29, b30, b31].toArray)] = some ([a0, a1, a2, a3, a4, a5, a6, a7, a8, a9, a10, a11, a12, a13, a14, a15, a16, a17, a18, a19, a20, a21, a22, a23, a24, a25, a26, a27, a28, a29, a30, a31] ++ [b0, b1, b2, b3, b4, b5, b6, b7, b8, b9, b10, b11, b12, b13, b14, b15, b16, b17, b18, b19, b20, b21, b22, b23, b24, b25, b26, b27, b28, b29, b30, b31]).toArray := by kernel_rfl
theorem fill_l (a b : List Value) (ha : a.length = 32) (hb : b.length = 32) : Instr.fill (fun i => some (i * 32, 32)) (Array.map (fun x => (Value.agg Z32).cells[x % (Value.agg Z32).cells.size]!) (Array.range (2 * 32))) [(0, .agg a.toArray), (1, .agg b.toArray)] = some (a ++ b).toArray :=
  match a, ha, b, hb with
  | [a0, a1, a2, a3, a4, a5, a6, a7, a8, a9, a10, a11, a12, a13, a14, a15, a16, a17, a18, a19, a20, a21, a22, a23, a24, a25, a26, a27, a28, a29, a30, a31], _, [b0, b1, b2, b3, b4, b5, b6, b7, b8, b9, b10, b11, b12, b13, b14, b15, b16, b17, b18, b19, b20, b21, b22, b23, b24, b25, b26, b27, b28, b29, b30, b31], _ => fill_v a0 a1 a2 a3 a4 a5 a6 a7 a8 a9 a10 a11 a12 a13 a14 a15 a16 a17 a18 a19 a20 a21 a22 a23 a24 a25 a26 a27 a28 a29 a30 a31 b0 b1 b2 b3 b4 b5 b6 b7 b8 b9 b10 b11 b12 b13 b14 b15 b16 b17 b18 b19 b20 b21 b22 b23 b24 b25 b26 b27 b28 b29 b30 b31
theorem wpList_buildIds {ops : Array Oper} {rest : List Oper} {o : Oper} {a : Act} {w : World} {Q : Exit → Act → World → Prop} (hg : o.guard = none) (x y : Operand) (ho : o.op = .buildSlice 26 2 #[(0, x), (1, y)]) (s t : List UInt8) (hs : s.length = 32) (ht : t.length = 32) (hx : a.eval x = .agg (idA s)) (hy : a.eval y = .agg (idA t))
    (h : wpList Tryd.prog ops Q rest (a.put o.dst (.slice (some ⟨w.heap.size, 0, none⟩) 2 2)) (w.alloc (.cells (bytesV s ++ bytesV t).toArray 25))) : wpList Tryd.prog ops Q (o :: rest) a w := by
  obtain ⟨i, hi, hiv⟩ := Option.map_eq_some_iff.1 infoIds
  have e1 : i.zero = some (.agg Z32) := congrArg Prod.fst hiv
  have e2 : i.size = 32 := congrArg (fun z => z.2.1) hiv
  refine wpList_buildSlice hg 26 25 2 _ ho _ i _ Tryd.underlying26 hi e1 (by rw [e2]; omega) (by rw [e2]; omega) ?_ h
  have : (#[(0, x), (1, y)].map fun (p : Nat × Operand) => (p.1, a.eval p.2)).toList = [(0, .agg (idA s)), (1, .agg (idA t))] := by simp [hx, hy]
  rw [this, e2]
  exact fill_l (bytesV s) (bytesV t) (by rw [bytesV_length, hs]) (by rw [bytesV_length, ht])
theorem own_ids (w : World) (base : Nat) (s t : List UInt8) (hs : s.length = 32) (ht : t.length = 32) (hb : base ≤ w.heap.size) : (w.alloc (.cells (bytesV s ++ bytesV t).toArray 25)).ownsRow base 25 32 (.slice (some ⟨w.heap.size, 0, none⟩) 2 2) 2 ([s, t].flatMap bytesV) :=
  ⟨by simp [bytesV_length, hs, ht], .inr ⟨w.heap.size, 2, _, rfl, hb, heap_alloc_last _ _, Nat.le_refl _, by simp [maxLen], by simp [bytesV_length, hs, ht], by
    show List.take _ (bytesV s ++ bytesV t) = _
    rw [List.take_of_length_le (by simp [bytesV_length, hs, ht])]
    simp⟩⟩
theorem flat_one (l : List (List UInt8)) : ∀ u ∈ l.flatMap bytesV, u.oneCell' = true := fun u hu => by
  obtain ⟨x, _, hx⟩ := List.mem_flatMap.1 hu
  exact bytesV_one _ u hx
def LineP (e : Ev) (w : World) (x : Ending) (w' : World) : Prop := x = .returned (.tuple #[.string (S (lineE e)), .bool (decide (Good e))]) ∧ Below w.heap.size w w'
theorem line_bad {e : Ev} (h : ¬ Good e) : lineE e = [] ∧ decide (Good e) = false := ⟨if_neg h, decide_eq_false h⟩
theorem line_good {e : Ev} (h : Good e) : lineE e = join (wordsE e) [32] ∧ decide (Good e) = true := ⟨if_pos h, decide_eq_true h⟩
set_option maxRecDepth 100000 in
set_option maxHeartbeats 6400000 in
theorem line_any (e : Ev) (pb : Option Addr) (cb : Nat) (q : Option Addr) (c : Nat) (w : World) (h : EvAt w e pb cb q c) (hby : e.b.length ≤ 100000) (htx : e.tx.length ≤ 100000) :
    Calls Tryd.prog 7 #[.agg (evA e pb cb q c)] w (LineP e w) := by
  have hal := Below.allocs w (.cells (evA e pb cb q c) 31)
  have hr := heap_alloc_last w (.cells (evA e pb cb q c) 31)
  have HB1 := Lib.hid hal
  have HWF := Lib.hid h.wf
  have HAT := Lib.hid (h.below hal)
  have HBY := Lib.hid hby
  have HTX := Lib.hid htx
  obtain ⟨A, hA⟩ : ∃ A, A = evA e pb cb q c := ⟨_, rfl⟩
  have HAS : Hid (A.size = 103) := by show _ = _; rw [hA]; exact evA_size h.wf pb cb q c
  have HAE := Lib.hid hA
  rw [← hA] at hr HB1 HAT ⊢
  have HR1 := Lib.hid hr
  have hrow := hr
  rw [hA] at hrow
  have hk := (ev_row h.wf (by rw [hA] at hr; exact hr)).k
  rw [← hA] at hk
  clear h hal hr hA hby htx hrow
  by_cases k1 : e.k < 1
  · have d1 : decide (e.k < 1) = true := decide_eq_true k1
    have HBAD : Hid (¬ Good e) := fun hg => by have := hg.1.1; omega
    clear k1
    go_enter Tryd.func7, Tryd.ntmps7
    go_upto_region 1 with fail
    generalize w.alloc (.cells A 31) = w1 at *
    have HK1 : Hid (∀ w', Below w1.heap.size w1 w' → w'.cell? ⟨w.heap.size, 0, none⟩ = some (.int .i64 e.k)) := fun w' hb => cell_below hk hb
    refine wp_region_eager [(0, true), (1, true), (2, true), (3, true), (4, true), (5, true), (6, true), (7, true), (8, true), (9, true), (10, true), (11, true), (12, true), (13, true), (14, true)] (by kernel_rfl) (by kernel_rfl) (eagerOpen rfl ?_)
    have hy0 : Below w1.heap.size w1 w1.drew := below_drew1 _ _
    repeat (first
      | (first | (apply wpEager_take; (· rfl); (· (intro w' hb'; go_simp; try with_reducible rfl)); (try simp only [Act.put, List.setIfInBounds_toArray, List.set_cons_zero, List.set_cons_succ]); (try refine eagerOpen rfl ?_)) | (refine wpEager_skip (by rfl) ?_; (try simp only [Act.put, List.setIfInBounds_toArray, List.set_cons_zero, List.set_cons_succ]); (try refine eagerOpen rfl ?_)) | (refine wpEager_off (by rfl) ?_; (try simp only [Act.put, List.setIfInBounds_toArray, List.set_cons_zero, List.set_cons_succ]); (try refine eagerOpen rfl ?_)))
      | (apply wpEager_take; (· rfl); (· (intro w' hb'; have hk' := (HK1.out) w' hb'; go_split_ands; go_simp; try with_reducible rfl)); (try simp only [Act.put, List.setIfInBounds_toArray, List.set_cons_zero, List.set_cons_succ]); (try refine eagerOpen rfl ?_)))
    refine eagerEnd ?_
    have HBX := Lib.hid (HB1.out.trans (hy0.mono HB1.out.size))
    clear hy0 hk
    go_wp2_with fail
    skip
    -- no line is told: HBX : Below w.heap.size w WX; HBAD : Hid (¬ Good e)
    go_ret2
    obtain ⟨f1, f2⟩ := line_bad HBAD.out
    unfold LineP
    rw [f1, f2]
    exact ⟨rfl, HBX.out⟩
  have d1 : decide (e.k < 1) = false := decide_eq_false k1
  by_cases k2 : 6 < e.k
  · have d2 : decide (6 < e.k) = true := decide_eq_true k2
    have HBAD : Hid (¬ Good e) := fun hg => by have := hg.1.2; omega
    clear k1 k2
    go_enter Tryd.func7, Tryd.ntmps7
    go_upto_region 1 with fail
    generalize w.alloc (.cells A 31) = w1 at *
    have HK1 : Hid (∀ w', Below w1.heap.size w1 w' → w'.cell? ⟨w.heap.size, 0, none⟩ = some (.int .i64 e.k)) := fun w' hb => cell_below hk hb
    refine wp_region_eager [(0, true), (1, true), (2, true), (3, true), (4, true), (5, true), (6, true), (7, true), (8, true), (9, true), (10, true), (11, true), (12, true), (13, true), (14, true)] (by kernel_rfl) (by kernel_rfl) (eagerOpen rfl ?_)
    have hy0 : Below w1.heap.size w1 w1.drew := below_drew1 _ _
    repeat (first
      | (first | (apply wpEager_take; (· rfl); (· (intro w' hb'; go_simp; try with_reducible rfl)); (try simp only [Act.put, List.setIfInBounds_toArray, List.set_cons_zero, List.set_cons_succ]); (try refine eagerOpen rfl ?_)) | (refine wpEager_skip (by rfl) ?_; (try simp only [Act.put, List.setIfInBounds_toArray, List.set_cons_zero, List.set_cons_succ]); (try refine eagerOpen rfl ?_)) | (refine wpEager_off (by rfl) ?_; (try simp only [Act.put, List.setIfInBounds_toArray, List.set_cons_zero, List.set_cons_succ]); (try refine eagerOpen rfl ?_)))
      | (apply wpEager_take; (· rfl); (· (intro w' hb'; have hk' := (HK1.out) w' hb'; go_split_ands; go_simp; try with_reducible rfl)); (try simp only [Act.put, List.setIfInBounds_toArray, List.set_cons_zero, List.set_cons_succ]); (try refine eagerOpen rfl ?_)))
    refine eagerEnd ?_
    have HBX := Lib.hid (HB1.out.trans (hy0.mono HB1.out.size))
    clear hy0 hk
    go_wp2_with fail
    skip
    -- no line is told: HBX : Below w.heap.size w WX; HBAD : Hid (¬ Good e)
    go_ret2
    obtain ⟨f1, f2⟩ := line_bad HBAD.out
    unfold LineP
    rw [f1, f2]
    exact ⟨rfl, HBX.out⟩
  have d2 : decide (6 < e.k) = false := decide_eq_false k2
  have HKK : Hid (1 ≤ e.k ∧ e.k ≤ 6) := ⟨by omega, by omega⟩
  clear k1 k2
  go_enter Tryd.func7, Tryd.ntmps7
  go_upto_region 1 with fail
  generalize w.alloc (.cells A 31) = w1 at *
  have HK1 : Hid (∀ w', Below w1.heap.size w1 w' → w'.cell? ⟨w.heap.size, 0, none⟩ = some (.int .i64 e.k)) := fun w' hb => cell_below hk hb
  have HRG : Hid (∀ w', Below w1.heap.size w1 w' → w'.rangeAt w.heap.size 0 A.toList) := fun w' hb => row_rangeS (Below.keepOld hb HR1.out)
  have HON := Lib.hid (fun y (hy : Below w1.heap.size w1 y) => only_any e HKK.out pb cb q c y (HAT.out.below hy))
  rw [← HAE.out] at HON
  refine wp_region_eager [(0, true), (1, true), (2, true), (3, true), (4, true), (5, true), (6, true), (7, true), (8, true), (9, true), (10, true), (11, false), (12, false), (13, true), (14, true)] (by kernel_rfl) (by kernel_rfl) (eagerOpen rfl ?_)
  have hy0 : Below w1.heap.size w1 w1.drew := below_drew1 _ _
  repeat (first
    | ((with_reducible refine eagerLoadAt 1 ?_); refine wpEager_load (by rfl) 31 _ rfl w.heap.size 0 rfl A _ (fun w' hb => HRG.out w' hb) Tryd.underlying31 rfl (infoE _ HAS.out) ?_; (try simp only [Act.put, List.setIfInBounds_toArray, List.set_cons_zero, List.set_cons_succ]); (try refine eagerOpen rfl ?_))
    | (first | (apply wpEager_take; (· rfl); (· (intro w' hb'; go_simp; try with_reducible rfl)); (try simp only [Act.put, List.setIfInBounds_toArray, List.set_cons_zero, List.set_cons_succ]); (try refine eagerOpen rfl ?_)) | (refine wpEager_skip (by rfl) ?_; (try simp only [Act.put, List.setIfInBounds_toArray, List.set_cons_zero, List.set_cons_succ]); (try refine eagerOpen rfl ?_)) | (refine wpEager_off (by rfl) ?_; (try simp only [Act.put, List.setIfInBounds_toArray, List.set_cons_zero, List.set_cons_succ]); (try refine eagerOpen rfl ?_)))
    | (apply wpEager_take; (· rfl); (· (intro w' hb'; have hk' := (HK1.out) w' hb'; go_split_ands; go_simp; try with_reducible rfl)); (try simp only [Act.put, List.setIfInBounds_toArray, List.set_cons_zero, List.set_cons_succ]); (try refine eagerOpen rfl ?_)))
  (refine wpEager_op (by rfl) (fun K hK => ?_); go_simp; (refine (HON.out _ hy0).mono ?_; rintro x y1 ⟨pb', cb', q', c', rfl, hat, hb⟩; have hy1 := hy0.trans hb; have HSM := Lib.hid (same_any y1 (HAT.out.below hy1) hat); clear hb hat); refine Shut.out hK _ _ (by assumption) ?_; clear hK K; (try simp only [Act.put, List.setIfInBounds_toArray, List.set_cons_zero, List.set_cons_succ]); (try refine eagerOpen rfl ?_))
  rw [← HAE.out] at HSM
  obtain ⟨F, hF⟩ : ∃ F, decide (e = only e) = F := ⟨_, rfl⟩
  rw [hF] at HSM
  have HFF := Lib.hid hF
  clear hF
  (refine wpEager_op (by rfl) (fun K hK => ?_); go_simp; (refine HSM.out.mono ?_; rintro x y2 ⟨rfl, hb⟩; have hy2 := hy1.trans (hb.mono hy1.size); clear hb); refine Shut.out hK _ _ (by assumption) ?_; clear hK K; (try simp only [Act.put, List.setIfInBounds_toArray, List.set_cons_zero, List.set_cons_succ]); (try refine eagerOpen rfl ?_))
  repeat (first | (apply wpEager_take; (· rfl); (· (intro w' hb'; go_simp; try with_reducible rfl)); (try simp only [Act.put, List.setIfInBounds_toArray, List.set_cons_zero, List.set_cons_succ]); (try refine eagerOpen rfl ?_)) | (refine wpEager_skip (by rfl) ?_; (try simp only [Act.put, List.setIfInBounds_toArray, List.set_cons_zero, List.set_cons_succ]); (try refine eagerOpen rfl ?_)) | (refine wpEager_off (by rfl) ?_; (try simp only [Act.put, List.setIfInBounds_toArray, List.set_cons_zero, List.set_cons_succ]); (try refine eagerOpen rfl ?_)))
  refine eagerEnd ?_
  have HB2 := Lib.hid (HB1.out.trans (hy2.mono HB1.out.size))
  have HR2 := Lib.hid (Below.keepOld hy2 HR1.out)
  have HAT2 := Lib.hid (HAT.out.below hy2)
  clear hy0 hy1 hy2 HB1 HR1 HAT HON HSM HRG HK1 hk d1 d2
  cases F with
  | false =>
    have HBAD : Hid (¬ Good e) := fun hg => (show ¬ e = only e from of_decide_eq_false HFF.out) hg.2.1
    have HBX := HB2
    go_wp2_with fail
    skip
    -- no line is told: HBX : Below w.heap.size w WX; HBAD : Hid (¬ Good e)
    go_ret2
    obtain ⟨f1, f2⟩ := line_bad HBAD.out
    unfold LineP
    rw [f1, f2]
    exact ⟨rfl, HBX.out⟩
  | true =>
    have HEO := Lib.hid (show e = only e from of_decide_eq_true HFF.out)
    have hx2 := HR2.out
    rw [HAE.out] at hx2
    have HEV := Lib.hid (ev_row HWF.out hx2)
    have HK2 : Hid (∀ w', Below y2.heap.size y2 w' → w'.cell? ⟨w.heap.size, 0, none⟩ = some (.int .i64 e.k)) := fun w' hb => cell_below HEV.out.k hb
    clear hx2
    have hix := idx_name e.k HKK.out
    go_upto_region 3 with fail
    refine wp_region_eager [(1, true), (2, true), (0, false), (3, true), (4, false), (5, true)] (by kernel_rfl) (by kernel_rfl) (eagerOpen rfl ?_)
    have hy0 : Below y2.heap.size y2 y2.drew := below_drew1 _ _
    repeat (first
      | (first | (apply wpEager_take; (· rfl); (· (intro w' hb'; go_simp; try with_reducible rfl)); (try simp only [Act.put, List.setIfInBounds_toArray, List.set_cons_zero, List.set_cons_succ]); (try refine eagerOpen rfl ?_)) | (refine wpEager_skip (by rfl) ?_; (try simp only [Act.put, List.setIfInBounds_toArray, List.set_cons_zero, List.set_cons_succ]); (try refine eagerOpen rfl ?_)) | (refine wpEager_off (by rfl) ?_; (try simp only [Act.put, List.setIfInBounds_toArray, List.set_cons_zero, List.set_cons_succ]); (try refine eagerOpen rfl ?_)))
      | (apply wpEager_take; (· rfl); (· (intro w' hb'; have hk' := (HK2.out) w' hb'; go_split_ands; go_simp; try with_reducible rfl)); (try simp only [Act.put, List.setIfInBounds_toArray, List.set_cons_zero, List.set_cons_succ]); (try refine eagerOpen rfl ?_)))
    (refine wpEager_op (by rfl) (fun K hK => ?_); go_simp; (refine (names_any _).mono ?_; rintro x y3 ⟨rfl, hb⟩; have hy1 := hy0.trans hb; clear hb); refine Shut.out hK _ _ (by assumption) ?_; clear hK K; (try simp only [Act.put, List.setIfInBounds_toArray, List.set_cons_zero, List.set_cons_succ]); (try refine eagerOpen rfl ?_))
    repeat (first | (apply wpEager_take; (· rfl); (· (intro w' hb'; go_simp; try with_reducible rfl)); (try simp only [Act.put, List.setIfInBounds_toArray, List.set_cons_zero, List.set_cons_succ]); (try refine eagerOpen rfl ?_)) | (refine wpEager_skip (by rfl) ?_; (try simp only [Act.put, List.setIfInBounds_toArray, List.set_cons_zero, List.set_cons_succ]); (try refine eagerOpen rfl ?_)) | (refine wpEager_off (by rfl) ?_; (try simp only [Act.put, List.setIfInBounds_toArray, List.set_cons_zero, List.set_cons_succ]); (try refine eagerOpen rfl ?_)))
    refine wpEager_op (by rfl) (fun K hK => oper_of_list rfl ?_)
    refine wpList_buildStr rfl _ rfl (K6.getD e.k.toNat []) rfl ?_
    have hy3 : Below y2.heap.size y2 (y3.alloc (.cells #[.string (S (K6.getD e.k.toNat []))] 9)) := hy1.alloc hy1.size _
    have HO3 := Lib.hid (own_str y3 w.heap.size (K6.getD e.k.toNat []) (Nat.le_trans HB2.out.size hy1.size))
    refine only_end (Shut.out hK _ _ hy3 ?_)
    clear hK K
    (try simp only [Act.put, List.setIfInBounds_toArray, List.set_cons_zero, List.set_cons_succ]); (try refine eagerOpen rfl ?_)
    repeat (first | (apply wpEager_take; (· rfl); (· (intro w' hb'; go_simp; try with_reducible rfl)); (try simp only [Act.put, List.setIfInBounds_toArray, List.set_cons_zero, List.set_cons_succ]); (try refine eagerOpen rfl ?_)) | (refine wpEager_skip (by rfl) ?_; (try simp only [Act.put, List.setIfInBounds_toArray, List.set_cons_zero, List.set_cons_succ]); (try refine eagerOpen rfl ?_)) | (refine wpEager_off (by rfl) ?_; (try simp only [Act.put, List.setIfInBounds_toArray, List.set_cons_zero, List.set_cons_succ]); (try refine eagerOpen rfl ?_)))
    refine eagerEnd ?_
    have HB3 := Lib.hid (HB2.out.trans (hy3.mono HB2.out.size))
    have HR3 := Lib.hid (Below.keepOld hy3 HR2.out)
    have HAT3 := Lib.hid (HAT2.out.below hy3)
    clear hy0 hy1 hy3 HB2 HR2 HAT2 HEV HK2 hix
    generalize y3.alloc (.cells #[.string (S (K6.getD e.k.toNat []))] 9) = w3 at *
    generalize y3.heap.size = g3 at *
    have hx3 := HR3.out
    rw [HAE.out] at hx3
    have HEV := Lib.hid (ev_row HWF.out hx3)
    have hk := HEV.out.k
    have hkb := HEV.out.b
    have hkt := HEV.out.tx
    have hkn := HEV.out.n
    have hu0 := HEV.out.u0
    have hu1 := HEV.out.u1
    have hu2 := HEV.out.u2
    clear hx3
    by_cases k1 : e.k = 1
    · have m1 : (e.k == 1) = true := beq_iff_eq.2 k1
      have HRS : Hid (restE e = [textL e.b]) := by show _ = _; unfold restE; rw [if_pos k1]
      have HGD : Hid (Good e) := ⟨HKK.out, HEO.out, fun h56 => by omega⟩
      have HTXT := Lib.hid (text_any pb e.b.length cb e.b w3 HAT3.out.bs (by have := HBY.out; omega))
      clear k1
      go_upto_region 9 with fail
      go_wp2_with fail
      refine HTXT.out.mono ?_
      rintro x w4 ⟨rfl, hb4⟩
      have hal := Below.allocs w4 (.cells #[.string (S (textL e.b))] 9)
      have hb5 := hb4.trans (hal.mono hb4.size)
      have HO4 := Lib.hid (own_touch HO3.out (Turns.of_below (S := fun _ => False) hb5) (fun _ _ h => h))
      have HXW : Hid (Ws (w4.alloc (.cells #[.string (S (textL e.b))] 9)) (some ⟨w4.heap.size, 0, none⟩) 1 1 (restE e)) := by
        show Ws _ _ _ _ _
        rw [HRS.out]
        exact Ws.row (ls := [textL e.b]) (heap_alloc_last w4 _) rfl (by show 1 ≤ _; omega)
      have HBX := Lib.hid (HB3.out.trans (hb5.mono HB3.out.size))
      clear hal hb4 hb5 HO3 HB3 HR3 HAT3 HEV HTXT hk hkb hkt hkn hu0 hu1 hu2
      skip
      -- the words are joined: world w4.alloc (.cells #[.string (S (textL e.b))] 9); HO4 : the name's slice of its own; HXW : Hid (Ws w4.alloc (.cells #[.string (S (textL e.b))] 9) PL 1 CL (restE e)); HBX : Hid (Below w.heap.size w w4.alloc (.cells #[.string (S (textL e.b))] 9)); HGD : Hid (Good e)
      have HNL : Hid (1 ≤ 100004) := by show _ ≤ _; have h1 := HXW.out.length; have h2 := rest_len e; have h3 := HTX.out; omega
      have hnl := HNL.out
      have HSZ : Hid (w.heap.size ≤ (w4.alloc (.cells #[.string (S (textL e.b))] 9)).heap.size) := HBX.out.size
      go_upto_region 22 with fail
      go_wp2_with (at_builtin; refine wpList_append_nx rfl _ _ 65 rfl (base := w.heap.size) Tryd.underlying65 infoStr rfl (by omega) rfl HO4.out rfl HXW.out (strV_one _) ⟨by omega, by omega⟩ HSZ.out ?_)
      intro p' c' w8 ho8 hgr hnx _
      have hb8 := own_below HO4.out hgr HSZ.out
      have HB8 := Lib.hid (HBX.out.trans hb8)
      have HWS : Hid (Ws w8 p' (1 + 1) c' (wordsE e)) := by
        have := own_ws (ls := [K6.getD e.k.toNat []] ++ restE e) (by rw [strV_app]; exact ho8)
        exact this
      have HLT := Lib.hid ho8.lt
      clear ho8 hgr hnx hb8 HO4 HXW HBX HSZ
      obtain ⟨b, o, rfl⟩ := HWS.out.addr (by omega) (by omega)
      have HJ := Lib.hid (join_any b o (1 + 1) c' (wordsE e) w8 HWS.out (HLT.out _ rfl).2 (by omega) (by
        have h1 := join_le (wordsE e) 200001 (words_short HGD.out HWF.out HBY.out)
        have h2 : (wordsE e).length ≤ 100005 := by have := HWS.out.length; omega
        have h3 : (wordsE e).length * (200001 + 1) ≤ 100005 * 200002 := Nat.mul_le_mul_right _ h2
        omega))
      go_wp2_with fail
      refine HJ.out.mono ?_
      rintro x w9 ⟨rfl, hb9⟩
      have HB9 := Lib.hid (HB8.out.trans (hb9.mono HB8.out.size))
      go_wp2_with fail
      go_ret2
      obtain ⟨f1, f2⟩ := line_good HGD.out
      unfold LineP
      rw [f1, f2]
      exact ⟨rfl, HB9.out⟩
    have m1 : (e.k == 1) = false := beq_eq_false_iff_ne.2 k1
    by_cases k2 : e.k = 2
    · have m2 : (e.k == 2) = true := beq_iff_eq.2 k2
      have HRS : Hid (restE e = (e.h :: e.p :: e.tx).map idText) := by show _ = _; unfold restE; rw [if_neg k1, if_pos k2]; rfl
      have HGD : Hid (Good e) := ⟨HKK.out, HEO.out, fun h56 => by omega⟩
      have HI4 : Hid (Is w3 q e.tx.length c 32 e.tx) := HAT3.out.ids
      have hal := Below.allocs w3 (.cells (bytesV e.h ++ bytesV e.p).toArray 25)
      have HOI := Lib.hid (own_ids w3 w3.heap.size e.h e.p HWF.out.h HWF.out.p (Nat.le_refl _))
      have HS4 : Hid (w3.heap.size ≤ (w3.alloc (.cells (bytesV e.h ++ bytesV e.p).toArray 25)).heap.size) := hal.size
      have HXT := Lib.hid (HI4.out.below hal).sl
      have HAL := Lib.hid hal
      have htb := HTX.out
      have hkt4 := cell_below hkt hal
      have hle4 := HI4.out.sl.le
      have hmx4 := HI4.out.sl.max
      clear hal k1 k2
      go_upto_region 12 with (first
        | ((with_reducible refine wpAt 45 ?_); refine loadM (by rfl) 25 _ rfl w.heap.size 2 rfl (idA e.h) _ HEV.out.h Tryd.underlying25 rfl (infoId _ (by rw [idA_size, HWF.out.h])) ?_)
        | ((with_reducible refine wpAt 48 ?_); refine loadM (by rfl) 25 _ rfl w.heap.size 34 rfl (idA e.p) _ HEV.out.p Tryd.underlying25 rfl (infoId _ (by rw [idA_size, HWF.out.p])) ?_)
        | ((with_reducible refine wpAt 49 ?_); refine wpList_buildIds rfl _ _ rfl e.h e.p HWF.out.h HWF.out.p rfl rfl ?_)
        | (at_builtin; refine wpList_append_nx rfl _ _ 26 rfl (base := w3.heap.size) Tryd.underlying26 infoIds (by rw [show (Value.agg Z32).cells = Z32 from rfl]; exact Z32_size) (by omega) rfl HOI.out rfl HXT.out (flat_one _) ⟨by omega, by omega⟩ HS4.out ?_; intro p' c' w5 ho5 hgr hnx _))
      have HB35 := Lib.hid (HAL.out.trans (own_below HOI.out hgr HS4.out))
      have HIS : Hid (Is w5 p' (2 + e.tx.length) c' 32 (e.h :: e.p :: e.tx)) := by
        obtain ⟨p1, c1, he1, hs1⟩ := own_sl ho5
        cases he1
        refine ⟨by simpa using hs1, fun y hy => ?_, by show e.tx.length + 1 + 1 = _; omega⟩
        rcases List.mem_cons.1 hy with rfl | hy
        · exact HWF.out.h
        · rcases List.mem_cons.1 hy with rfl | hy
          · exact HWF.out.p
          · exact HWF.out.tx y hy
      clear ho5 hgr hnx HOI HXT HS4 HAL hkt4 hk hkb hkt hkn hu0 hu1 hu2 HI4 HEV
      have hle5 := HIS.out.sl.le
      have hmx5 := HIS.out.sl.max
      obtain ⟨IL, hIL⟩ : ∃ IL, IL = e.h :: e.p :: e.tx := ⟨_, rfl⟩
      rw [← hIL] at HIS HRS
      have HIE := Lib.hid hIL
      have HLN : Hid (IL.length = 2 + e.tx.length) := HIS.out.count
      clear hIL
      have hzi := zeroId
      go_wp2_with fail
      go_loopw [6, 8, 55] (fun v _ j wr => ∃ (i : Nat) (p : Option Addr) (k : Nat), i ≤ 2 + e.tx.length ∧ j = .int .i64 i ∧ v = .slice p i k ∧ wr.ownsRow w5.heap.size 9 1 v i (strV ((IL.take i).map idText)) ∧ Below w5.heap.size w5 wr) (fun _ _ j _ => 2 + e.tx.length - (intOf j).toNat)
      case atStart => exact ⟨0, none, 0, by omega, rfl, rfl, World.ownsRow_nil _ _ _ _, Below.refl _ _⟩
      case round =>
        obtain ⟨i, pl, kl, hi, rfl, rfl, ho, hbr⟩ := hrel
        have HO := Lib.hid ho
        have HBR := Lib.hid hbr
        clear ho hbr
        by_cases hlt : i < 2 + e.tx.length
        · have hd : decide ((i : Int) < ((2 + e.tx.length : Nat) : Int)) = true := decide_eq_true (by omega)
          have hd1 : decide ((i : Int) < 2 + (e.tx.length : Int)) = true := decide_eq_true (by omega)
          have hd2 : decide (i < 2 + e.tx.length) = true := decide_eq_true hlt
          have hil : i < IL.length := by rw [HLN.out]; exact hlt
          obtain ⟨bi, oi, rfl⟩ := HIS.out.sl.addr (by omega) (by omega)
          have HRX := Lib.hid (range_below (HIS.out.range (by omega) i hil) HBR.out)
          have HLX : Hid ((IL[i]'hil).length = 32) := HIS.out.each _ (List.getElem_mem _)
          have HTK : Hid (IL.take (i + 1) = IL.take i ++ [IL[i]'hil]) := List.take_succ_eq_append_getElem hil
          generalize IL[i]'hil = x at *
          have hb6 := box_below wr Z32 (idA x) 25
          have HRW := Lib.hid (box_row wr Z32 (idA x) 25)
          have HO6 := Lib.hid (own_touch HO.out (Turns.of_below (S := fun _ => False) hb6) (fun _ _ h => h))
          have HB6 := Lib.hid (HBR.out.trans (hb6.mono HBR.out.size))
          clear hb6
          go_upto_region 14 with (first
            | ((with_reducible refine wpAt 58 ?_); refine loadM (by rfl) 25 _ rfl bi (oi + i * 32) rfl (idA x) _ HRX.out Tryd.underlying25 rfl (infoId _ (by rw [idA_size, HLX.out])) ?_)
            | ((with_reducible refine wpStoreAt 8 ?_); refine wpList_store_row rfl 25 _ _ rfl wr.heap.size (idA x) rfl rfl 25 Z32 (box_new _ _ _) (infoId _ (by rw [idA_size, HLX.out])) (by rw [idA_size, HLX.out]; rfl) (idA_one _) ?_))
          generalize (wr.alloc (.cells Z32 25)).setRow wr.heap.size (idA x) = w6 at *
          have HIT := Lib.hid (idText_any (idA x) x w6 (idA_toList _) HLX.out)
          go_wp2_with (refine wpList_load_row rfl 25 _ rfl wr.heap.size rfl 25 (idA x) (0, 0) _ HRW.out Tryd.underlying25 rfl (infoId _ (by rw [idA_size, HLX.out])) ?_)
          refine HIT.out.mono ?_
          rintro y w7 ⟨rfl, hb7⟩
          have hal := Below.allocs w7 (.cells #[.string (S (idText x))] 9)
          have hb8 := hb7.trans (hal.mono hb7.size)
          have HO8 := Lib.hid (own_touch HO6.out (Turns.of_below (S := fun _ => False) hb8) (fun _ _ h => h))
          have HX8 : Hid (Ws (w7.alloc (.cells #[.string (S (idText x))] 9)) (some ⟨w7.heap.size, 0, none⟩) 1 1 [idText x]) := Ws.row (ls := [idText x]) (heap_alloc_last w7 _) rfl (by show 1 ≤ _; omega)
          have HB8 := Lib.hid (HB6.out.trans (hb8.mono HB6.out.size))
          have HS8 := Lib.hid HB8.out.size
          clear hal hb7 hb8 HO6 HB6 HIT HRW HRX
          go_wp2_with (at_builtin; refine wpList_append_nx rfl _ _ 65 rfl (base := w5.heap.size) Tryd.underlying65 infoStr rfl (by omega) rfl HO8.out rfl HX8.out (strV_one _) ⟨by omega, by omega⟩ HS8.out ?_)
          intro p9 c9 w9 ho9 hgr hnx _
          have HB9 := Lib.hid (HB8.out.trans (own_below HO8.out hgr HS8.out))
          have HO9 : Hid (w9.ownsRow w5.heap.size 9 1 (.slice p9 (i + 1) c9) (i + 1) (strV ((IL.take (i + 1)).map idText))) := by
            show World.ownsRow _ _ _ _ _ _ _
            rw [HTK.out, List.map_append, strV_app, List.map_take]
            exact ho9
          clear ho9 hgr hnx HO8 HX8 HB8 HS8 HTK HLX
          go_wp2_with fail
          go_roundw
          case rel => exact ⟨i + 1, p9, c9, by omega, by go_num, rfl, HO9.out, HB9.out⟩
          case measure => simp [intOf]; omega
        · obtain rfl : i = 2 + e.tx.length := by omega
          have hd : decide (((2 + e.tx.length : Nat) : Int) < ((2 + e.tx.length : Nat) : Int)) = false := decide_eq_false (by omega)
          have hd1 : decide (2 + (e.tx.length : Int) < 2 + (e.tx.length : Int)) = false := decide_eq_false (by omega)
          have hd2 : decide (2 + e.tx.length < 2 + e.tx.length) = false := decide_eq_false (by omega)
          have hb3 := HB35.out.trans (HBR.out.mono HB35.out.size)
          have HO4 := Lib.hid (own_touch HO3.out (Turns.of_below (S := fun _ => False) hb3) (fun _ _ h => h))
          have HBX := Lib.hid (HB3.out.trans (hb3.mono HB3.out.size))
          have HXW : Hid (Ws wr pl (2 + e.tx.length) kl (restE e)) := by
            have h1 := own_ws HO.out
            rw [List.take_of_length_le (by rw [HLN.out]; exact Nat.le_refl _), ← HRS.out] at h1
            exact h1
          clear hb3 HO3 HB3 HR3 HAT3 HB35 HBR HO
          skip
          -- the words are joined: world wr; HO4 : the name's slice of its own; HXW : Hid (Ws wr PL (2 + e.tx.length) CL (restE e)); HBX : Hid (Below w.heap.size w wr); HGD : Hid (Good e)
          have HNL : Hid ((2 + e.tx.length) ≤ 100004) := by show _ ≤ _; have h1 := HXW.out.length; have h2 := rest_len e; have h3 := HTX.out; omega
          have hnl := HNL.out
          have HSZ : Hid (w.heap.size ≤ (wr).heap.size) := HBX.out.size
          go_upto_region 22 with fail
          go_wp2_with (at_builtin; refine wpList_append_nx rfl _ _ 65 rfl (base := w.heap.size) Tryd.underlying65 infoStr rfl (by omega) rfl HO4.out rfl HXW.out (strV_one _) ⟨by omega, by omega⟩ HSZ.out ?_)
          intro p' c' w8 ho8 hgr hnx _
          have hb8 := own_below HO4.out hgr HSZ.out
          have HB8 := Lib.hid (HBX.out.trans hb8)
          have HWS : Hid (Ws w8 p' (1 + (2 + e.tx.length)) c' (wordsE e)) := by
            have := own_ws (ls := [K6.getD e.k.toNat []] ++ restE e) (by rw [strV_app]; exact ho8)
            exact this
          have HLT := Lib.hid ho8.lt
          clear ho8 hgr hnx hb8 HO4 HXW HBX HSZ
          obtain ⟨b, o, rfl⟩ := HWS.out.addr (by omega) (by omega)
          have HJ := Lib.hid (join_any b o (1 + (2 + e.tx.length)) c' (wordsE e) w8 HWS.out (HLT.out _ rfl).2 (by omega) (by
            have h1 := join_le (wordsE e) 200001 (words_short HGD.out HWF.out HBY.out)
            have h2 : (wordsE e).length ≤ 100005 := by have := HWS.out.length; omega
            have h3 : (wordsE e).length * (200001 + 1) ≤ 100005 * 200002 := Nat.mul_le_mul_right _ h2
            omega))
          go_wp2_with fail
          refine HJ.out.mono ?_
          rintro x w9 ⟨rfl, hb9⟩
          have HB9 := Lib.hid (HB8.out.trans (hb9.mono HB8.out.size))
          go_wp2_with fail
          go_ret2
          obtain ⟨f1, f2⟩ := line_good HGD.out
          unfold LineP
          rw [f1, f2]
          exact ⟨rfl, HB9.out⟩
    have m2 : (e.k == 2) = false := beq_eq_false_iff_ne.2 k2
    by_cases k5 : e.k = 5
    · have m5 : (e.k == 5) = true := beq_iff_eq.2 k5
      have HRS : Hid (restE e = decs [e.n]) := by show _ = _; unfold restE numsE decs; rw [if_neg k1, if_neg k2, if_pos (.inl k5), if_pos k5]
      have HGG : Hid (Good e ↔ okZ 65535 [e.n]) := by
        show _ ↔ _
        have hn : numsE e = [e.n] := by unfold numsE; rw [if_pos k5]
        refine ⟨fun hg x hx => ?_, fun hz => ⟨HKK.out, HEO.out, fun _ x hx => ?_⟩⟩
        · have := hg.2.2 (.inl k5) x (by rw [hn]; exact hx); exact this
        · rw [hn] at hx; exact hz x hx
      clear k1 k2 k5
      have hal := Below.allocs w3 (.cells #[.int .i64 e.n] 3)
      have HNM := Lib.hid (nums_any 65535 (by omega) _ 1 1 [e.n] _ (Zs.lit w3 3 [e.n] (show 1 ≤ 65536 by decide)) (by omega))
      have HAL := Lib.hid hal
      clear hal
      go_upto_region 17 with fail
      go_wp2_with fail
      skip
      -- what nums tells of [e.n], 1 numbers
      refine HNM.out.mono ?_
      rintro x w4 ⟨hb4, hcase⟩
      have hb5 := HAL.out.trans (hb4.mono HAL.out.size)
      have HO4 := Lib.hid (own_touch HO3.out (Turns.of_below (S := fun _ => False) hb5) (fun _ _ h => h))
      have HBX := Lib.hid (HB3.out.trans (hb5.mono HB3.out.size))
      clear hb4 hb5 HNM HAL HO3 HB3 HR3 HAT3 HEV hk hkb hkt hkn hu0 hu1 hu2
      rcases hcase with ⟨hok, pl, cl, rfl, hown⟩ | ⟨hok, rfl⟩
      · have HGD : Hid (Good e) := HGG.out.2 hok
        have HXW : Hid (Ws w4 pl 1 cl (restE e)) := by
          show Ws _ _ _ _ _
          rw [HRS.out]
          exact own_ws hown
        clear hok hown
        skip
        -- the words are joined: world w4; HO4 : the name's slice of its own; HXW : Hid (Ws w4 PL 1 CL (restE e)); HBX : Hid (Below w.heap.size w w4); HGD : Hid (Good e)
        have HNL : Hid (1 ≤ 100004) := by show _ ≤ _; have h1 := HXW.out.length; have h2 := rest_len e; have h3 := HTX.out; omega
        have hnl := HNL.out
        have HSZ : Hid (w.heap.size ≤ (w4).heap.size) := HBX.out.size
        go_upto_region 22 with fail
        go_wp2_with (at_builtin; refine wpList_append_nx rfl _ _ 65 rfl (base := w.heap.size) Tryd.underlying65 infoStr rfl (by omega) rfl HO4.out rfl HXW.out (strV_one _) ⟨by omega, by omega⟩ HSZ.out ?_)
        intro p' c' w8 ho8 hgr hnx _
        have hb8 := own_below HO4.out hgr HSZ.out
        have HB8 := Lib.hid (HBX.out.trans hb8)
        have HWS : Hid (Ws w8 p' (1 + 1) c' (wordsE e)) := by
          have := own_ws (ls := [K6.getD e.k.toNat []] ++ restE e) (by rw [strV_app]; exact ho8)
          exact this
        have HLT := Lib.hid ho8.lt
        clear ho8 hgr hnx hb8 HO4 HXW HBX HSZ
        obtain ⟨b, o, rfl⟩ := HWS.out.addr (by omega) (by omega)
        have HJ := Lib.hid (join_any b o (1 + 1) c' (wordsE e) w8 HWS.out (HLT.out _ rfl).2 (by omega) (by
          have h1 := join_le (wordsE e) 200001 (words_short HGD.out HWF.out HBY.out)
          have h2 : (wordsE e).length ≤ 100005 := by have := HWS.out.length; omega
          have h3 : (wordsE e).length * (200001 + 1) ≤ 100005 * 200002 := Nat.mul_le_mul_right _ h2
          omega))
        go_wp2_with fail
        refine HJ.out.mono ?_
        rintro x w9 ⟨rfl, hb9⟩
        have HB9 := Lib.hid (HB8.out.trans (hb9.mono HB8.out.size))
        go_wp2_with fail
        go_ret2
        obtain ⟨f1, f2⟩ := line_good HGD.out
        unfold LineP
        rw [f1, f2]
        exact ⟨rfl, HB9.out⟩
      · have HBAD : Hid (¬ Good e) := fun hg => hok (HGG.out.1 hg)
        clear hok
        go_wp2_with fail
        skip
        -- no line is told: HBX : Below w.heap.size w WX; HBAD : Hid (¬ Good e)
        go_ret2
        obtain ⟨f1, f2⟩ := line_bad HBAD.out
        unfold LineP
        rw [f1, f2]
        exact ⟨rfl, HBX.out⟩
    have m5 : (e.k == 5) = false := beq_eq_false_iff_ne.2 k5
    by_cases k6 : e.k = 6
    · have m6 : (e.k == 6) = true := beq_iff_eq.2 k6
      have HRS : Hid (restE e = decs [e.n, e.u0, e.u1, e.u2]) := by show _ = _; unfold restE numsE decs; rw [if_neg k1, if_neg k2, if_pos (.inr k6), if_neg k5]
      have HGG : Hid (Good e ↔ okZ 65535 [e.n, e.u0, e.u1, e.u2]) := by
        show _ ↔ _
        have hn : numsE e = [e.n, e.u0, e.u1, e.u2] := by unfold numsE; rw [if_neg k5]
        refine ⟨fun hg x hx => ?_, fun hz => ⟨HKK.out, HEO.out, fun _ x hx => ?_⟩⟩
        · have := hg.2.2 (.inr k6) x (by rw [hn]; exact hx); exact this
        · rw [hn] at hx; exact hz x hx
      clear k1 k2 k5 k6
      have hal := Below.allocs w3 (.cells #[.int .i64 e.n, .int .i64 e.u0, .int .i64 e.u1, .int .i64 e.u2] 3)
      have HNM := Lib.hid (nums_any 65535 (by omega) _ 4 4 [e.n, e.u0, e.u1, e.u2] _ (Zs.lit w3 3 [e.n, e.u0, e.u1, e.u2] (show 4 ≤ 65536 by decide)) (by omega))
      have HAL := Lib.hid hal
      clear hal
      go_upto_region 19 with fail
      go_wp2_with fail
      skip
      -- what nums tells of [e.n, e.u0, e.u1, e.u2], 4 numbers
      refine HNM.out.mono ?_
      rintro x w4 ⟨hb4, hcase⟩
      have hb5 := HAL.out.trans (hb4.mono HAL.out.size)
      have HO4 := Lib.hid (own_touch HO3.out (Turns.of_below (S := fun _ => False) hb5) (fun _ _ h => h))
      have HBX := Lib.hid (HB3.out.trans (hb5.mono HB3.out.size))
      clear hb4 hb5 HNM HAL HO3 HB3 HR3 HAT3 HEV hk hkb hkt hkn hu0 hu1 hu2
      rcases hcase with ⟨hok, pl, cl, rfl, hown⟩ | ⟨hok, rfl⟩
      · have HGD : Hid (Good e) := HGG.out.2 hok
        have HXW : Hid (Ws w4 pl 4 cl (restE e)) := by
          show Ws _ _ _ _ _
          rw [HRS.out]
          exact own_ws hown
        clear hok hown
        skip
        -- the words are joined: world w4; HO4 : the name's slice of its own; HXW : Hid (Ws w4 PL 4 CL (restE e)); HBX : Hid (Below w.heap.size w w4); HGD : Hid (Good e)
        have HNL : Hid (4 ≤ 100004) := by show _ ≤ _; have h1 := HXW.out.length; have h2 := rest_len e; have h3 := HTX.out; omega
        have hnl := HNL.out
        have HSZ : Hid (w.heap.size ≤ (w4).heap.size) := HBX.out.size
        go_upto_region 22 with fail
        go_wp2_with (at_builtin; refine wpList_append_nx rfl _ _ 65 rfl (base := w.heap.size) Tryd.underlying65 infoStr rfl (by omega) rfl HO4.out rfl HXW.out (strV_one _) ⟨by omega, by omega⟩ HSZ.out ?_)
        intro p' c' w8 ho8 hgr hnx _
        have hb8 := own_below HO4.out hgr HSZ.out
        have HB8 := Lib.hid (HBX.out.trans hb8)
        have HWS : Hid (Ws w8 p' (1 + 4) c' (wordsE e)) := by
          have := own_ws (ls := [K6.getD e.k.toNat []] ++ restE e) (by rw [strV_app]; exact ho8)
          exact this
        have HLT := Lib.hid ho8.lt
        clear ho8 hgr hnx hb8 HO4 HXW HBX HSZ
        obtain ⟨b, o, rfl⟩ := HWS.out.addr (by omega) (by omega)
        have HJ := Lib.hid (join_any b o (1 + 4) c' (wordsE e) w8 HWS.out (HLT.out _ rfl).2 (by omega) (by
          have h1 := join_le (wordsE e) 200001 (words_short HGD.out HWF.out HBY.out)
          have h2 : (wordsE e).length ≤ 100005 := by have := HWS.out.length; omega
          have h3 : (wordsE e).length * (200001 + 1) ≤ 100005 * 200002 := Nat.mul_le_mul_right _ h2
          omega))
        go_wp2_with fail
        refine HJ.out.mono ?_
        rintro x w9 ⟨rfl, hb9⟩
        have HB9 := Lib.hid (HB8.out.trans (hb9.mono HB8.out.size))
        go_wp2_with fail
        go_ret2
        obtain ⟨f1, f2⟩ := line_good HGD.out
        unfold LineP
        rw [f1, f2]
        exact ⟨rfl, HB9.out⟩
      · have HBAD : Hid (¬ Good e) := fun hg => hok (HGG.out.1 hg)
        clear hok
        go_wp2_with fail
        skip
        -- no line is told: HBX : Below w.heap.size w WX; HBAD : Hid (¬ Good e)
        go_ret2
        obtain ⟨f1, f2⟩ := line_bad HBAD.out
        unfold LineP
        rw [f1, f2]
        exact ⟨rfl, HBX.out⟩
    have m6 : (e.k == 6) = false := beq_eq_false_iff_ne.2 k6
    have HRS : Hid (restE e = [idText e.id]) := by show _ = _; unfold restE; rw [if_neg k1, if_neg k2, if_neg (by omega)]
    have HGD : Hid (Good e) := ⟨HKK.out, HEO.out, fun h56 => by omega⟩
    have HIT := Lib.hid (idText_any (idA e.id) e.id w3 (idA_toList _) HWF.out.id)
    clear k1 k2 k5 k6
    go_upto_region 7 with fail
    go_wp2_with (refine loadM (by rfl) 25 _ rfl w.heap.size 67 rfl (idA e.id) _ HEV.out.id Tryd.underlying25 rfl (infoId _ (by rw [idA_size, HWF.out.id])) ?_)
    refine HIT.out.mono ?_
    rintro x w4 ⟨rfl, hb4⟩
    have hal := Below.allocs w4 (.cells #[.string (S (idText e.id))] 9)
    have hb5 := hb4.trans (hal.mono hb4.size)
    have HO4 := Lib.hid (own_touch HO3.out (Turns.of_below (S := fun _ => False) hb5) (fun _ _ h => h))
    have HXW : Hid (Ws (w4.alloc (.cells #[.string (S (idText e.id))] 9)) (some ⟨w4.heap.size, 0, none⟩) 1 1 (restE e)) := by
      show Ws _ _ _ _ _
      rw [HRS.out]
      exact Ws.row (ls := [idText e.id]) (heap_alloc_last w4 _) rfl (by show 1 ≤ _; omega)
    have HBX := Lib.hid (HB3.out.trans (hb5.mono HB3.out.size))
    clear hal hb4 hb5 HO3 HB3 HR3 HAT3 HEV HIT hk hkb hkt hkn hu0 hu1 hu2
    skip
    -- the words are joined: world w4.alloc (.cells #[.string (S (idText e.id))] 9); HO4 : the name's slice of its own; HXW : Hid (Ws w4.alloc (.cells #[.string (S (idText e.id))] 9) PL 1 CL (restE e)); HBX : Hid (Below w.heap.size w w4.alloc (.cells #[.string (S (idText e.id))] 9)); HGD : Hid (Good e)
    have HNL : Hid (1 ≤ 100004) := by show _ ≤ _; have h1 := HXW.out.length; have h2 := rest_len e; have h3 := HTX.out; omega
    have hnl := HNL.out
    have HSZ : Hid (w.heap.size ≤ (w4.alloc (.cells #[.string (S (idText e.id))] 9)).heap.size) := HBX.out.size
    go_upto_region 22 with fail
    go_wp2_with (at_builtin; refine wpList_append_nx rfl _ _ 65 rfl (base := w.heap.size) Tryd.underlying65 infoStr rfl (by omega) rfl HO4.out rfl HXW.out (strV_one _) ⟨by omega, by omega⟩ HSZ.out ?_)
    intro p' c' w8 ho8 hgr hnx _
    have hb8 := own_below HO4.out hgr HSZ.out
    have HB8 := Lib.hid (HBX.out.trans hb8)
    have HWS : Hid (Ws w8 p' (1 + 1) c' (wordsE e)) := by
      have := own_ws (ls := [K6.getD e.k.toNat []] ++ restE e) (by rw [strV_app]; exact ho8)
      exact this
    have HLT := Lib.hid ho8.lt
    clear ho8 hgr hnx hb8 HO4 HXW HBX HSZ
    obtain ⟨b, o, rfl⟩ := HWS.out.addr (by omega) (by omega)
    have HJ := Lib.hid (join_any b o (1 + 1) c' (wordsE e) w8 HWS.out (HLT.out _ rfl).2 (by omega) (by
      have h1 := join_le (wordsE e) 200001 (words_short HGD.out HWF.out HBY.out)
      have h2 : (wordsE e).length ≤ 100005 := by have := HWS.out.length; omega
      have h3 : (wordsE e).length * (200001 + 1) ≤ 100005 * 200002 := Nat.mul_le_mul_right _ h2
      omega))
    go_wp2_with fail
    refine HJ.out.mono ?_
    rintro x w9 ⟨rfl, hb9⟩
    have HB9 := Lib.hid (HB8.out.trans (hb9.mono HB8.out.size))
    go_wp2_with fail
    go_ret2
    obtain ⟨f1, f2⟩ := line_good HGD.out
    unfold LineP
    rw [f1, f2]
    exact ⟨rfl, HB9.out⟩
end Go.Proofs.YtcddgbobbogpgaaDoor.Scr

namespace Go.Proofs.YtcddgbobbogpgaaDoor.Scr
open Go.RowKit Go.Mir Go.Mir.Hx Go.Mir.Parts HexW Rpl

def idsT (ws : List (List UInt8)) : List (List UInt8) := ws.map fun x => (idL x).getD zeros
def IdsR (ws : List (List UInt8)) (w : World) (e : Ending) (w' : World) : Prop := Below w.heap.size w w' ∧
  ((∃ l p c, idsB ws = some l ∧ e = .returned (.tuple #[.slice p l.length c, .bool true]) ∧ Is w' p l.length c 32 l ∧ (∀ a, p = some a → w.heap.size ≤ a.block)) ∨ (idsB ws = none ∧ e = .returned (.tuple #[.slice none 0 0, .bool false])))
theorem made_id (w : World) (y : List UInt8) (M : Array Value) (t : TypeId) (hM : M.toList = bytesV y) (hy : y.length = 32) : Sl (w.alloc (.cells M t)) (some ⟨w.heap.size, 0, none⟩) 1 1 32 (bytesV y) :=
  ⟨by rw [bytesV_length, hy], Nat.le_refl _, by omega, fun h => (by cases h), fun a ha j u hu => by
    obtain rfl := Option.some.inj ha
    rw [add_none, cell_of_row _ _ _ _ _ _ (heap_alloc_last _ _), ← Array.getElem?_toList, hM, Nat.zero_add]; exact hu⟩
theorem ids_end {w w' : World} {p : Option Addr} {c : Nat} {ws : List (List UInt8)} (h : w'.ownsRow w.heap.size 25 32 (.slice p ws.length c) ws.length ((idsT ws).flatMap bytesV)) (hs : ∀ x ∈ ws, (idL x).isSome = true) (hl : ∀ x ∈ idsT ws, x.length = 32) (hb : Below w.heap.size w w') :
    IdsR ws w (.returned (.tuple #[.slice p ws.length c, .bool true])) w' := by
  refine ⟨hb, .inl ⟨idsT ws, p, c, if_pos hs, by rw [show (idsT ws).length = ws.length from List.length_map _], ?_, fun a ha => ?_⟩⟩
  · obtain ⟨p1, c1, he, hsl⟩ := own_sl h
    cases he
    rw [show (idsT ws).length = ws.length from List.length_map _]
    exact ⟨hsl, hl, List.length_map _⟩
  · subst ha
    rcases h.2 with ⟨e, _⟩ | ⟨g, cap, cur, e, hg, _⟩
    · cases e
    · cases e; exact hg
theorem infoIdB (_M : Array Value) : (Tryd.prog.info? 25).map (fun i => (i.zero.isSome, i.size)) = some (true, 32) := by kernel_rfl
set_option maxRecDepth 100000 in
set_option maxHeartbeats 3200000 in
theorem ids_any (q : Option Addr) (n c : Nat) (ws : List (List UInt8)) (w : World) (hW : Ws w q n c ws) (hn : n ≤ 1000000) (hl : ∀ x ∈ ws, x.length ≤ 1099511627776) :
    Calls Tryd.prog 53 #[.slice q n c] w (IdsR ws w) := by
  have HWS := Lib.hid hW
  have HLL := Lib.hid hl
  obtain rfl : ws.length = n := hW.length
  have hle := hW.le
  have hmax := hW.max
  clear hW hl
  have hzi := zeroId
  go_enter Tryd.func53, Tryd.ntmps53
  go_wp2_with fail
  go_loopw [4, 6, 7, 8, 11] (fun v _ _ _ j wr => ∃ (i : Nat) (p : Option Addr) (k : Nat), i ≤ ws.length ∧ j = .int .i64 i ∧ v = .slice p i k ∧ wr.ownsRow w.heap.size 25 32 v i ((idsT (ws.take i)).flatMap bytesV) ∧ (∀ x ∈ ws.take i, (idL x).isSome = true) ∧ (∀ x ∈ idsT (ws.take i), x.length = 32) ∧ Below w.heap.size w wr) (fun v _ _ _ j _ => ws.length - (intOf j).toNat)
  case atStart => exact ⟨0, none, 0, by omega, rfl, rfl, World.ownsRow_nil _ _ _ _, fun x hx => by simp at hx, fun x hx => by simp [idsT] at hx, Below.refl _ _⟩
  case round =>
    obtain ⟨i, p, k, hi, rfl, rfl, ho, hs, h32, hb⟩ := hrel
    have HO := Lib.hid ho
    have HSM := Lib.hid hs
    have H32 := Lib.hid h32
    have HB := Lib.hid hb
    clear ho hs h32 hb
    by_cases hlt : i < ws.length
    · have hd : decide ((i : Int) < (ws.length : Int)) = true := decide_eq_true (by omega)
      have hd2 : decide (i < ws.length) = true := decide_eq_true hlt
      obtain ⟨b, o, rfl⟩ := HWS.out.addr (by omega) (by omega)
      have hcx := cell_below (HWS.out.str hlt) HB.out
      have HTK : Hid (ws.take (i + 1) = ws.take i ++ [ws[i]]) := List.take_succ_eq_append_getElem hlt
      have HMEM : Hid (ws[i] ∈ ws) := List.getElem_mem hlt
      generalize ws[i] = x at *
      have HID := Lib.hid (idOf_any x wr (HLL.out x HMEM.out))
      go_wp2_with fail
      refine HID.out.mono ?_
      rintro y w6 ⟨hb6, hcase⟩
      have HO6 := Lib.hid (own_touch HO.out (Turns.of_below (S := fun _ => False) hb6) (fun _ _ h => h))
      have HB6 := Lib.hid (HB.out.trans (hb6.mono HB.out.size))
      clear hb6 HID hcx
      rcases hcase with ⟨z, M, hz, hzl, hM, rfl⟩ | ⟨hz, M, hM, rfl⟩
      · have hMs : M.size = 32 := by rw [← Array.length_toList, hM, bytesV_length, hzl]
        obtain ⟨_, hMo⟩ := row_id hM hzl
        have hb7 := box_below w6 Z32 M 25
        have HRW := Lib.hid (box_row w6 Z32 M 25)
        have HO7 := Lib.hid (own_touch HO6.out (Turns.of_below (S := fun _ => False) hb7) (fun _ _ h => h))
        have HB7 := Lib.hid (HB6.out.trans (hb7.mono HB6.out.size))
        have HMS := Lib.hid hMs
        have HMM := Lib.hid hM
        have HZ := Lib.hid hz
        have HZL := Lib.hid hzl
        have HMO := Lib.hid hMo
        clear hb7 HO6 HB6 hMs hMo hM hz hzl
        go_upto_region 8 with ((with_reducible refine wpStoreAt 7 ?_); refine wpList_store_row rfl 25 _ _ rfl w6.heap.size M rfl rfl 25 Z32 (box_new _ _ _) (infoId _ HMS.out) (by rw [HMS.out]; rfl) HMO.out ?_)
        generalize (w6.alloc (.cells Z32 25)).setRow w6.heap.size M = w7 at *
        have hal := Below.allocs w7 (.cells M 25)
        have HO8 := Lib.hid (own_touch HO7.out (Turns.of_below (S := fun _ => False) hal) (fun _ _ h => h))
        have HX8 := Lib.hid (made_id w7 z M 25 HMM.out HZL.out)
        have HB8 := Lib.hid (HB7.out.trans (hal.mono HB7.out.size))
        have HS8 := Lib.hid HB8.out.size
        clear hal HO7 HB7
        go_wp2_with (first
          | ((with_reducible refine wpAt 23 ?_); refine wpList_load_row rfl 25 _ rfl w6.heap.size rfl 25 M (0, 0) _ HRW.out Tryd.underlying25 rfl (infoId _ HMS.out) ?_)
          | refine wpList_buildOne rfl 26 25 _ rfl M rfl 32 Tryd.underlying26 (infoIdB M) (by omega) (by omega) HMS.out ?_
          | (at_builtin; refine wpList_append_nx rfl _ _ 26 rfl (base := w.heap.size) Tryd.underlying26 infoIds (by rw [show (Value.agg Z32).cells = Z32 from rfl]; exact Z32_size) (by omega) rfl HO8.out rfl HX8.out (bytesV_one _) ⟨by omega, by omega⟩ HS8.out ?_))
        intro p9 c9 w9 ho9 hgr hnx _
        have HB9 := Lib.hid (HB8.out.trans (own_below HO8.out hgr HS8.out))
        have HTT : Hid (idsT (ws.take (i + 1)) = idsT (ws.take i) ++ [z]) := by
          show _ = _
          rw [HTK.out]
          unfold idsT
          rw [List.map_append, List.map_cons, HZ.out]; rfl
        have HO9 : Hid (w9.ownsRow w.heap.size 25 32 (.slice p9 (i + 1) c9) (i + 1) ((idsT (ws.take (i + 1))).flatMap bytesV)) := by
          show World.ownsRow _ _ _ _ _ _ _
          rw [HTT.out, List.flatMap_append]
          simpa using ho9
        have HS9 : Hid (∀ y ∈ ws.take (i + 1), (idL y).isSome = true) := fun y hy => by
          rw [HTK.out, List.mem_append, List.mem_singleton] at hy
          rcases hy with hy | rfl
          · exact HSM.out y hy
          · rw [HZ.out]; rfl
        have H39 : Hid (∀ y ∈ idsT (ws.take (i + 1)), y.length = 32) := fun y hy => by
          rw [HTT.out, List.mem_append, List.mem_singleton] at hy
          rcases hy with hy | rfl
          · exact H32.out y hy
          · exact HZL.out
        clear ho9 hgr hnx HO8 HX8 HB8 HS8 HTT HRW HMS HMM
        go_wp2_with fail
        go_roundw
        case rel => exact ⟨i + 1, p9, c9, by omega, by go_num, rfl, HO9.out, HS9.out, H39.out, HB9.out⟩
        case measure => simp [intOf]; omega
      · have HBAD : Hid (idsB ws = none) := if_neg (fun h => by have := h x HMEM.out; rw [hz] at this; cases this)
        have hMs : M.size = 32 := by rw [← Array.length_toList, hM, bytesV_length]; rfl
        obtain ⟨_, hMo⟩ := row_id (x := zeros) hM rfl
        have hb7 := box_below w6 Z32 M 25
        have HB7 := Lib.hid (HB6.out.trans (hb7.mono HB6.out.size))
        have HMS := Lib.hid hMs
        have HMO := Lib.hid hMo
        clear hb7 hMs hMo hM hz
        go_upto_region 7 with ((with_reducible refine wpStoreAt 7 ?_); refine wpList_store_row rfl 25 _ _ rfl w6.heap.size M rfl rfl 25 Z32 (box_new _ _ _) (infoId _ HMS.out) (by rw [HMS.out]; rfl) HMO.out ?_)
        generalize (w6.alloc (.cells Z32 25)).setRow w6.heap.size M = w7 at *
        go_wp2_with fail
        go_ret2
        exact ⟨HB7.out, .inr ⟨HBAD.out, rfl⟩⟩
    · have hd : decide ((i : Int) < (ws.length : Int)) = false := decide_eq_false (by omega)
      have hd2 : decide (i < ws.length) = false := decide_eq_false hlt
      obtain rfl : i = ws.length := by omega
      have HE : Hid (IdsR ws w (.returned (.tuple #[.slice p ws.length k, .bool true])) wr) := by
        have h1 := HO.out
        have h2 := HSM.out
        have h3 := H32.out
        rw [List.take_length] at h1 h2 h3
        exact ids_end h1 h2 h3 HB.out
      go_wp2_with fail
      go_ret2
      exact HE.out
set_option maxRecDepth 100000 in
set_option maxHeartbeats 3200000 in
theorem rids_any (q : Option Addr) (n c : Nat) (ws : List (List UInt8)) (w : World) (hW : Ws w q n c ws) (hn : n ≤ 1000000) (hl : ∀ x ∈ ws, x.length ≤ 1099511627776) :
    Calls Tryd.prog 39 #[.slice q n c] w (IdsR ws w) := by
  have HWS := Lib.hid hW
  have HLL := Lib.hid hl
  obtain rfl : ws.length = n := hW.length
  have hle := hW.le
  have hmax := hW.max
  clear hW hl
  have hzi := zeroId
  go_enter Tryd.func39, Tryd.ntmps39
  go_wp2_with fail
  go_loopw [4, 5, 6, 7] (fun v j _ _ wr => ∃ (i : Nat) (p : Option Addr) (k : Nat), i ≤ ws.length ∧ j = .int .i64 i ∧ v = .slice p i k ∧ wr.ownsRow w.heap.size 25 32 v i ((idsT (ws.take i)).flatMap bytesV) ∧ (∀ x ∈ ws.take i, (idL x).isSome = true) ∧ (∀ x ∈ idsT (ws.take i), x.length = 32) ∧ Below w.heap.size w wr) (fun v j _ _ _ => ws.length - (intOf j).toNat)
  case atStart => exact ⟨0, none, 0, by omega, rfl, rfl, World.ownsRow_nil _ _ _ _, fun x hx => by simp at hx, fun x hx => by simp [idsT] at hx, Below.refl _ _⟩
  case round =>
    obtain ⟨i, p, k, hi, rfl, rfl, ho, hs, h32, hb⟩ := hrel
    have HO := Lib.hid ho
    have HSM := Lib.hid hs
    have H32 := Lib.hid h32
    have HB := Lib.hid hb
    clear ho hs h32 hb
    by_cases hlt : i < ws.length
    · have hd : decide ((i : Int) < (ws.length : Int)) = true := decide_eq_true (by omega)
      have hd2 : decide (i < ws.length) = true := decide_eq_true hlt
      obtain ⟨b, o, rfl⟩ := HWS.out.addr (by omega) (by omega)
      have hcx := cell_below (HWS.out.str hlt) HB.out
      have HTK : Hid (ws.take (i + 1) = ws.take i ++ [ws[i]]) := List.take_succ_eq_append_getElem hlt
      have HMEM : Hid (ws[i] ∈ ws) := List.getElem_mem hlt
      generalize ws[i] = x at *
      have HID := Lib.hid (rIdOf_any x wr (HLL.out x HMEM.out))
      go_wp2_with fail
      refine HID.out.mono ?_
      rintro y w6 ⟨hb6, hcase⟩
      have HO6 := Lib.hid (own_touch HO.out (Turns.of_below (S := fun _ => False) hb6) (fun _ _ h => h))
      have HB6 := Lib.hid (HB.out.trans (hb6.mono HB.out.size))
      clear hb6 HID hcx
      rcases hcase with ⟨z, M, hz, hzl, hM, rfl⟩ | ⟨hz, M, hM, rfl⟩
      · have hMs : M.size = 32 := by rw [← Array.length_toList, hM, bytesV_length, hzl]
        obtain ⟨_, hMo⟩ := row_id hM hzl
        have hb7 := box_below w6 Z32 M 25
        have HRW := Lib.hid (box_row w6 Z32 M 25)
        have HO7 := Lib.hid (own_touch HO6.out (Turns.of_below (S := fun _ => False) hb7) (fun _ _ h => h))
        have HB7 := Lib.hid (HB6.out.trans (hb7.mono HB6.out.size))
        have HMS := Lib.hid hMs
        have HMM := Lib.hid hM
        have HZ := Lib.hid hz
        have HZL := Lib.hid hzl
        have HMO := Lib.hid hMo
        clear hb7 HO6 HB6 hMs hMo hM hz hzl
        go_upto_region 8 with ((with_reducible refine wpStoreAt 6 ?_); refine wpList_store_row rfl 25 _ _ rfl w6.heap.size M rfl rfl 25 Z32 (box_new _ _ _) (infoId _ HMS.out) (by rw [HMS.out]; rfl) HMO.out ?_)
        generalize (w6.alloc (.cells Z32 25)).setRow w6.heap.size M = w7 at *
        have hal := Below.allocs w7 (.cells M 25)
        have HO8 := Lib.hid (own_touch HO7.out (Turns.of_below (S := fun _ => False) hal) (fun _ _ h => h))
        have HX8 := Lib.hid (made_id w7 z M 25 HMM.out HZL.out)
        have HB8 := Lib.hid (HB7.out.trans (hal.mono HB7.out.size))
        have HS8 := Lib.hid HB8.out.size
        clear hal HO7 HB7
        go_wp2_with (first
          | ((with_reducible refine wpAt 25 ?_); refine wpList_load_row rfl 25 _ rfl w6.heap.size rfl 25 M (0, 0) _ HRW.out Tryd.underlying25 rfl (infoId _ HMS.out) ?_)
          | refine wpList_buildOne rfl 26 25 _ rfl M rfl 32 Tryd.underlying26 (infoIdB M) (by omega) (by omega) HMS.out ?_
          | (at_builtin; refine wpList_append_nx rfl _ _ 26 rfl (base := w.heap.size) Tryd.underlying26 infoIds (by rw [show (Value.agg Z32).cells = Z32 from rfl]; exact Z32_size) (by omega) rfl HO8.out rfl HX8.out (bytesV_one _) ⟨by omega, by omega⟩ HS8.out ?_))
        intro p9 c9 w9 ho9 hgr hnx _
        have HB9 := Lib.hid (HB8.out.trans (own_below HO8.out hgr HS8.out))
        have HTT : Hid (idsT (ws.take (i + 1)) = idsT (ws.take i) ++ [z]) := by
          show _ = _
          rw [HTK.out]
          unfold idsT
          rw [List.map_append, List.map_cons, HZ.out]; rfl
        have HO9 : Hid (w9.ownsRow w.heap.size 25 32 (.slice p9 (i + 1) c9) (i + 1) ((idsT (ws.take (i + 1))).flatMap bytesV)) := by
          show World.ownsRow _ _ _ _ _ _ _
          rw [HTT.out, List.flatMap_append]
          simpa using ho9
        have HS9 : Hid (∀ y ∈ ws.take (i + 1), (idL y).isSome = true) := fun y hy => by
          rw [HTK.out, List.mem_append, List.mem_singleton] at hy
          rcases hy with hy | rfl
          · exact HSM.out y hy
          · rw [HZ.out]; rfl
        have H39 : Hid (∀ y ∈ idsT (ws.take (i + 1)), y.length = 32) := fun y hy => by
          rw [HTT.out, List.mem_append, List.mem_singleton] at hy
          rcases hy with hy | rfl
          · exact H32.out y hy
          · exact HZL.out
        clear ho9 hgr hnx HO8 HX8 HB8 HS8 HTT HRW HMS HMM
        go_wp2_with fail
        go_roundw
        case rel => exact ⟨i + 1, p9, c9, by omega, by go_num, rfl, HO9.out, HS9.out, H39.out, HB9.out⟩
        case measure => simp [intOf]; omega
      · have HBAD : Hid (idsB ws = none) := if_neg (fun h => by have := h x HMEM.out; rw [hz] at this; cases this)
        have hMs : M.size = 32 := by rw [← Array.length_toList, hM, bytesV_length]; rfl
        obtain ⟨_, hMo⟩ := row_id (x := zeros) hM rfl
        have hb7 := box_below w6 Z32 M 25
        have HB7 := Lib.hid (HB6.out.trans (hb7.mono HB6.out.size))
        have HMS := Lib.hid hMs
        have HMO := Lib.hid hMo
        clear hb7 hMs hMo hM hz
        go_upto_region 7 with ((with_reducible refine wpStoreAt 6 ?_); refine wpList_store_row rfl 25 _ _ rfl w6.heap.size M rfl rfl 25 Z32 (box_new _ _ _) (infoId _ HMS.out) (by rw [HMS.out]; rfl) HMO.out ?_)
        generalize (w6.alloc (.cells Z32 25)).setRow w6.heap.size M = w7 at *
        go_wp2_with fail
        go_ret2
        exact ⟨HB7.out, .inr ⟨HBAD.out, rfl⟩⟩
    · have hd : decide ((i : Int) < (ws.length : Int)) = false := decide_eq_false (by omega)
      have hd2 : decide (i < ws.length) = false := decide_eq_false hlt
      obtain rfl : i = ws.length := by omega
      have HE : Hid (IdsR ws w (.returned (.tuple #[.slice p ws.length k, .bool true])) wr) := by
        have h1 := HO.out
        have h2 := HSM.out
        have h3 := H32.out
        rw [List.take_length] at h1 h2 h3
        exact ids_end h1 h2 h3 HB.out
      go_wp2_with fail
      go_ret2
      exact HE.out
end Go.Proofs.YtcddgbobbogpgaaDoor.Scr

namespace Go.Proofs.YtcddgbobbogpgaaDoor.Scr
open Go.RowKit Go.Mir Go.Mir.Hx Go.Mir.Parts HexW Rpl

theorem kind_is {s : List UInt8} {i : Nat} (h : 1 ≤ i ∧ i ≤ 6) (e : K6.getD i [] = s) : kindB s = i := by
  have hc : i = 1 ∨ i = 2 ∨ i = 3 ∨ i = 4 ∨ i = 5 ∨ i = 6 := by omega
  subst e
  rcases hc with rfl | rfl | rfl | rfl | rfl | rfl <;> rfl
theorem kind_none {s : List UInt8} (h : ∀ i, 1 ≤ i ∧ i ≤ 6 → ¬ K6.getD i [] = s) : kindB s = 0 := by
  unfold kindB
  rw [if_neg (fun e => h 1 (by omega) e.symm), if_neg (fun e => h 2 (by omega) e.symm), if_neg (fun e => h 3 (by omega) e.symm), if_neg (fun e => h 4 (by omega) e.symm), if_neg (fun e => h 5 (by omega) e.symm), if_neg (fun e => h 6 (by omega) e.symm)]
set_option maxRecDepth 100000 in
set_option maxHeartbeats 1600000 in
theorem rkind_any (s : List UInt8) (w : World) : Calls Tryd.prog 36 #[.string (S s)] w fun e w' => e = .returned (.int .i64 (kindB s : Int)) ∧ Below w.heap.size w w' := by
  go_enter Tryd.func36, Tryd.ntmps36
  go_wp2_with fail
  go_loopw [3] (fun j wr => ∃ i : Nat, 1 ≤ i ∧ i ≤ 7 ∧ j = .int .i64 i ∧ (∀ k, 1 ≤ k ∧ k < i → ¬ K6.getD k [] = s) ∧ Below w.heap.size w wr) (fun j _ => 7 - (intOf j).toNat)
  case atStart => exact ⟨1, by omega, by omega, rfl, fun k hk => by omega, Below.refl _ _⟩
  case round =>
    obtain ⟨i, h1, h7, rfl, hno, hb⟩ := hrel
    have HNO := Lib.hid hno
    have HB := Lib.hid hb
    clear hno hb
    by_cases hlt : i < 7
    · have hd : decide ((i : Int) < 7) = true := decide_eq_true (by omega)
      have hd2 : decide (i < 7) = true := decide_eq_true hlt
      have hi1 : (i : Int) < 7 := by omega
      go_wp2_with fail
      refine (rnames_any wr).mono ?_
      rintro x w2 ⟨rfl, hws, hb2⟩
      have hik : i < K6.length := hlt
      have hcx := hws.str hik
      rw [Nat.zero_add] at hcx
      have HGE : Hid (K6.getD i [] = K6[i]) := by
        show _ = _
        rw [List.getD_eq_getElem?_getD, List.getElem?_eq_getElem hik]; rfl
      have HB2 := Lib.hid (HB.out.trans (hb2.mono HB.out.size))
      generalize K6[i] = y at *
      clear hws hb2
      by_cases hy : y = s
      · have hq : (y == s) = true := beq_iff_eq.2 hy
        have HK : Hid (kindB s = i) := kind_is ⟨h1, by omega⟩ (HGE.out.trans hy)
        clear hy hik
        go_wp2_with fail
        go_ret
        exact ⟨by rw [HK.out]; rfl, HB2.out⟩
      · have hq : (y == s) = false := beq_eq_false_iff_ne.2 hy
        have HN2 : Hid (∀ k, 1 ≤ k ∧ k < i + 1 → ¬ K6.getD k [] = s) := fun k hk => by
          by_cases hki : k = i
          · subst hki; rw [HGE.out]; exact hy
          · exact HNO.out k (by omega)
        clear hy hik
        go_wp2_with fail
        go_roundw
        case rel => exact ⟨i + 1, by omega, by omega, by go_num, HN2.out, HB2.out⟩
        case measure => simp [intOf]; omega
    · obtain rfl : i = 7 := by omega
      have hd : decide ((7 : Int) < 7) = false := by decide
      have HK : Hid (kindB s = 0) := kind_none (fun k hk => HNO.out k (by omega))
      go_wp2_with fail
      go_ret
      exact ⟨by rw [HK.out]; rfl, HB.out⟩
theorem results_ct {P : Program} {fn : Func} {p q : Tmp} {ty : TypeId} (h : fn.results = #[.cell p ty, .tmp q]) (tmps : Array Value) (w : World) (g : Nat) (t : TypeId) (cs : Array Value) (fr : Nat × Nat) (d : TypeDesc)
    (hp : tmps.getD p undef = .pointer (some ⟨g, 0, none⟩)) (hg : w.heap[g]? = some (.cells cs t fr))
    (hu : P.underlying ty = some d) (hd : (match d with | .struct _ | .array _ _ => true | _ => false) = true) (hi : (P.info? ty).map (·.size) = some cs.size) :
    (results fn tmps).run P w = .ok (.tuple #[.agg cs, tmps.getD q undef]) w := by
  have hp' : tmps[p]?.getD undef = .pointer (some ⟨g, 0, none⟩) := by simpa using hp
  simp [results, h, hp', asAddr, run_loadVar_row w g t ty cs fr d hg hu hd hi]
set_option maxRecDepth 100000 in
set_option maxHeartbeats 1600000 in
theorem rkeep_any (A : Array Value) (ok : Bool) (w : World) (hs : A.size = 103) (ho : A.all (·.oneCell') = true) :
    Calls Tryd.prog 38 #[.agg A, .bool ok] w fun e w' => e = .returned (.tuple #[.agg (if ok = true then A else zE), .bool ok]) ∧ Below w.heap.size w w' := by
  have hz := zeroF
  obtain ⟨a1, a2, a3, a4⟩ := Go.Mir.two_allocs w (.cells A 37) (.cells zE 37)
  have HR1 := Lib.hid a1
  have HR2 := Lib.hid a2
  have HB := Lib.hid a4
  have HS := Lib.hid hs
  have HO := Lib.hid ho
  have HZS : Hid (zE.size = 103) := zE_size
  have HZO : Hid (zE.all (·.oneCell') = true) := evA_one _ _ _ _ _
  have hbu : Tryd.prog.built 37 [] = some zE := built_f0
  have HBU := Lib.hid hbu
  clear a1 a2 a3 a4 hs ho hbu
  cases ok with
  | true =>
    go_enter Tryd.func38, Tryd.ntmps38
    go_upto_region 1 with fail
    generalize (w.alloc (.cells A 37)).alloc (.cells zE 37) = w1 at *
    go_wp2_with (first
      | refine wpList_load_row rfl 37 _ rfl w.heap.size rfl 37 A (0, 0) _ HR1.out Tryd.underlying37 rfl (infoF _ HS.out) ?_
      | refine wpList_store_row rfl 37 _ _ rfl (w.heap.size + 1) A rfl rfl 37 zE HR2.out (infoF _ HS.out) (by rw [HS.out]; exact HZS.out) HO.out ?_)
    have HSR := Lib.hid (setRow_heap _ _ _ A _ _ HR2.out)
    refine bodyPost_ret (results_ct rfl _ _ _ _ _ _ _ rfl HSR.out Tryd.underlying37 rfl (infoF _ HS.out)) rfl ?_
    exact ⟨rfl, below_setRow HB.out (by omega) _⟩
  | false =>
    go_enter Tryd.func38, Tryd.ntmps38
    go_upto_region 1 with fail
    generalize (w.alloc (.cells A 37)).alloc (.cells zE 37) = w1 at *
    go_wp2_with (first
      | refine Rdr.wpList_build rfl 37 _ rfl [] rfl _ HBU.out ?_
      | refine wpList_store_row rfl 37 _ _ rfl (w.heap.size + 1) zE rfl rfl 37 zE HR2.out (infoF _ HZS.out) rfl HZO.out ?_)
    have HSR := Lib.hid (setRow_heap _ _ _ zE _ _ HR2.out)
    refine bodyPost_ret (results_ct rfl _ _ _ _ _ _ _ rfl HSR.out Tryd.underlying37 rfl (infoF _ HZS.out)) rfl ?_
    exact ⟨rfl, below_setRow HB.out (by omega) _⟩
/-! ### numbers -/
theorem infoIntS : (Tryd.prog.info? 3).map (fun i => (i.zero, i.size, i.bytes)) = some (some (.int .i64 0), 1, 8) := by kernel_rfl
def natsV (l : List Nat) : List Value := l.map fun (n : Nat) => Value.int .i64 (n : Int)
theorem natsV_one (l : List Nat) : ∀ u ∈ natsV l, u.oneCell' = true := fun u hu => by
  obtain ⟨n, _, rfl⟩ := List.mem_map.1 hu; rfl
def numsT (most : Nat) (ws : List (List UInt8)) : List Nat := ws.map fun x => (numOf x most).1
theorem own_ap {w : World} {base t size : Nat} {p : Option Addr} {n c : Nat} {xs : List Value} (h : w.ownsRow base t size (.slice p n c) n xs) : ∀ a, p = some a → base ≤ a.block := fun a ha => by
  subst ha
  rcases h.2 with ⟨he, _⟩ | ⟨g', cap, cur, he, hb, _⟩
  · cases he
  · cases he; exact hb
def NumsR (many most : Nat) (ws : List (List UInt8)) (w : World) (e : Ending) (w' : World) : Prop := Below w.heap.size w w' ∧
  ((ws.length = many ∧ ∃ l p c, numsM most ws = some l ∧ e = .returned (.tuple #[.slice p l.length c, .bool true]) ∧ Sl w' p l.length c 1 (natsV l) ∧ (∀ a, p = some a → w.heap.size ≤ a.block)) ∨ ((¬ ws.length = many ∨ numsM most ws = none) ∧ e = .returned (.tuple #[.slice none 0 0, .bool false])))
set_option maxRecDepth 100000 in
set_option maxHeartbeats 3200000 in
theorem rnumbers_any (many most : Nat) (hmy : many ≤ 1000) (hmo : most ≤ 1000000) (q : Option Addr) (n c : Nat) (ws : List (List UInt8)) (w : World) (hW : Ws w q n c ws) (hl : ∀ x ∈ ws, x.length ≤ 1099511627776) :
    Calls Tryd.prog 40 #[.slice q n c, .int .i64 (many : Int), .int .u64 (most : Int)] w (NumsR many most ws w) := by
  have HWS := Lib.hid hW
  have HLL := Lib.hid hl
  obtain rfl : ws.length = n := hW.length
  have hle := hW.le
  have hmax := hW.max
  clear hW hl
  by_cases hlen : ws.length = many
  rotate_left
  · have q1 : ((ws.length : Int) == (many : Int)) = false := beq_eq_false_iff_ne.2 (by omega)
    have p1 : ((ws.length : Int) != (many : Int)) = true := bne_iff_ne.2 (by omega)
    have q2 : (ws.length == many) = false := beq_eq_false_iff_ne.2 hlen
    have p2 : (ws.length != many) = true := bne_iff_ne.2 hlen
    have HBAD : Hid (¬ ws.length = many) := hlen
    clear hlen
    go_enter Tryd.func40, Tryd.ntmps40
    go_wp2_with fail
    go_ret2
    exact ⟨Below.refl _ _, .inr ⟨.inl HBAD.out, rfl⟩⟩
  have q1 : ((ws.length : Int) == (many : Int)) = true := beq_iff_eq.2 (by omega)
  have p1 : ((ws.length : Int) != (many : Int)) = false := by rw [bne_eq_false_iff_eq]; omega
  have q2 : (ws.length == many) = true := beq_iff_eq.2 hlen
  have p2 : (ws.length != many) = false := by rw [bne_eq_false_iff_eq]; exact hlen
  have HLEN := Lib.hid hlen
  have hbig : ws.length ≤ 1000 := by omega
  clear hlen
  go_enter Tryd.func40, Tryd.ntmps40
  go_wp2_with fail
  clear q1 p1 q2 p2
  go_loopw [8, 9, 10, 11] (fun v j _ _ wr => ∃ (i : Nat) (p : Option Addr) (k : Nat), i ≤ ws.length ∧ j = .int .i64 i ∧ v = .slice p i k ∧ wr.ownsRow w.heap.size 3 1 v i (natsV (numsT most (ws.take i))) ∧ (∀ x ∈ ws.take i, (numOf x most).2 = 0) ∧ Below w.heap.size w wr) (fun _ j _ _ _ => ws.length - (intOf j).toNat)
  case atStart => exact ⟨0, none, 0, by omega, rfl, rfl, World.ownsRow_nil _ _ _ _, fun x hx => by simp at hx, Below.refl _ _⟩
  case round =>
    obtain ⟨i, p, k, hi, rfl, rfl, ho, hs, hb⟩ := hrel
    have HO := Lib.hid ho
    have HSM := Lib.hid hs
    have HB := Lib.hid hb
    clear ho hs hb
    by_cases hlt : i < ws.length
    · have hd : decide ((i : Int) < (ws.length : Int)) = true := decide_eq_true (by omega)
      have hd2 : decide (i < ws.length) = true := decide_eq_true hlt
      obtain ⟨b, o, rfl⟩ := HWS.out.addr (by omega) (by omega)
      have hcx := cell_below (HWS.out.str hlt) HB.out
      have HTK : Hid (ws.take (i + 1) = ws.take i ++ [ws[i]]) := List.take_succ_eq_append_getElem hlt
      have HMEM : Hid (ws[i] ∈ ws) := List.getElem_mem hlt
      generalize ws[i] = x at *
      have hnm := rNumOf_any x most wr (HLL.out x HMEM.out) (by omega)
      unfold NumP at hnm
      have HNM := Lib.hid hnm
      obtain ⟨V, hV⟩ : ∃ V, (numOf x most).1 = V := ⟨_, rfl⟩
      obtain ⟨E, hE⟩ : ∃ E, (numOf x most).2 = E := ⟨_, rfl⟩
      rw [hV, hE] at HNM
      have HV := Lib.hid hV
      have HE := Lib.hid hE
      clear hnm hV hE
      go_wp2_with fail
      refine HNM.out.mono ?_
      rintro y w6 ⟨rfl, hb6⟩
      have HO6 := Lib.hid (own_touch HO.out (Turns.of_below (S := fun _ => False) hb6) (fun _ _ h => h))
      have HB6 := Lib.hid (HB.out.trans (hb6.mono HB.out.size))
      clear hb6 HNM hcx
      by_cases he : E = 0
      · have q1 : (E == 0) = true := beq_iff_eq.2 he
        have p1 : (E != 0) = false := by rw [bne_eq_false_iff_eq]; exact he
        have HVL : Hid (V ≤ 1000000) := by
          show _ ≤ _
          have := (numOf_back (l := x) (most := most) (by rw [HE.out]; exact he)).2
          rw [HV.out] at this
          omega
        have hw : IntKind.i64.wrap (V : Int) = (V : Int) := by rw [IntKind.wrap_i64]; have := HVL.out; omega
        have HTT : Hid (numsT most (ws.take (i + 1)) = numsT most (ws.take i) ++ [V]) := by
          show _ = _
          rw [HTK.out]
          unfold numsT
          rw [List.map_append, List.map_cons, HV.out]; rfl
        have HS9 : Hid (∀ y ∈ ws.take (i + 1), (numOf y most).2 = 0) := fun y hy => by
          rw [HTK.out, List.mem_append, List.mem_singleton] at hy
          rcases hy with hy | rfl
          · exact HSM.out y hy
          · rw [HE.out]; exact he
        clear he
        have hal := Below.allocs w6 (.cells #[.int .i64 (V : Int)] 3)
        have HO8 := Lib.hid (own_touch HO6.out (Turns.of_below (S := fun _ => False) hal) (fun _ _ h => h))
        have HX8 : Hid (Sl (w6.alloc (.cells #[.int .i64 (V : Int)] 3)) (some ⟨w6.heap.size, 0, none⟩) 1 1 1 (natsV [V])) := Zs.lit w6 3 [(V : Int)] (show 1 ≤ 65536 by decide)
        have HB8 := Lib.hid (HB6.out.trans (hal.mono HB6.out.size))
        have HS8 := Lib.hid HB8.out.size
        clear hal HO6 HB6
        go_wp2_with (at_builtin; refine wpList_append_nx rfl _ _ 90 rfl (base := w.heap.size) Tryd.underlying90 infoIntS rfl (by omega) rfl HO8.out rfl HX8.out (natsV_one _) ⟨by omega, by omega⟩ HS8.out ?_)
        intro p9 c9 w9 ho9 hgr hnx _
        have HB9 := Lib.hid (HB8.out.trans (own_below HO8.out hgr HS8.out))
        have HO9 : Hid (w9.ownsRow w.heap.size 3 1 (.slice p9 (i + 1) c9) (i + 1) (natsV (numsT most (ws.take (i + 1))))) := by
          show World.ownsRow _ _ _ _ _ _ _
          rw [HTT.out]
          unfold natsV at ho9 ⊢
          rw [List.map_append]
          exact ho9
        clear ho9 hgr hnx HO8 HX8 HB8 HS8 HTT
        go_wp2_with fail
        go_roundw
        case rel => exact ⟨i + 1, p9, c9, by omega, by go_num, rfl, HO9.out, HS9.out, HB9.out⟩
        case measure => simp [intOf]; omega
      · have q1 : (E == 0) = false := beq_eq_false_iff_ne.2 he
        have p1 : (E != 0) = true := bne_iff_ne.2 he
        have HBAD : Hid (numsM most ws = none) := if_neg (fun h => he (by rw [← HE.out]; exact h x HMEM.out))
        clear he
        go_wp2_with fail
        go_ret2
        exact ⟨HB6.out, .inr ⟨.inr HBAD.out, rfl⟩⟩
    · have hd : decide ((i : Int) < (ws.length : Int)) = false := decide_eq_false (by omega)
      have hd2 : decide (i < ws.length) = false := decide_eq_false hlt
      obtain rfl : i = ws.length := by omega
      have HEND : Hid (NumsR many most ws w (.returned (.tuple #[.slice p ws.length k, .bool true])) wr) := by
        have h1 := HO.out
        have h2 := HSM.out
        rw [List.take_length] at h1 h2
        obtain ⟨p1, c1, he1, hsl⟩ := own_sl h1
        cases he1
        refine ⟨HB.out, .inl ⟨HLEN.out, numsT most ws, p, k, if_pos h2, by rw [show (numsT most ws).length = ws.length from List.length_map _], ?_, own_ap h1⟩⟩
        rw [show (numsT most ws).length = ws.length from List.length_map _]
        exact hsl
      go_wp2_with fail
      go_ret2
      exact HEND.out
end Go.Proofs.YtcddgbobbogpgaaDoor.Scr

namespace Go.Proofs.YtcddgbobbogpgaaDoor.Scr
open Go.RowKit Go.Mir Go.Mir.Hx Go.Mir.Parts HexW Rpl

def puts (A : Array Value) : List Nat → List Nat → Array Value
  | o :: os, v :: vs => puts (A.setIfInBounds o (.int .i64 (v : Int))) os vs
  | _, _ => A
theorem puts_size : ∀ (os vs : List Nat) (A : Array Value), (puts A os vs).size = A.size
  | [], _, _ => by unfold puts; rfl
  | _ :: _, [], _ => rfl
  | o :: os, v :: vs, A => by rw [puts, puts_size os vs]; simp
theorem puts_snoc : ∀ (os vs : List Nat) (A : Array Value) (o v : Nat), os.length = vs.length → puts A (os ++ [o]) (vs ++ [v]) = (puts A os vs).setIfInBounds o (.int .i64 (v : Int))
  | [], [], A, o, v, _ => by simp [puts]
  | [], _ :: _, _, _, _, h => by simp at h
  | _ :: _, [], _, _, _, h => by simp at h
  | o' :: os, v' :: vs, A, o, v, h => by
    rw [List.cons_append, List.cons_append, puts, puts, puts_snoc os vs _ o v (by simpa using h)]
theorem puts_nil (A : Array Value) (vs : List Nat) : puts A [] vs = A := by unfold puts; rfl
def ptrsV (g : Nat) (os : List Nat) : List Value := os.map fun o => Value.pointer (some ⟨g, o, none⟩)
/-- what numbers leaves of a box g -/
def NumW (g : Nat) (t : TypeId) (A : Array Value) (os : List Nat) (most : Nat) (ws : List (List UInt8)) (w : World) (e : Ending) (w' : World) : Prop := Turns (fun k => k = g) w w' ∧
  ((ws.length = os.length ∧ ∃ l, numsM most ws = some l ∧ e = .returned (.bool true) ∧ w'.heap[g]? = some (.cells (puts A os l) t (0, 0))) ∨
   ((¬ ws.length = os.length ∨ numsM most ws = none) ∧ e = .returned (.bool false) ∧ ∃ A', A'.size = A.size ∧ w'.heap[g]? = some (.cells A' t (0, 0))))
set_option maxRecDepth 100000 in
set_option maxHeartbeats 3200000 in
theorem numbers_any (g : Nat) (t : TypeId) (A : Array Value) (os : List Nat) (hos : ∀ o ∈ os, o < A.size) (hol : os.length ≤ 1000) (most : Nat) (hmo : most ≤ 1000000) (q : Option Addr) (n c : Nat) (ws : List (List UInt8)) (pt : Option Addr) (ct : Nat) (w : World) (hg : w.heap[g]? = some (.cells A t (0, 0)))
    (hW : ∀ w', Turns (fun k => k = g) w w' → Ws w' q n c ws) (hT : ∀ w', Turns (fun k => k = g) w w' → Sl w' pt os.length ct 1 (ptrsV g os)) (hl : ∀ x ∈ ws, x.length ≤ 1099511627776) :
    Calls Tryd.prog 46 #[.slice q n c, .int .u64 (most : Int), .slice pt os.length ct] w (NumW g t A os most ws w) := by
  have HG := Lib.hid hg
  have HWS := Lib.hid hW
  have HTO := Lib.hid hT
  have HLL := Lib.hid hl
  have HOS := Lib.hid hos
  obtain rfl : ws.length = n := (hW w (Turns.refl _ w)).length
  have hle := (hW w (Turns.refl _ w)).le
  have hmax := (hW w (Turns.refl _ w)).max
  have hlt' := (hT w (Turns.refl _ w)).le
  have hmt' := (hT w (Turns.refl _ w)).max
  clear hg hW hT hl hos
  by_cases hlen : ws.length = os.length
  rotate_left
  · have q1 : ((ws.length : Int) == (os.length : Int)) = false := beq_eq_false_iff_ne.2 (by omega)
    have p1 : ((ws.length : Int) != (os.length : Int)) = true := bne_iff_ne.2 (by omega)
    have q2 : (ws.length == os.length) = false := beq_eq_false_iff_ne.2 hlen
    have p2 : (ws.length != os.length) = true := bne_iff_ne.2 hlen
    have HBAD : Hid (¬ ws.length = os.length) := hlen
    clear hlen
    go_enter Tryd.func46, Tryd.ntmps46
    go_wp2_with fail
    go_ret
    exact ⟨Turns.refl _ _, .inr ⟨.inl HBAD.out, rfl, A, rfl, HG.out⟩⟩
  have q1 : ((ws.length : Int) == (os.length : Int)) = true := beq_iff_eq.2 (by omega)
  have p1 : ((ws.length : Int) != (os.length : Int)) = false := by rw [bne_eq_false_iff_eq]; omega
  have q2 : (ws.length == os.length) = true := beq_iff_eq.2 hlen
  have p2 : (ws.length != os.length) = false := by rw [bne_eq_false_iff_eq]; exact hlen
  have HLEN := Lib.hid hlen
  have hbig : ws.length ≤ 1000 := by omega
  clear hlen
  go_enter Tryd.func46, Tryd.ntmps46
  go_wp2_with fail
  clear q1 p1 q2 p2
  go_loopw [7, 8, 9, 10, 18] (fun _ _ _ _ j wr => ∃ i : Nat, i ≤ ws.length ∧ j = .int .i64 i ∧ wr.heap[g]? = some (.cells (puts A (os.take i) (numsT most (ws.take i))) t (0, 0)) ∧ (∀ x ∈ ws.take i, (numOf x most).2 = 0) ∧ Turns (fun k => k = g) w wr) (fun _ _ _ _ j _ => ws.length - (intOf j).toNat)
  case atStart => exact ⟨0, by omega, rfl, by rw [List.take_zero, puts_nil]; exact HG.out, fun x hx => by simp at hx, Turns.refl _ _⟩
  case round =>
    obtain ⟨i, hi, rfl, hr, hs, ht⟩ := hrel
    have HR := Lib.hid hr
    have HSM := Lib.hid hs
    have HT := Lib.hid ht
    clear hr hs ht
    by_cases hlt : i < ws.length
    · have hd : decide ((i : Int) < (ws.length : Int)) = true := decide_eq_true (by omega)
      have hd2 : decide (i < ws.length) = true := decide_eq_true hlt
      have hio : i < os.length := by rw [← HLEN.out]; exact hlt
      have hws := HWS.out wr HT.out
      obtain ⟨b, o, rfl⟩ := hws.addr (by omega) (by omega)
      have hcx := hws.str hlt
      have hcx2 := HLL.out ws[i] (List.getElem_mem hlt)
      have HTK : Hid (ws.take (i + 1) = ws.take i ++ [ws[i]]) := List.take_succ_eq_append_getElem hlt
      have HOK : Hid (os.take (i + 1) = os.take i ++ [os[i]]) := List.take_succ_eq_append_getElem hio
      have HMEM : Hid (ws[i] ∈ ws) := List.getElem_mem hlt
      have HOB : Hid (os[i] < A.size) := HOS.out _ (List.getElem_mem hio)
      have HPT : Hid ((ptrsV g os)[i]? = some (.pointer (some ⟨g, os[i], none⟩))) := by
        show _ = _
        unfold ptrsV
        simp [hio]
      generalize ws[i] = x at *
      generalize os[i] = oi at *
      have hnm := numOf_any x most wr hcx2 (by omega)
      unfold NumP at hnm
      have HNM := Lib.hid hnm
      obtain ⟨V, hV⟩ : ∃ V, (numOf x most).1 = V := ⟨_, rfl⟩
      obtain ⟨E, hE⟩ : ∃ E, (numOf x most).2 = E := ⟨_, rfl⟩
      rw [hV, hE] at HNM
      have HV := Lib.hid hV
      have HE := Lib.hid hE
      clear hnm hV hE hws hcx2
      go_wp2_with fail
      refine HNM.out.mono ?_
      rintro y w6 ⟨rfl, hb6⟩
      have HR6 := Lib.hid (Below.keepOld hb6 HR.out)
      have HT6 := Lib.hid (HT.out.trans (Turns.of_below (S := fun k => k = g) hb6) (fun _ _ h => h))
      clear hb6 HNM hcx HR
      by_cases he : E = 0
      · have q1 : (E == 0) = true := beq_iff_eq.2 he
        have p1 : (E != 0) = false := by rw [bne_eq_false_iff_eq]; exact he
        have HVL : Hid (V ≤ 1000000) := by
          show _ ≤ _
          have := (numOf_back (l := x) (most := most) (by rw [HE.out]; exact he)).2
          rw [HV.out] at this
          omega
        have hw : IntKind.i64.wrap (V : Int) = (V : Int) := by rw [IntKind.wrap_i64]; have := HVL.out; omega
        have HTT : Hid (numsT most (ws.take (i + 1)) = numsT most (ws.take i) ++ [V]) := by
          show _ = _
          rw [HTK.out]
          unfold numsT
          rw [List.map_append, List.map_cons, HV.out]; rfl
        have HS9 : Hid (∀ y ∈ ws.take (i + 1), (numOf y most).2 = 0) := fun y hy => by
          rw [HTK.out, List.mem_append, List.mem_singleton] at hy
          rcases hy with hy | rfl
          · exact HSM.out y hy
          · rw [HE.out]; exact he
        have hto := HTO.out w6 HT6.out
        obtain ⟨bt, ot, rfl⟩ := hto.addr (by omega) (by omega)
        have hcp := hto.at HPT.out
        have hc0 : ∃ u, w6.cell? ⟨g, oi, none⟩ = some u := by
          rw [cell_of_row _ _ _ _ _ _ HR6.out]
          exact ⟨_, Array.getElem?_eq_getElem (by rw [puts_size]; exact HOB.out)⟩
        obtain ⟨u, hcu⟩ := hc0
        have hfz : w6.frozen? ⟨g, oi, none⟩ = false := frozen_of_row _ _ _ _ _ HR6.out
        have HR9 : Hid ((w6.setCell ⟨g, oi, none⟩ (.int .i64 (V : Int))).heap[g]? = some (.cells (puts A (os.take (i + 1)) (numsT most (ws.take (i + 1)))) t (0, 0))) := by
          show _ = _
          rw [HOK.out, HTT.out, puts_snoc _ _ _ _ _ (by have := HLEN.out; simp [numsT]; omega)]
          exact heap_setCell_same _ _ _ _ _ _ HR6.out
        have HT9 := Lib.hid (HT6.out.setCell (p := ⟨g, oi, none⟩) (fun _ => rfl) (.int .i64 (V : Int)))
        clear he hto
        go_wp2_with fail
        go_roundw
        case rel => exact ⟨i + 1, by omega, by go_num, HR9.out, HS9.out, HT9.out⟩
        case measure => simp [intOf]; omega
      · have q1 : (E == 0) = false := beq_eq_false_iff_ne.2 he
        have p1 : (E != 0) = true := bne_iff_ne.2 he
        have HBAD : Hid (numsM most ws = none) := if_neg (fun h => he (by rw [← HE.out]; exact h x HMEM.out))
        clear he
        go_wp2_with fail
        go_ret
        exact ⟨HT6.out, .inr ⟨.inr HBAD.out, rfl, _, puts_size _ _ _, HR6.out⟩⟩
    · have hd : decide ((i : Int) < (ws.length : Int)) = false := decide_eq_false (by omega)
      have hd2 : decide (i < ws.length) = false := decide_eq_false hlt
      obtain rfl : i = ws.length := by omega
      have HEND : Hid (NumW g t A os most ws w (.returned (.bool true)) wr) := by
        have h1 := HR.out
        have h2 := HSM.out
        rw [List.take_length] at h1 h2
        rw [List.take_of_length_le (by rw [HLEN.out]; exact Nat.le_refl _)] at h1
        exact ⟨HT.out, .inl ⟨HLEN.out, numsT most ws, if_pos h2, rfl, h1⟩⟩
      go_wp2_with fail
      go_ret
      exact HEND.out
end Go.Proofs.YtcddgbobbogpgaaDoor.Scr

namespace Go.Proofs.YtcddgbobbogpgaaDoor.Scr
open Go.RowKit Go.Mir Go.Mir.Hx Go.Mir.Parts HexW Rpl

def clo (f : FuncId) (rb : Nat) : Value := .func (.func f) #[] #[.pointer (some ⟨rb, 0, none⟩)]
def MES (rb : Nat) : Array MapEntry := #[
  { key := .string ⟨#[102, 114, 97, 109, 101]⟩, val := clo 54 rb, born := 0 },
  { key := .string ⟨#[99, 111, 110, 110, 101, 99, 116]⟩, val := clo 56 rb, born := 1 },
  { key := .string ⟨#[100, 105, 115, 99, 111, 110, 110, 101, 99, 116]⟩, val := clo 52 rb, born := 2 },
  { key := .string ⟨#[101, 118, 105, 99, 116]⟩, val := clo 52 rb, born := 3 },
  { key := .string ⟨#[97, 114, 109]⟩, val := clo 57 rb, born := 4 },
  { key := .string ⟨#[114, 101, 115, 116, 97, 114, 116]⟩, val := clo 58 rb, born := 5 }]
def putMap (w : World) (r : Nat) (es : Array MapEntry) (cl : Nat) : World := { w with heap := w.heap.setIfInBounds r (.map es cl) }
theorem putMap_heap (w : World) (r : Nat) (es : Array MapEntry) (cl : Nat) (h : r < w.heap.size) : (putMap w r es cl).heap[r]? = some (.map es cl) := by
  show (w.heap.setIfInBounds r _)[r]? = _
  simp [h]
theorem putMap_size (w : World) (r : Nat) (es : Array MapEntry) (cl : Nat) : (putMap w r es cl).heap.size = w.heap.size := by
  show (w.heap.setIfInBounds r _).size = _
  simp
theorem putMap_other (w : World) (r k : Nat) (es : Array MapEntry) (cl : Nat) (h : k ≠ r) : (putMap w r es cl).heap[k]? = w.heap[k]? := by
  show (w.heap.setIfInBounds r _)[k]? = _
  rw [Array.getElem?_setIfInBounds_ne (Ne.symm h)]
theorem putMap_below {w0 w : World} {B r : Nat} {es : Array MapEntry} {cl : Nat} (hb : Below B w0 w) (hr : B ≤ r) : Below B w0 (putMap w r es cl) := by
  have := hb.size
  refine ⟨hb.os, hb.tape, hb.output, ?_, fun i hi => ?_⟩
  · rw [putMap_size]; exact this
  · rw [putMap_other _ _ _ _ _ (by omega)]; exact hb.block i hi
theorem run_ins {P : Program} (w : World) (mty kt et : TypeId) (r clock : Nat) (es : Array MapEntry) (s : ByteArray) (val : Value) (hm : P.underlying mty = some (.map kt et)) (hk : P.underlying kt = some .string) (hb : w.heap[r]? = some (.map es clock)) (hf : Instr.findNow .string (.string s) es.toList 0 = some none) :
    (Instr.mapUpdate mty (.map (some r)) (.string s) val).run P w = .ok () (putMap w r (es.push { key := .string s, val := val, born := clock }) (clock + 1)) := by
  have hc : (Instr.checkKey false 10000 kt (.string s)).run P w = .ok () w := MapKept.run_checkKey (k := .string s) hk (by simp [MapKept.IsKey]) false 9999
  simp [Instr.mapUpdate, run_underlying hm, MapKept.run_getObj_map hb, hc, MapKept.run_findKey hk hf, MapKept.run_setObj_map _ hb, Result.andThen, putMap]
theorem wpList_ins {P : Program} {ops : Array Oper} {rest : List Oper} {o : Oper} {a : Act} {w : World} {Q : Exit → Act → World → Prop} (hg : o.guard = none) (t : TypeId) (m k x : Operand) (ho : o.op = .insert t m k x) (r clock : Nat) (es : Array MapEntry) (s : ByteArray) (val : Value) (kt et : TypeId)
    (hm' : a.eval m = .map (some r)) (hk' : a.eval k = .string s) (hx : a.eval x = val) (hm : P.underlying t = some (.map kt et)) (hk : P.underlying kt = some .string) (hb : w.heap[r]? = some (.map es clock)) (hf : Instr.findNow .string (.string s) es.toList 0 = some none)
    (h : wpList P ops Q rest (a.put o.dst undef) (putMap w r (es.push { key := .string s, val := val, born := clock }) (clock + 1))) : wpList P ops Q (o :: rest) a w := by
  refine wpList_plain hg fun K hK => ?_
  unfold Oper.wp execOp
  simp only [ho, hm', hk', hx, Sem.run_bind, run_ins w t kt et r clock es s val hm hk hb hf, Result.andThen_ok, Sem.run_pure]
  exact hK _ _ h
set_option maxRecDepth 100000 in
set_option maxHeartbeats 1600000 in
theorem readers_any (g : Nat) (w : World) : Calls Tryd.prog 33 #[.pointer (some ⟨g, 0, none⟩)] w fun x w' => ∃ mb, x = .returned (.map (some mb)) ∧ w'.heap[w.heap.size]? = some (.cells #[.pointer (some ⟨g, 0, none⟩)] 81 (0, 0)) ∧ w'.heap[mb]? = some (.map (MES w.heap.size) 6) ∧ Below w.heap.size w w' := by
  have hmm := @run_makeMap Tryd.prog
  have hal := Below.allocs w (.cells #[.pointer (some ⟨g, 0, none⟩)] 81)
  have hrow := heap_alloc_last w (.cells #[.pointer (some ⟨g, 0, none⟩)] 81)
  have HAL := Lib.hid hal
  have HROW := Lib.hid hrow
  clear hal hrow
  go_enter Tryd.func33, Tryd.ntmps33
  go_upto_region 2 with fail
  generalize w.alloc (.cells #[.pointer (some ⟨g, 0, none⟩)] 81) = w1 at *
  go_wp2_with (refine wpList_ins rfl 79 _ _ _ rfl w1.heap.size _ _ _ _ 9 77 rfl rfl rfl Tryd.underlying79 Tryd.underlying9 (by first | with_reducible exact heap_alloc_last _ _ | with_reducible exact putMap_heap _ _ _ _ (by simp [putMap_size])) (by kernel_rfl) ?_)
  have hsz : w.heap.size < w1.heap.size := (Array.getElem?_eq_some_iff.1 HROW.out).1
  have hne : w.heap.size ≠ w1.heap.size := by omega
  go_ret
  refine ⟨w1.heap.size, rfl, ?_, ?_, ?_⟩
  · rw [putMap_other _ _ _ _ _ hne, putMap_other _ _ _ _ _ hne, putMap_other _ _ _ _ _ hne, putMap_other _ _ _ _ _ hne, putMap_other _ _ _ _ _ hne, putMap_other _ _ _ _ _ hne]
    exact Below.keepOld (Below.allocs w1 _) HROW.out
  · exact putMap_heap _ _ _ _ (by simp [putMap_size])
  · exact putMap_below (putMap_below (putMap_below (putMap_below (putMap_below (putMap_below (HAL.out.trans ((Below.allocs w1 _).mono HAL.out.size)) HAL.out.size) HAL.out.size) HAL.out.size) HAL.out.size) HAL.out.size) HAL.out.size
/-! ### the look-up -/
def cloK (k rb : Nat) : Value := if k = 1 then clo 54 rb else if k = 2 then clo 56 rb else if k = 5 then clo 57 rb else if k = 6 then clo 58 rb else clo 52 rb
theorem run_lookS (w : World) (mb rb : Nat) (s : ByteArray) (r : Option (Nat × Value)) (hb : w.heap[mb]? = some (.map (MES rb) 6)) (hf : Instr.findNow .string (.string s) (MES rb).toList 0 = some r) (Z : Value) (hZ : ∀ w0, (zeroValue 77).run Tryd.prog w0 = .ok Z w0) :
    (Instr.lookup 79 (.map (some mb)) (.string s) true).run Tryd.prog w = .ok (.tuple #[(r.map (·.2)).getD Z, .bool r.isSome]) w := by
  have hc : (Instr.checkKey (MES rb).isEmpty 10000 9 (.string s)).run Tryd.prog w = .ok () w := MapKept.run_checkKey (k := .string s) Tryd.underlying9 (by simp [MapKept.IsKey]) _ 9999
  cases r with
  | none => simp [Instr.lookup, run_underlying Tryd.underlying79, MapKept.run_getObj_map hb, hc, MapKept.run_findKey Tryd.underlying9 hf, hZ, Result.andThen]
  | some x => simp [Instr.lookup, run_underlying Tryd.underlying79, MapKept.run_getObj_map hb, hc, MapKept.run_findKey Tryd.underlying9 hf, Result.andThen]
theorem zeroFn (w0 : World) : (zeroValue 77).run Tryd.prog w0 = .ok .nilFunc w0 := by kernel_rfl
def cutS (p : Option Addr) (c k : Nat) : Option Addr := if c = k then p else p.map (·.add k)
theorem ws_drop {w : World} {p : Option Addr} {L c : Nat} {ls : List (List UInt8)} (h : Ws w p L c ls) (k : Nat) (hk : k ≤ L) : Ws w (cutS p c k) (L - k) (c - k) (ls.drop k) := by
  have hle := h.le
  have hmax := h.max
  have hl := h.length
  unfold cutS
  by_cases hc : c = k
  · have hm : L - k = 0 := by omega
    rw [if_pos hc, hm, hc, Nat.sub_self, List.drop_of_length_le (by omega)]
    exact ⟨by simp [strV], Nat.le_refl _, by omega, fun _ => rfl, fun a ha j u hu => by simp [strV] at hu⟩
  · rw [if_neg hc]
    refine ⟨by rw [strV_length, List.length_drop, Nat.mul_one]; omega, by omega, by omega, fun hq => ?_, fun a ha j u hu => ?_⟩
    · cases p with
      | none => have := h.nil0 rfl; omega
      | some a => cases hq
    · cases p with
      | none => cases ha
      | some a0 =>
        obtain rfl := Option.some.inj ha
        have h1 : (strV ls)[k + j]? = some u := by
          rw [strV, List.getElem?_map] at hu ⊢
          rw [List.getElem?_drop] at hu
          exact hu
        have hj : k + j < ls.length := by
          have := (List.getElem?_eq_some_iff.1 h1).1
          rwa [strV_length] at this
        obtain ⟨b, o, hbo⟩ := h.addr (by omega) (by omega)
        obtain rfl := Option.some.inj hbo
        have h2 := h.cell _ rfl (k + j) u h1
        rw [add_none] at h2
        show w.cell? (((⟨b, o, none⟩ : Addr).add k).add j) = some u
        rw [add_none, add_none, Nat.add_assoc]
        exact h2
theorem cutSR {w : World} {p : Option Addr} {L c : Nat} {ls : List (List UInt8)} (h : Ws w p L c ls) (k : Nat) (lo : Int) (hlo : lo = (k : Int)) (hk : k ≤ L) :
    ∀ w0, (Instr.sliceAt 65 (.slice p L c) (some (.int .i64 lo)) none none).run Tryd.prog w0 = .ok (.slice (cutS p c k) (L - k) (c - k)) w0 := by
  subst hlo
  have hle := h.le
  have hmax := h.max
  have hsz : (Tryd.prog.info? 9).map (·.size) = some 1 := by kernel_rfl
  obtain ⟨i, hi, hi1⟩ := Option.map_eq_some_iff.1 hsz
  intro w0
  have hb1 : (0 : Int) ≤ (L : Int) ∧ (L : Int) ≤ (c : Int) := by omega
  have hb3 : (0 : Int) ≤ (k : Int) ∧ (k : Int) ≤ (L : Int) := by omega
  simp [Instr.sliceAt, Instr.slice, cutS, run_underlying Tryd.underlying65, Instr.sliceBounds, Instr.sliceBound, asIntOf, sizeOf, typeInfo, hi, hi1, hb3]
  try omega
theorem findF1 (rb : Nat) : Instr.findNow .string (.string (S [102, 114, 97, 109, 101])) (MES rb).toList 0 = some (some (0, cloK 1 rb)) := by kernel_rfl
theorem findF2 (rb : Nat) : Instr.findNow .string (.string (S [99, 111, 110, 110, 101, 99, 116])) (MES rb).toList 0 = some (some (1, cloK 2 rb)) := by kernel_rfl
theorem findF3 (rb : Nat) : Instr.findNow .string (.string (S [100, 105, 115, 99, 111, 110, 110, 101, 99, 116])) (MES rb).toList 0 = some (some (2, cloK 3 rb)) := by kernel_rfl
theorem findF4 (rb : Nat) : Instr.findNow .string (.string (S [101, 118, 105, 99, 116])) (MES rb).toList 0 = some (some (3, cloK 4 rb)) := by kernel_rfl
theorem findF5 (rb : Nat) : Instr.findNow .string (.string (S [97, 114, 109])) (MES rb).toList 0 = some (some (4, cloK 5 rb)) := by kernel_rfl
theorem findF6 (rb : Nat) : Instr.findNow .string (.string (S [114, 101, 115, 116, 97, 114, 116])) (MES rb).toList 0 = some (some (5, cloK 6 rb)) := by kernel_rfl
theorem beq_no {s l : List UInt8} (h : ¬ s = l) : (S s == S l) = false := by
  rw [Bool.eq_false_iff]
  intro e
  have e1 := (MapKept.bytes_beq _ _).1 e
  have e2 := congrArg (fun b : ByteArray => b.data.toList) e1
  simp only [S_data] at e2
  exact h e2
theorem findF0 (rb : Nat) {s : List UInt8} (h : kindB s = 0) : Instr.findNow .string (.string (S s)) (MES rb).toList 0 = some none := by
  have h1 : ¬ s = [102, 114, 97, 109, 101] := fun e => by subst e; cases h
  have h2 : ¬ s = [99, 111, 110, 110, 101, 99, 116] := fun e => by subst e; cases h
  have h3 : ¬ s = [100, 105, 115, 99, 111, 110, 110, 101, 99, 116] := fun e => by subst e; cases h
  have h4 : ¬ s = [101, 118, 105, 99, 116] := fun e => by subst e; cases h
  have h5 : ¬ s = [97, 114, 109] := fun e => by subst e; cases h
  have h6 : ¬ s = [114, 101, 115, 116, 97, 114, 116] := fun e => by subst e; cases h
  have q1 := beq_no h1
  have q2 := beq_no h2
  have q3 := beq_no h3
  have q4 := beq_no h4
  have q5 := beq_no h5
  have q6 := beq_no h6
  unfold S at *
  simp only [MES, Instr.findNow, Instr.sameNow, q1, q2, q3, q4, q5, q6]
theorem look_no (w : World) (mb rb : Nat) (s : List UInt8) (hb : w.heap[mb]? = some (.map (MES rb) 6)) (h : kindB s = 0) :
    (Instr.lookup 79 (.map (some mb)) (.string (S s)) true).run Tryd.prog w = .ok (.tuple #[.nilFunc, .bool false]) w := run_lookS w mb rb (S s) none hb (findF0 rb h) _ zeroFn
theorem look_ok (w : World) (mb rb k : Nat) (s : List UInt8) (hb : w.heap[mb]? = some (.map (MES rb) 6)) (hk : kindB s = k) (h0 : k ≠ 0) :
    (Instr.lookup 79 (.map (some mb)) (.string (S s)) true).run Tryd.prog w = .ok (.tuple #[cloK k rb, .bool true]) w := by
  obtain ⟨e, h6⟩ := kind_name hk h0
  have hc : k = 1 ∨ k = 2 ∨ k = 3 ∨ k = 4 ∨ k = 5 ∨ k = 6 := by omega
  subst e
  rcases hc with rfl | rfl | rfl | rfl | rfl | rfl
  · exact run_lookS w mb rb _ _ hb (findF1 rb) _ zeroFn
  · exact run_lookS w mb rb _ _ hb (findF2 rb) _ zeroFn
  · exact run_lookS w mb rb _ _ hb (findF3 rb) _ zeroFn
  · exact run_lookS w mb rb _ _ hb (findF4 rb) _ zeroFn
  · exact run_lookS w mb rb _ _ hb (findF5 rb) _ zeroFn
  · exact run_lookS w mb rb _ _ hb (findF6 rb) _ zeroFn
end Go.Proofs.YtcddgbobbogpgaaDoor.Scr

namespace Go.Mir
open Go.RowKit

/-- which operation comes next: taken at once; the only one; one of two -/
inductive Tr where
  | nil
  | take (i : Nat) (r : Tr)
  | one (i : Nat) (r : Tr)
  | two (i j : Nat) (r s : Tr)
def Tr.deep : Tr → Nat
  | .nil => 0
  | .take _ r => r.deep + 1
  | .one _ r => r.deep + 1
  | .two _ _ r _ => r.deep + 1
def treeB (ops : Array Oper) : Tr → Array Bool → Bool
  | .nil, l => (Region.ready .any ops l).isEmpty
  | .take i r, l => (ops[i]?).isSome && Region.free .any ops l i && (Region.ready .any ops l).contains i && treeB ops r (l.setIfInBounds i true)
  | .one i r, l => (ops[i]?).isSome && Region.ready .any ops l == [i] && treeB ops r (l.setIfInBounds i true)
  | .two i j r s, l => (ops[i]?).isSome && (ops[j]?).isSome && Region.ready .any ops l == [i, j] && r.deep == s.deep && !(i == j) && treeB ops r (l.setIfInBounds i true) && treeB ops s (l.setIfInBounds j true)
section
variable {P : Program} {ops : Array Oper} {S : World → Prop} {Q : Exit → Act → World → Prop}
/-- one operation, in its turn -/
def wpTurn (P : Program) (ops : Array Oper) (o : Oper) (a : Act) (w : World) (K : Act → World → Prop) (Q : Exit → Act → World → Prop) : Prop :=
  if Region.wanted o (yielded ops a.tmps) then o.wp P a w K Q else K (a.put o.dst undef) w
def wpTree (P : Program) (ops : Array Oper) (S : World → Prop) (Q : Exit → Act → World → Prop) (l : List Oper) : Tr → Act → World → Prop
  | .nil, a, w => Q .normal a w
  | .take i r, a, w => match nthO l i with
    | some o => ∃ v, YieldsIf P ops S o v a ∧ wpTree P ops S Q l r (a.put o.dst v) w
    | none => False
  | .one i r, a, w => match nthO l i with
    | some o => wpTurn P ops o a w (fun a' w' => S w' ∧ wpTree P ops S Q l r a' w') Q
    | none => False
  | .two i j r s, a, w => (match nthO l i with
    | some o => wpTurn P ops o a w (fun a' w' => S w' ∧ wpTree P ops S Q l r a' w') Q
    | none => False) ∧ (match nthO l j with
    | some o => wpTurn P ops o a w (fun a' w' => S w' ∧ wpTree P ops S Q l s a' w') Q
    | none => False)
theorem wpOp_turn {i : Nat} {o : Oper} {K K' : Act → World → Prop} {a : Act} {w : World} (ho : ops[i]? = some o) (hK : ∀ a w, K a w → K' a w) (h : wpTurn P ops o a w K Q) : wpOp P ops Q i K' a w := by
  unfold wpOp
  simp only [ho]
  unfold wpTurn at h
  split at h
  · rename_i hw
    rw [if_pos hw]
    exact .inl (Oper.wp_mono (fun a' w' h5 => hK _ _ h5) h)
  · rename_i hw
    rw [if_neg hw]
    exact hK _ _ h
theorem wpAnyH_tree {l : List Oper} (hl : l.toArray = ops) (hs : Region.noSelect ops = true) (hQ : ∀ c a d v w, Q (.panic c) (a.put d v) w → Q (.panic c) a w) :
    ∀ (t : Tr) (listed : Array Bool) (a : Act) (w : World), treeB ops t listed = true → S w → wpTree P ops S Q l t a w → wpAnyH P .any ops Q S t.deep listed a w
  | .nil, listed, a, w, hp, _, h => by
    refine wpAnyH_done ?_ h _
    simpa [treeB, List.isEmpty_iff] using hp
  | .take i r, listed, a, w, hp, hS, h => by
    simp only [treeB, Bool.and_eq_true] at hp
    obtain ⟨⟨⟨h1, h2⟩, h3⟩, h4⟩ := hp
    obtain ⟨o, ho⟩ := Option.isSome_iff_exists.1 h1
    have hn : nthO l i = some o := by rw [← nthO_eq, hl]; exact ho
    simp only [wpTree, hn] at h
    obtain ⟨v, hy, h⟩ := h
    exact wpAnyH_take ho hs h2 h3 (fun c a w => hQ c a _ _ w) hy hS (wpAnyH_tree hl hs hQ r _ _ _ h4 hS h)
  | .one i r, listed, a, w, hp, hS, h => by
    simp only [treeB, Bool.and_eq_true, beq_iff_eq] at hp
    obtain ⟨⟨h1, h2⟩, h4⟩ := hp
    obtain ⟨o, ho⟩ := Option.isSome_iff_exists.1 h1
    have hn : nthO l i = some o := by rw [← nthO_eq, hl]; exact ho
    simp only [wpTree, hn] at h
    refine wpAnyH_all h2 (by simp) fun j hj => ?_
    rw [List.mem_singleton] at hj
    subst hj
    exact wpOp_turn ho (fun a' w' ⟨h5, h6⟩ => ⟨h5, wpAnyH_tree hl hs hQ r _ _ _ h4 h5 h6⟩) h
  | .two i j r s, listed, a, w, hp, hS, h => by
    simp only [treeB, Bool.and_eq_true, beq_iff_eq] at hp
    obtain ⟨⟨⟨⟨⟨⟨h1, h1'⟩, h2⟩, hd⟩, hne⟩, h4⟩, h4'⟩ := hp
    obtain ⟨o, ho⟩ := Option.isSome_iff_exists.1 h1
    obtain ⟨o', ho'⟩ := Option.isSome_iff_exists.1 h1'
    have hn : nthO l i = some o := by rw [← nthO_eq, hl]; exact ho
    have hn' : nthO l j = some o' := by rw [← nthO_eq, hl]; exact ho'
    simp only [wpTree, hn, hn'] at h
    refine wpAnyH_all h2 (by simp) fun k hk => ?_
    rcases List.mem_cons.1 hk with rfl | hk
    · exact wpOp_turn ho (fun a' w' ⟨h5, h6⟩ => ⟨h5, wpAnyH_tree hl hs hQ r _ _ _ h4 h5 h6⟩) h.1
    · rw [List.mem_singleton] at hk
      subst hk
      exact wpOp_turn ho' (fun a' w' ⟨h5, h6⟩ => ⟨h5, by rw [hd]; exact wpAnyH_tree hl hs hQ s _ _ _ h4' h5 h6⟩) h.2
/-- the beginning -/
theorem wp_region_tree {id : Nat} {a : Act} {w : World} {l : List Oper} (S : World → Prop) (t : Tr) (hm : P.follows .mixedOrders = true)
    (hp : (treeB l.toArray t (Array.replicate l.length false) && Region.noSelect l.toArray && t.deep == l.length) = true) (hS : S w.drew)
    (h : wpTree P l.toArray S (NoPanic Q) l t a w.drew) : (Code.region id l.toArray true).wp P Q a w := by
  refine wp_region_noPanic ?_
  simp only [Bool.and_eq_true, beq_iff_eq] at hp
  obtain ⟨⟨h1, h2⟩, h3⟩ := hp
  have := wpAnyH_tree (P := P) (Q := NoPanic Q) (S := S) (l := l) rfl h2 (fun _ _ _ _ _ h => h) t (Array.replicate l.length false) a w.drew h1 hS h
  refine wp_region_held hm (S := S) ?_
  rw [h3] at this
  have hz : l.toArray.size = l.length := List.size_toArray ..
  rw [hz]
  exact this
/-- its steps -/
theorem tree_take {l : List Oper} {i : Nat} {r : Tr} {a : Act} {w : World} {o : Oper} {v : Value} (hn : nthO l i = some o) (hw : Region.wanted o (yielded ops a.tmps) = true) (hy : ∀ w', S w' → (execOp a.eval o).run P w' = .ok (.value v) w')
    (h : wpTree P ops S Q l r (a.put o.dst v) w) : wpTree P ops S Q l (.take i r) a w := by
  simp only [wpTree, hn]; exact ⟨v, .inl ⟨hw, hy⟩, h⟩
theorem tree_load {l : List Oper} {i : Nat} {r : Tr} {a : Act} {w : World} {op : Oper} (hn : nthO l i = some op) (hw : Region.wanted op (yielded ops a.tmps) = true) (ty : TypeId) (x : Operand) (ho : op.op = .load ty x)
    (b o : Nat) (hx : a.eval x = .pointer (some ⟨b, o, none⟩)) (M : Array Value) (d : TypeDesc) (hc : ∀ w', S w' → w'.rangeAt b o M.toList)
    (hu : P.underlying ty = some d) (hd : d.isRow = true) (hi : (P.info? ty).map (·.size) = some M.size)
    (h : wpTree P ops S Q l r (a.put op.dst (.agg M)) w) : wpTree P ops S Q l (.take i r) a w := by
  refine tree_take hn hw (fun w' hb => ?_) h
  unfold execOp
  simp only [ho, hx, Instr.loadAt, Instr.sureAddr, Sem.run_bind, Sem.run_pure, Result.andThen_ok, run_loadVar_mid w' b o ty M.toList d (hc w' hb) hu hd (by simpa using hi)]
theorem tree_one {l : List Oper} {i : Nat} {r : Tr} {a : Act} {w : World} {o : Oper} (hn : nthO l i = some o) (hw : Region.wanted o (yielded ops a.tmps) = true)
    (h : ∀ K : Act → World → Prop, Shut (∀ a w, S w → wpTree P ops S Q l r a w → K a w) → Oper.wp P o a w K Q) : wpTree P ops S Q l (.one i r) a w := by
  simp only [wpTree, hn, wpTurn]; rw [if_pos hw]; exact h _ fun _ _ h1 h2 => ⟨h1, h2⟩
theorem tree_nil {l : List Oper} {a : Act} {w : World} (h : Q .normal a w) : wpTree P ops S (NoPanic Q) l .nil a w := h
end
end Go.Mir
