/- PARTS, JOINED: REPLIES: Line. Conditions: numbers of 32 bits. REPLIES: the laws' own trial (alive). Conditions: internal/bytealg.MaxLen holds an int. REPLIES: law ReplyNames. Conditions: internal/bytealg.MaxLen holds an int. WHAT COMES IN, OPENED: a law's argument that can be read as data, as the walks' own readings. No program is named. Conditions: none. LAYER 12: the walk of the reference's NumOf. Conditions: texts of at most 2^40. -/
import Derived.Test.YtmphajilnkgcaaaDoorRp1
import Derived.Test.YtmphajilnkgcaaaDoorRp2
import Derived.Test.YtmphajilnkgcaaaDoorRp3
import Derived.Deep.Slices
import Derived.IntWalk
namespace Go.Proofs.YtmphajilnkgcaaaDoor.Rpl
open Go.RowKit Go.Mir Go.Mir.Hx Go.Mir.Parts

theorem join_le (ws : List (List UInt8)) (m : Nat) (h : ∀ x ∈ ws, x.length ≤ m) : (Go.Lib.join ws [32]).length ≤ ws.length * (m + 1) := by
  cases ws with
  | nil => rw [Go.Lib.join_nil]; exact Nat.zero_le _
  | cons x r =>
    rw [Go.Lib.join_cons, List.length_append, Go.Lib.joinTail_length, List.length_cons]
    have h1 := h x List.mem_cons_self
    have h2 : Go.Lib.lens r ≤ r.length * m := by
      have hr : ∀ y ∈ r, y.length ≤ m := fun y hy => h y (List.mem_cons_of_mem _ hy)
      clear h h1
      induction r with
      | nil => exact Nat.zero_le _
      | cons y r ih =>
        have := ih (fun z hz => hr z (List.mem_cons_of_mem _ hz))
        have h3 := hr y List.mem_cons_self
        show y.length + Go.Lib.lens r ≤ (r.length + 1) * m
        rw [Nat.add_mul]; omega
    show x.length + ([32].length * r.length + Go.Lib.lens r) ≤ (r.length + 1) * (m + 1)
    rw [Nat.add_mul, Nat.mul_add]
    show x.length + (1 * r.length + Go.Lib.lens r) ≤ _
    omega
theorem dec_short (n : Nat) (h : n < 4294967296) : (decL n).length ≤ 20 := HexW.dec_len n (by omega)
theorem name_short (n : Int) : (nameB n E21).length ≤ 20 ∧ (nameB n K7).length ≤ 20 := by
  have h1 : ∀ x ∈ E21, x.length ≤ 20 := by decide
  have h2 : ∀ x ∈ K7, x.length ≤ 20 := by decide
  refine ⟨?_, ?_⟩
  · unfold nameB
    split
    · rename_i hn
      have hl : n.toNat < E21.length := by omega
      rw [List.getElem?_eq_getElem hl]
      exact h1 _ (List.getElem_mem hl)
    · decide
  · unfold nameB
    split
    · rename_i hn
      have hl : n.toNat < K7.length := by omega
      rw [List.getElem?_eq_getElem hl]
      exact h2 _ (List.getElem_mem hl)
    · decide
theorem words_short (r : RP) (hw : r.wf) : ∀ x ∈ words r, x.length ≤ 20 := by
  intro x hx
  unfold words at hx
  rw [List.mem_append] at hx
  rcases hx with hx | hx
  · simp only [List.mem_cons, List.not_mem_nil, or_false] at hx
    rcases hx with rfl | rfl
    · exact (name_short _).2
    · exact (name_short _).1
  · split at hx
    · obtain ⟨n, hn, rfl⟩ := List.mem_map.1 hx
      exact dec_short n (hw n hn)
    · cases hx
theorem words_len (r : RP) : (words r).length ≤ 7 := by
  unfold words
  split
  · exact Nat.le_refl _
  · show 2 ≤ 7; omega
theorem nums_at (r : RP) (i : Nat) (h : i < 5) : r.nums[i]? = some (r.nums.getD i 0) := by
  match i, h with
  | 0, _ => rfl
  | 1, _ => rfl
  | 2, _ => rfl
  | 3, _ => rfl
  | 4, _ => rfl
theorem idx_ptrs (g i : Nat) (h : i < 5) : (ptrs g)[i]? = some (.pointer (some ⟨g, 2 + i, none⟩)) := ptrs_get g i h
theorem infoStr : (Tryd.prog.info? 9).map (fun i => (i.zero, i.size, i.bytes)) = some (some (.string ⟨#[]⟩), 1, 16) := by kernel_rfl
theorem wpList_buildTwo {ops : Array Oper} {rest : List Oper} {o : Oper} {a : Act} {w : World} {Q : Exit → Act → World → Prop} (hg : o.guard = none) (x y : Operand) (ho : o.op = .buildSlice 35 2 #[(0, x), (1, y)]) (s t : List UInt8) (hx : a.eval x = .string (S s)) (hy : a.eval y = .string (S t))
    (h : wpList Tryd.prog ops Q rest (a.put o.dst (.slice (some ⟨w.heap.size, 0, none⟩) 2 2)) (w.alloc (.cells #[.string (S s), .string (S t)] 9))) : wpList Tryd.prog ops Q (o :: rest) a w := by
  obtain ⟨i, hi, hiv⟩ := Option.map_eq_some_iff.1 infoStr
  obtain ⟨h1, h2, _⟩ := (by simpa using hiv : i.zero = some (.string ⟨#[]⟩) ∧ i.size = 1 ∧ i.bytes = 16)
  refine wpList_buildSlice hg 35 9 2 _ ho _ i _ Tryd.underlying35 hi h1 (by rw [h2]; omega) (by rw [h2]; omega) ?_ h
  have : (#[(0, x), (1, y)].map fun (p : Nat × Operand) => (p.1, a.eval p.2)).toList = [(0, .string (S s)), (1, .string (S t))] := by simp [hx, hy]
  rw [this, h2, show Array.map (fun x => (Value.string ⟨#[]⟩).cells[x % (Value.string ⟨#[]⟩).cells.size]!) (Array.range (2 * 1)) = #[.string ⟨#[]⟩, .string ⟨#[]⟩] from by kernel_rfl]
  simp [Instr.fill, Value.cells]
theorem own_two (w : World) (base : Nat) (s t : List UInt8) (hb : base ≤ w.heap.size) : (w.alloc (.cells #[.string (S s), .string (S t)] 9)).ownsRow base 9 1 (.slice (some ⟨w.heap.size, 0, none⟩) 2 2) 2 (strV [s, t]) :=
  ⟨rfl, .inr ⟨w.heap.size, 2, _, rfl, hb, heap_alloc_last _ _, Nat.le_refl _, by simp [maxLen], rfl, rfl⟩⟩
theorem idx_run (g i : Nat) (h : i < 5) : ∀ w0, (Instr.index 51 (.agg (ptrs g)) (.int .i64 (i : Int))).run Tryd.prog w0 = .ok (.pointer (some ⟨g, 2 + i, none⟩)) w0 := by
  intro w0
  obtain rfl | rfl | rfl | rfl | rfl : i = 0 ∨ i = 1 ∨ i = 2 ∨ i = 3 ∨ i = 4 := by omega
  · kernel_rfl
  · kernel_rfl
  · kernel_rfl
  · kernel_rfl
  · kernel_rfl
theorem own_ws {w : World} {base t : Nat} {p : Option Addr} {n c : Nat} {ls : List (List UInt8)} (h : w.ownsRow base t 1 (.slice p n c) n (strV ls)) : Ws w p n c ls := by
  obtain ⟨p', c', he, hs⟩ := own_sl h
  cases he
  exact hs
set_option maxRecDepth 100000 in
set_option maxHeartbeats 3200000 in
theorem line_any (r : RP) (w : World) (hw : r.wf) : Calls Tryd.prog 9 #[.agg (rpA r)] w fun e w' => e = .returned (.string (S (lineB r))) ∧ Below w.heap.size w w' := by
  have HB1 := Lib.hid (Below.allocs w (.cells (rpA r) 27))
  have HR1 := Lib.hid (heap_alloc_last w (.cells (rpA r) 27))
  have HC := Lib.hid (right_any r (w.alloc (.cells (rpA r) 27)))
  have HWF := Lib.hid hw
  clear hw
  by_cases hr : r.right
  rotate_left
  · have hd : decide r.right = false := decide_eq_false hr
    have HQ : Hid (lineB r = []) := if_neg hr
    rw [hd] at HC
    clear hr hd
    go_enter Tryd.func9, Tryd.ntmps9
    go_wp2_with (refine wpList_load_row rfl 27 _ rfl w.heap.size rfl 27 (rpA r) (0, 0) _ HR1.out Tryd.underlying27 rfl (infoR _ rfl) ?_)
    refine HC.out.mono ?_
    rintro e w2 ⟨rfl, hb2⟩
    go_wp2_with fail
    go_ret
    exact ⟨by rw [HQ.out]; rfl, HB1.out.trans (hb2.mono HB1.out.size)⟩
  have hd : decide r.right = true := decide_eq_true hr
  have HQ : Hid (lineB r = Go.Lib.join (words r) [32]) := if_pos hr
  rw [hd] at HC
  have hk0 := hr.1.1
  have hk1 := hr.1.2.1
  have he0 := hr.1.2.2.1
  have he1 := hr.1.2.2.2
  clear hd hr
  go_enter Tryd.func9, Tryd.ntmps9
  go_wp2_with (refine wpList_load_row rfl 27 _ rfl w.heap.size rfl 27 (rpA r) (0, 0) _ HR1.out Tryd.underlying27 rfl (infoR _ rfl) ?_)
  refine HC.out.mono ?_
  rintro e w2 ⟨rfl, hb2⟩
  have HR2 := Lib.hid (Below.keepOld hb2 HR1.out)
  have HB2 := Lib.hid (HB1.out.trans (hb2.mono HB1.out.size))
  have HS2 : Hid (w.heap.size + 1 ≤ w2.heap.size) := (Array.getElem?_eq_some_iff.1 HR2.out).1
  clear hb2 HC HR1 HB1
  go_upto_region 3 with fail
  have hk : Hid (∀ w', Below w2.heap.size w2 w' → w'.cell? ⟨w.heap.size, 0, none⟩ = some (.int .i64 r.kind)) := fun w' hb => cell_below (rp_cells HR2.out).1 hb
  have he : Hid (∀ w', Below w2.heap.size w2 w' → w'.cell? ⟨w.heap.size, 1, none⟩ = some (.int .i64 r.err)) := fun w' hb => cell_below (rp_cells HR2.out).2.1 hb
  have HKN := Lib.hid (fun w => kindName_any r.kind w ⟨by omega, by omega⟩)
  have HEN := Lib.hid (fun w => errName_any r.err w ⟨by omega, by omega⟩)
  refine wp_region_eager_in (Below w2.heap.size w2) [(0, true), (1, true), (3, true), (4, true), (2, false), (5, false), (6, false), (7, true)] (by kernel_rfl) (by kernel_rfl) ?_ (eagerOpen rfl ?_)
  · exact below_drew1 _ _
  repeat (first
    | (first | (apply wpEager_take; (· rfl); (· (intro w' hb'; go_simp; try with_reducible rfl)); (try simp only [Act.put, List.setIfInBounds_toArray, List.set_cons_zero, List.set_cons_succ]); (try refine eagerOpen rfl ?_)) | (refine wpEager_skip (by rfl) ?_; (try simp only [Act.put, List.setIfInBounds_toArray, List.set_cons_zero, List.set_cons_succ]); (try refine eagerOpen rfl ?_)) | (refine wpEager_off (by rfl) ?_; (try simp only [Act.put, List.setIfInBounds_toArray, List.set_cons_zero, List.set_cons_succ]); (try refine eagerOpen rfl ?_)))
    | (apply wpEager_take; (· rfl); (· (intro w' hb'; have hk' := (hk.out) w' hb'; go_split_ands; go_simp; try with_reducible rfl)); (try simp only [Act.put, List.setIfInBounds_toArray, List.set_cons_zero, List.set_cons_succ]); (try refine eagerOpen rfl ?_))
    | (apply wpEager_take; (· rfl); (· (intro w' hb'; have hk' := (he.out) w' hb'; go_split_ands; go_simp; try with_reducible rfl)); (try simp only [Act.put, List.setIfInBounds_toArray, List.set_cons_zero, List.set_cons_succ]); (try refine eagerOpen rfl ?_)))
  (refine wpEager_op (by rfl) (fun K hK => ?_); go_simp; (refine (HKN.out _).mono ?_; rintro e y ⟨rfl, hb⟩; have hy1 : Below w2.heap.size w2 y := (below_drew1 w2.heap.size w2).trans hb; clear hb); refine Shut.out hK _ _ (by assumption) ?_; clear hK K; (try simp only [Act.put, List.setIfInBounds_toArray, List.set_cons_zero, List.set_cons_succ]); (try refine eagerOpen rfl ?_))
  (refine wpEager_op (by rfl) (fun K hK => ?_); go_simp; (refine (HEN.out _).mono ?_; rintro e y2 ⟨rfl, hb⟩; have hy2 : Below w2.heap.size w2 y2 := hy1.trans (hb.mono hy1.size); clear hb); refine Shut.out hK _ _ (by assumption) ?_; clear hK K; (try simp only [Act.put, List.setIfInBounds_toArray, List.set_cons_zero, List.set_cons_succ]); (try refine eagerOpen rfl ?_))
  refine wpEager_op (by rfl) (fun K hK => oper_of_list rfl ?_)
  refine wpList_buildTwo rfl _ _ rfl (nameB r.kind K7) (nameB r.err E21) rfl rfl ?_
  have hy3 : Below w2.heap.size w2 (y2.alloc (.cells #[.string (S (nameB r.kind K7)), .string (S (nameB r.err E21))] 9)) := hy2.alloc hy2.size _
  have HO3 := Lib.hid (own_two y2 (w.heap.size + 1) (nameB r.kind K7) (nameB r.err E21) (by have := HS2.out; have := hy2.size; omega))
  refine only_end (Shut.out hK _ _ hy3 ?_)
  clear hK K
  (try simp only [Act.put, List.setIfInBounds_toArray, List.set_cons_zero, List.set_cons_succ]); (try refine eagerOpen rfl ?_)
  repeat (first | (apply wpEager_take; (· rfl); (· (intro w' hb'; go_simp; try with_reducible rfl)); (try simp only [Act.put, List.setIfInBounds_toArray, List.set_cons_zero, List.set_cons_succ]); (try refine eagerOpen rfl ?_)) | (refine wpEager_skip (by rfl) ?_; (try simp only [Act.put, List.setIfInBounds_toArray, List.set_cons_zero, List.set_cons_succ]); (try refine eagerOpen rfl ?_)) | (refine wpEager_off (by rfl) ?_; (try simp only [Act.put, List.setIfInBounds_toArray, List.set_cons_zero, List.set_cons_succ]); (try refine eagerOpen rfl ?_)))
  refine eagerEnd ?_
  have HR3 := Lib.hid (Below.keepOld hy3 HR2.out)
  have HB3 := Lib.hid (HB2.out.trans (hy3.mono HB2.out.size))
  clear hy1 hy2 hy3 HR2 HB2 hk he HKN HEN
  have HS3 : Hid (w.heap.size + 1 ≤ (y2.alloc (.cells #[.string (S (nameB r.kind K7)), .string (S (nameB r.err E21))] 9)).heap.size) := (Array.getElem?_eq_some_iff.1 HR3.out).1
  clear HS2
  have HG3 : Hid (w.heap.size + 1 ≤ y2.heap.size) := (HO3.out.lt _ rfl).1
  generalize y2.alloc (.cells #[.string (S (nameB r.kind K7)), .string (S (nameB r.err E21))] 9) = w3 at *
  generalize y2.heap.size = g3 at *
  have hce := (rp_cells HR3.out).2.1
  by_cases hz : r.err = 0
  rotate_left
  · have e1 : (r.err == 0) = false := beq_eq_false_iff_ne.2 hz
    have HW : Hid (words r = [nameB r.kind K7, nameB r.err E21]) := by show words r = _; unfold words; rw [if_neg hz]; rfl
    have hj := join_any g3 0 2 2 (words r) w3 (by rw [HW.out]; exact own_ws HO3.out) (HO3.out.lt _ rfl).2 (by omega) (by have h1 := join_le (words r) 20 (words_short r HWF.out); have h2 := words_len r; omega)
    have HJ := Lib.hid hj
    clear hj hz
    go_wp2_with fail
    refine HJ.out.mono ?_
    rintro e w4 ⟨rfl, hb4⟩
    go_wp2_with fail
    go_ret
    exact ⟨by rw [HQ.out]; rfl, HB3.out.trans (hb4.mono HB3.out.size)⟩
  have e1 : (r.err == 0) = true := beq_iff_eq.2 hz
  have HW : Hid (words r = [nameB r.kind K7, nameB r.err E21] ++ r.nums.map decL) := by show words r = _; unfold words; rw [if_pos hz]
  clear hz
  go_wp2_with fail
  refine (numbers_any w.heap.size w3).mono ?_
  rintro e w4 ⟨rfl, hb4⟩
  have HR4 := Lib.hid (Below.keepOld hb4 HR3.out)
  have HO4 := Lib.hid (own_touch HO3.out (Turns.of_below (S := fun _ => False) hb4) (fun _ _ h => h))
  have HB4 := Lib.hid (HB3.out.trans (hb4.mono HB3.out.size))
  have HS4 : Hid (w.heap.size + 1 ≤ w4.heap.size) := (Array.getElem?_eq_some_iff.1 HR4.out).1
  clear hb4 HR3 HO3 HB3 hce HS3
  go_wp2_with fail
  go_loopw [3, 20] (fun v j wr => ∃ (i m : Nat) (p : Option Addr) (c : Nat), i ≤ 5 ∧ j = .int .i64 i ∧ v = .slice p m c ∧ m = 2 + i ∧ wr.ownsRow (w.heap.size + 1) 9 1 v m (strV ([nameB r.kind K7, nameB r.err E21] ++ (r.nums.take i).map decL)) ∧ wr.heap[w.heap.size]? = some (.cells (rpA r) 27 (0, 0)) ∧ Below w.heap.size w wr) (fun _ j _ => 5 - (intOf j).toNat)
  case atStart => exact ⟨0, 2, _, _, by omega, rfl, rfl, rfl, HO4.out, HR4.out, HB4.out⟩
  case round =>
    clear HO4 HR4 HB4 HS4
    obtain ⟨i, m, p, c, hi, rfl, rfl, hm, ho, hr5, hb5⟩ := hrel
    have HO5 := Lib.hid ho
    have HR5 := Lib.hid hr5
    have HB5 := Lib.hid hb5
    have HM := Lib.hid hm
    clear ho hr5 hb5 hm
    have HS5 : Hid (w.heap.size + 1 ≤ wr.heap.size) := (Array.getElem?_eq_some_iff.1 HR5.out).1
    by_cases hlt : i < 5
    · have hdi : decide ((i : Int) < 5) = true := decide_eq_true (by omega)
      have hdi2 : decide (i < 5) = true := decide_eq_true hlt
      have hpg := idx_run w.heap.size i hlt
      have hcx : wr.cell? ⟨w.heap.size, 2 + i, none⟩ = some (.int .u32 ((r.nums.getD i 0 : Nat) : Int)) := by rw [cell_of_row _ _ _ _ _ _ HR5.out]; exact rp_num r i hlt
      have hnl : i < r.nums.length := hlt
      have HGD : Hid ((r.nums.take (i + 1)).map decL = (r.nums.take i).map decL ++ [decL (r.nums.getD i 0)]) := by
        show _ = _
        rw [List.take_succ_eq_append_getElem hnl, List.map_append, List.getD_eq_getElem?_getD, List.getElem?_eq_getElem hnl]
        rfl
      have hnb : r.nums.getD i 0 < 4294967296 := by
        rw [List.getD_eq_getElem?_getD, List.getElem?_eq_getElem hnl]
        exact HWF.out _ (List.getElem_mem hnl)
      generalize r.nums.getD i 0 = v at *
      have hwrap : IntKind.u64.wrap (v : Int) = (v : Int) := by rw [IntKind.wrap_u64]; omega
      have HNUM := Lib.hid (HexW.num_any v wr (by omega))
      clear hnl
      go_wp2_with fail
      refine HNUM.out.mono ?_
      rintro e w6 ⟨rfl, hb6⟩
      have HR6 := Lib.hid (Below.keepOld hb6 HR5.out)
      have HO6 := Lib.hid (own_touch HO5.out (Turns.of_below (S := fun _ => False) hb6) (fun _ _ h => h))
      have HB6 := Lib.hid (HB5.out.trans (hb6.mono HB5.out.size))
      have HS6 : Hid (w.heap.size + 1 ≤ w6.heap.size) := (Array.getElem?_eq_some_iff.1 HR6.out).1
      clear hb6 HR5 HO5 HB5 HS5 hcx hpg HNUM
      have HO7 : Hid ((w6.alloc (.cells #[.string (S (decL v))] 9)).ownsRow (w.heap.size + 1) 9 1 (.slice p m c) m (strV ([nameB r.kind K7, nameB r.err E21] ++ (r.nums.take i).map decL))) := own_touch HO6.out (Turns.of_below (S := fun _ => False) (Below.allocs w6 _)) (fun _ _ h => h)
      have HX7 : Hid (Ws (w6.alloc (.cells #[.string (S (decL v))] 9)) (some ⟨w6.heap.size, 0, none⟩) 1 1 [decL v]) := Ws.row (ls := [decL v]) (heap_alloc_last w6 _) rfl (by show 1 ≤ _; omega)
      have hB7 := Below.allocs w6 (.cells #[.string (S (decL v))] 9)
      have HR7 := Lib.hid (Below.keepOld hB7 HR6.out)
      have HB7 := Lib.hid (HB6.out.trans (hB7.mono HB6.out.size))
      have HS7 : Hid (w.heap.size + 1 ≤ (w6.alloc (.cells #[.string (S (decL v))] 9)).heap.size) := (Array.getElem?_eq_some_iff.1 HR7.out).1
      have hm7 : m ≤ 7 := by have := HM.out; omega
      clear HR6 HO6 HB6 HS6 hB7
      go_wp2_with (at_builtin; refine wpList_append_nx rfl _ _ 35 rfl (base := w.heap.size + 1) Tryd.underlying35 infoStr rfl (by omega) rfl HO7.out rfl HX7.out (strV_one _) ⟨by omega, by omega⟩ HS7.out ?_)
      intro p' c' w8 ho8 hgr hnx _
      have hb8 := own_below HO7.out hgr HS7.out
      have HR8 := Lib.hid (Below.keepBlock hb8 HR7.out (Nat.lt_succ_self _))
      have HB8 := Lib.hid (HB7.out.trans (hb8.mono (Nat.le_succ _)))
      have HO8 : Hid (w8.ownsRow (w.heap.size + 1) 9 1 (.slice p' (m + 1) c') (m + 1) (strV ([nameB r.kind K7, nameB r.err E21] ++ (r.nums.take (i + 1)).map decL))) := by
        show World.ownsRow _ _ _ _ _ _ _
        rw [HGD.out, ← List.append_assoc]
        unfold strV at ho8 ⊢
        rw [List.map_append]
        rw [← List.map_take] at ho8
        exact ho8
      clear ho8 hgr hnx hb8 HO7 HX7 HR7 HB7 HS7
      go_wp2_with fail
      go_roundw
      case rel => exact ⟨i + 1, m + 1, p', c', by omega, by go_num, rfl, by have := HM.out; omega, HO8.out, HR8.out, HB8.out⟩
      case measure => simp [intOf]; omega
    · obtain rfl : i = 5 := by omega
      have hdi : decide ((5 : Int) < 5) = false := by decide
      have hmm : m = 7 := HM.out
      subst hmm
      have HWS : Hid (Ws wr p 7 c (words r)) := by
        show Ws _ _ _ _ _
        rw [HW.out]
        exact own_ws HO5.out
      obtain ⟨b, o, rfl⟩ := HWS.out.addr (by omega) (by omega)
      have HJ := Lib.hid (join_any b o 7 c (words r) wr HWS.out (HO5.out.lt _ rfl).2 (by omega) (by have h1 := join_le (words r) 20 (words_short r HWF.out); have h2 := words_len r; omega))
      go_wp2_with fail
      refine HJ.out.mono ?_
      rintro e w6 ⟨rfl, hb6⟩
      go_wp2_with fail
      go_ret
      exact ⟨by rw [HQ.out]; rfl, HB5.out.trans (hb6.mono HB5.out.size)⟩
end Go.Proofs.YtmphajilnkgcaaaDoor.Rpl

namespace Go.Proofs.YtmphajilnkgcaaaDoor.Rpl
open Go.RowKit Go.Mir Go.Mir.Hx Go.Mir.Parts

theorem alive_line : lineB ⟨2, 0, 3, 1, 5, 2, 100⟩ = [117, 112, 108, 111, 97, 100, 32, 111, 107, 32, 51, 32, 49, 32, 53, 32, 50, 32, 49, 48, 48] := by
  rw [lineB, if_pos ⟨⟨by decide, by decide, by decide, by decide⟩, .inl rfl⟩]
  decide
theorem alive_line2 : lineB ⟨2, 13, 0, 0, 0, 0, 0⟩ = [117, 112, 108, 111, 97, 100, 32, 101, 120, 112, 105, 114, 101, 100] := by
  rw [lineB, if_pos ⟨⟨by decide, by decide, by decide, by decide⟩, .inr ⟨rfl, rfl, rfl, rfl, rfl⟩⟩]
  decide
theorem alive_parse : parseB [117, 112, 108, 111, 97, 100, 32, 111, 107, 32, 51, 32, 49, 32, 53, 32, 50, 32, 49, 48, 48] = (⟨2, 0, 3, 1, 5, 2, 100⟩, 0) := by
  rw [← alive_line]
  exact parse_line ⟨⟨by decide, by decide, by decide, by decide⟩, .inl rfl⟩ (by intro n hn; simp only [RP.nums, List.mem_cons, List.not_mem_nil, or_false] at hn; omega)
set_option maxRecDepth 100000 in
set_option maxHeartbeats 1600000 in
theorem alive15_any (w : World) (hm : MaxL w) : Calls Tryd.prog 6 #[] w fun e w' => e = .returned (.bool true) ∧ Below w.heap.size w w' := by
  have hz := zeroR
  have hp := parse_any [117, 112, 108, 111, 97, 100, 32, 111, 107, 32, 51, 32, 49, 32, 53, 32, 50, 32, 49, 48, 48] w (by decide) hm
  unfold ParP at hp
  rw [alive_parse] at hp
  have HP := Lib.hid hp
  clear hp hm
  go_enter Tryd.func6, Tryd.ntmps6
  go_wp2_with fail
  refine HP.out.mono ?_
  rintro e w1 ⟨rfl, hb1⟩
  have hal := below_setRow (Below.allocs w1 (.cells zR 27)) (Nat.le_refl _) (rpA ⟨2, 0, 3, 1, 5, 2, 100⟩)
  have HB1 := Lib.hid (hb1.trans (hal.mono hb1.size))
  have hr1 := setRow_heap _ _ _ (rpA ⟨2, 0, 3, 1, 5, 2, 100⟩) _ _ (heap_alloc_last w1 (.cells zR 27))
  have hus := (rp_cells hr1).2.2.2.2.2.1
  clear hb1 HP hr1 hal
  have HL := Lib.hid (fun w => line_any ⟨2, 13, 0, 0, 0, 0, 0⟩ w (by intro n hn; simp only [RP.nums, List.mem_cons, List.not_mem_nil, or_false] at hn; omega))
  rw [alive_line2] at HL
  have HE := Lib.hid (fun w => errName_any 20 w ⟨by omega, by omega⟩)
  have HK := Lib.hid (fun w => kindName_any 77 w ⟨by omega, by omega⟩)
  have he : nameB 20 E21 = [100, 101, 101, 112] := by decide
  have hk : nameB 77 K7 = [63] := by decide
  rw [he] at HE
  rw [hk] at HK
  clear he hk
  go_upto_region 2 with (refine wpList_store_row rfl 27 _ _ rfl w1.heap.size (rpA ⟨2, 0, 3, 1, 5, 2, 100⟩) rfl rfl 27 zR (heap_alloc_last _ _) (infoR _ rfl) rfl (rpA_one _) ?_)
  try simp only [Act.put, List.setIfInBounds_toArray, List.set_cons_zero, List.set_cons_succ]
  generalize (w1.alloc (.cells zR 27)).setRow w1.heap.size (rpA ⟨2, 0, 3, 1, 5, 2, 100⟩) = w2 at *
  go_wp2_with (refine wpList_build_g rfl 27 _ rfl [(0, .int .i64 2), (1, .int .i64 13)] rfl _ (built_r2 2 13) ?_)
  refine (HL.out _).mono ?_
  rintro e w3 ⟨rfl, hb3⟩
  have HB3 := Lib.hid (HB1.out.trans (hb3.mono HB1.out.size))
  clear hb3 HL HB1
  go_wp2_with fail
  refine (HE.out _).mono ?_
  rintro e w4 ⟨rfl, hb4⟩
  have HB4 := Lib.hid (HB3.out.trans (hb4.mono HB3.out.size))
  clear hb4 HE HB3
  go_wp2_with fail
  refine (HK.out _).mono ?_
  rintro e w5 ⟨rfl, hb5⟩
  have HB5 := Lib.hid (HB4.out.trans (hb5.mono HB4.out.size))
  clear hb5 HK HB4
  go_wp2_with fail
  go_ret
  exact ⟨rfl, HB5.out⟩
end Go.Proofs.YtmphajilnkgcaaaDoor.Rpl

namespace Go.Proofs.YtmphajilnkgcaaaDoor.Rpl
open Go.RowKit Go.Mir Go.Mir.Hx Go.Mir.Parts

/-- a number's name, and the name's number -/
theorem nameQ {n : Int} {ls : List (List UInt8)} {m : Nat} (hm : ls.length = m) (hback : ∀ i : Fin m, ofB (nameB (i.val : Int) ls) ls = (i.val, true)) (hne : ∀ i : Fin m, nameB (i.val : Int) ls ≠ [63]) (hno : ofB [63] ls = (0, false)) :
    ∃ (v : Nat) (b : Bool), ofB (nameB n ls) ls = (v, b) ∧ (nameB n ls == [63]) = !b ∧ (b = true → n = (v : Int)) := by
  by_cases h : 0 ≤ n ∧ n < (ls.length : Int)
  · obtain ⟨k, rfl⟩ : ∃ k : Nat, n = (k : Int) := ⟨n.toNat, by omega⟩
    have hk : k < m := by omega
    exact ⟨k, true, hback ⟨k, hk⟩, beq_eq_false_iff_ne.2 (hne ⟨k, hk⟩), fun _ => rfl⟩
  · rw [name_out h]
    exact ⟨0, false, hno, rfl, fun h => by cases h⟩
set_option maxRecDepth 100000 in
set_option maxHeartbeats 3200000 in
theorem law_names (en kn : Int) (s : List UInt8) (w : World) (hm : MaxL w) (h1 : -9223372036854775808 ≤ en ∧ en ≤ 9223372036854775807) (h2 : -9223372036854775808 ≤ kn ∧ kn ≤ 9223372036854775807) :
    Calls Tryd.prog 4 #[.int .i64 en, .int .i64 kn, .string (S s)] w fun e w' => e = .returned (.bool true) ∧ Below w.heap.size w w' := by
  have HM := Lib.hid hm
  have HE := Lib.hid (fun w => errName_any en w h1)
  have HK := Lib.hid (fun w => kindName_any kn w h2)
  have HRE := Lib.hid (fun p m c w h => rname_any en p m c E21 w h h1)
  have HRK := Lib.hid (fun p m c w h => rname_any kn p m c K7 w h h2)
  obtain ⟨v1, b1, hO1, q1, hn1⟩ := nameQ (n := en) (ls := E21) (m := 21) rfl e21_back e21_ne63 e21_none
  obtain ⟨v2, b2, hO2, q2, hn2⟩ := nameQ (n := kn) (ls := K7) (m := 7) rfl k7_back k7_ne63 k7_none
  have HNE := Lib.hid (fun w => errOf_any (nameB en E21) w)
  have HNK := Lib.hid (fun w => kindOf_any (nameB kn K7) w)
  have HSE := Lib.hid (fun w => errOf_any s w)
  have HSK := Lib.hid (fun w => kindOf_any s w)
  have HSRE := Lib.hid (fun p m c w h => rof_any s p m c E21 w h)
  have HSRK := Lib.hid (fun p m c w h => rof_any s p m c K7 w h)
  simp only [hO1] at HNE
  simp only [hO2] at HNK
  clear hO1 hO2 hm h1 h2
  generalize nameB en E21 = x1 at *
  generalize nameB kn K7 = x2 at *
  generalize ofB s E21 = O3 at *
  generalize ofB s K7 = O4 at *
  obtain ⟨v3, b3⟩ := O3
  obtain ⟨v4, b4⟩ := O4
  dsimp only at HSE HSK HSRE HSRK
  cases b1 with
  | true =>
    obtain rfl := hn1 rfl
    cases b2 with
    | true =>
      obtain rfl := hn2 rfl
      have q1' : (x1 == [63]) = false := q1
      have q2' : (x2 == [63]) = false := q2
      clear hn1 hn2 q1 q2
      skip
      go_enter Tryd.func4, Tryd.ntmps4
      go_wp2_with fail
      refine (HE.out _).mono ?_
      rintro e w1 ⟨rfl, hb⟩
      have HB1 := Lib.hid hb
      clear hb HE
      go_wp2_with fail
      refine (HK.out _).mono ?_
      rintro e w2 ⟨rfl, hb⟩
      have HB2 := Lib.hid (HB1.out.trans (hb.mono HB1.out.size))
      clear hb HK HB1
      go_wp2_with fail
      refine (rerrs_any w2).mono ?_
      rintro e w3 ⟨rfl, hws, hb⟩
      have HN := Lib.hid (HRE.out _ _ _ _ hws)
      have HB3 := Lib.hid (HB2.out.trans (hb.mono HB2.out.size))
      clear hb hws HRE HB2
      generalize w2.heap.size = g2 at *
      go_wp2_with fail
      refine HN.out.mono ?_
      rintro e w' ⟨rfl, rfl⟩
      clear HN
      go_wp2_with fail
      refine (rkinds_any w3).mono ?_
      rintro e w4 ⟨rfl, hws, hb⟩
      have HN := Lib.hid (HRK.out _ _ _ _ hws)
      have HB4 := Lib.hid (HB3.out.trans (hb.mono HB3.out.size))
      clear hb hws HRK HB3
      generalize w3.heap.size = g3 at *
      go_wp2_with fail
      refine HN.out.mono ?_
      rintro e w' ⟨rfl, rfl⟩
      clear HN
      go_wp2_with fail
      refine (HSE.out w4).mono ?_
      rintro e w5 ⟨rfl, hb⟩
      have HB5 := Lib.hid (HB4.out.trans (hb.mono HB4.out.size))
      clear hb HSE HB4
      go_wp2_with fail
      refine (rerrs_any w5).mono ?_
      rintro e w6 ⟨rfl, hws, hb⟩
      have HN := Lib.hid (HSRE.out _ _ _ _ hws)
      have HB6 := Lib.hid (HB5.out.trans (hb.mono HB5.out.size))
      clear hb hws HSRE HB5
      generalize w5.heap.size = g5 at *
      go_wp2_with fail
      refine HN.out.mono ?_
      rintro e w' ⟨rfl, rfl⟩
      clear HN
      go_wp2_with fail
      refine (HSK.out w6).mono ?_
      rintro e w7 ⟨rfl, hb⟩
      have HB7 := Lib.hid (HB6.out.trans (hb.mono HB6.out.size))
      clear hb HSK HB6
      go_wp2_with fail
      refine (rkinds_any w7).mono ?_
      rintro e w8 ⟨rfl, hws, hb⟩
      have HN := Lib.hid (HSRK.out _ _ _ _ hws)
      have HB8 := Lib.hid (HB7.out.trans (hb.mono HB7.out.size))
      clear hb hws HSRK HB7
      generalize w7.heap.size = g7 at *
      go_wp2_with fail
      refine HN.out.mono ?_
      rintro e w' ⟨rfl, rfl⟩
      clear HN
      go_wp2_with fail
      refine (HNE.out w8).mono ?_
      rintro e w9 ⟨rfl, hb⟩
      have HB9 := Lib.hid (HB8.out.trans (hb.mono HB8.out.size))
      clear hb HNE HB8
      go_wp2_with fail
      refine (HNK.out w9).mono ?_
      rintro e w10 ⟨rfl, hb⟩
      have HB10 := Lib.hid (HB9.out.trans (hb.mono HB9.out.size))
      clear hb HNK HB9
      go_wp2_with fail
      refine (alive15_any w10 (HM.out.below HB10.out)).mono ?_
      rintro e w11 ⟨rfl, hb⟩
      go_wp2_with fail
      go_ret
      exact ⟨rfl, HB10.out.trans (hb.mono HB10.out.size)⟩
    | false =>
      have q1' : (x1 == [63]) = false := q1
      have q2' : (x2 == [63]) = true := q2
      clear hn1 hn2 q1 q2
      skip
      go_enter Tryd.func4, Tryd.ntmps4
      go_wp2_with fail
      refine (HE.out _).mono ?_
      rintro e w1 ⟨rfl, hb⟩
      have HB1 := Lib.hid hb
      clear hb HE
      go_wp2_with fail
      refine (HK.out _).mono ?_
      rintro e w2 ⟨rfl, hb⟩
      have HB2 := Lib.hid (HB1.out.trans (hb.mono HB1.out.size))
      clear hb HK HB1
      go_wp2_with fail
      refine (rerrs_any w2).mono ?_
      rintro e w3 ⟨rfl, hws, hb⟩
      have HN := Lib.hid (HRE.out _ _ _ _ hws)
      have HB3 := Lib.hid (HB2.out.trans (hb.mono HB2.out.size))
      clear hb hws HRE HB2
      generalize w2.heap.size = g2 at *
      go_wp2_with fail
      refine HN.out.mono ?_
      rintro e w' ⟨rfl, rfl⟩
      clear HN
      go_wp2_with fail
      refine (rkinds_any w3).mono ?_
      rintro e w4 ⟨rfl, hws, hb⟩
      have HN := Lib.hid (HRK.out _ _ _ _ hws)
      have HB4 := Lib.hid (HB3.out.trans (hb.mono HB3.out.size))
      clear hb hws HRK HB3
      generalize w3.heap.size = g3 at *
      go_wp2_with fail
      refine HN.out.mono ?_
      rintro e w' ⟨rfl, rfl⟩
      clear HN
      go_wp2_with fail
      refine (HSE.out w4).mono ?_
      rintro e w5 ⟨rfl, hb⟩
      have HB5 := Lib.hid (HB4.out.trans (hb.mono HB4.out.size))
      clear hb HSE HB4
      go_wp2_with fail
      refine (rerrs_any w5).mono ?_
      rintro e w6 ⟨rfl, hws, hb⟩
      have HN := Lib.hid (HSRE.out _ _ _ _ hws)
      have HB6 := Lib.hid (HB5.out.trans (hb.mono HB5.out.size))
      clear hb hws HSRE HB5
      generalize w5.heap.size = g5 at *
      go_wp2_with fail
      refine HN.out.mono ?_
      rintro e w' ⟨rfl, rfl⟩
      clear HN
      go_wp2_with fail
      refine (HSK.out w6).mono ?_
      rintro e w7 ⟨rfl, hb⟩
      have HB7 := Lib.hid (HB6.out.trans (hb.mono HB6.out.size))
      clear hb HSK HB6
      go_wp2_with fail
      refine (rkinds_any w7).mono ?_
      rintro e w8 ⟨rfl, hws, hb⟩
      have HN := Lib.hid (HSRK.out _ _ _ _ hws)
      have HB8 := Lib.hid (HB7.out.trans (hb.mono HB7.out.size))
      clear hb hws HSRK HB7
      generalize w7.heap.size = g7 at *
      go_wp2_with fail
      refine HN.out.mono ?_
      rintro e w' ⟨rfl, rfl⟩
      clear HN
      go_wp2_with fail
      refine (HNE.out w8).mono ?_
      rintro e w9 ⟨rfl, hb⟩
      have HB9 := Lib.hid (HB8.out.trans (hb.mono HB8.out.size))
      clear hb HNE HB8
      go_wp2_with fail
      refine (HNK.out w9).mono ?_
      rintro e w10 ⟨rfl, hb⟩
      have HB10 := Lib.hid (HB9.out.trans (hb.mono HB9.out.size))
      clear hb HNK HB9
      go_wp2_with fail
      refine (alive15_any w10 (HM.out.below HB10.out)).mono ?_
      rintro e w11 ⟨rfl, hb⟩
      go_wp2_with fail
      go_ret
      exact ⟨rfl, HB10.out.trans (hb.mono HB10.out.size)⟩
  | false =>
    cases b2 with
    | true =>
      obtain rfl := hn2 rfl
      have q1' : (x1 == [63]) = true := q1
      have q2' : (x2 == [63]) = false := q2
      clear hn1 hn2 q1 q2
      skip
      go_enter Tryd.func4, Tryd.ntmps4
      go_wp2_with fail
      refine (HE.out _).mono ?_
      rintro e w1 ⟨rfl, hb⟩
      have HB1 := Lib.hid hb
      clear hb HE
      go_wp2_with fail
      refine (HK.out _).mono ?_
      rintro e w2 ⟨rfl, hb⟩
      have HB2 := Lib.hid (HB1.out.trans (hb.mono HB1.out.size))
      clear hb HK HB1
      go_wp2_with fail
      refine (rerrs_any w2).mono ?_
      rintro e w3 ⟨rfl, hws, hb⟩
      have HN := Lib.hid (HRE.out _ _ _ _ hws)
      have HB3 := Lib.hid (HB2.out.trans (hb.mono HB2.out.size))
      clear hb hws HRE HB2
      generalize w2.heap.size = g2 at *
      go_wp2_with fail
      refine HN.out.mono ?_
      rintro e w' ⟨rfl, rfl⟩
      clear HN
      go_wp2_with fail
      refine (rkinds_any w3).mono ?_
      rintro e w4 ⟨rfl, hws, hb⟩
      have HN := Lib.hid (HRK.out _ _ _ _ hws)
      have HB4 := Lib.hid (HB3.out.trans (hb.mono HB3.out.size))
      clear hb hws HRK HB3
      generalize w3.heap.size = g3 at *
      go_wp2_with fail
      refine HN.out.mono ?_
      rintro e w' ⟨rfl, rfl⟩
      clear HN
      go_wp2_with fail
      refine (HSE.out w4).mono ?_
      rintro e w5 ⟨rfl, hb⟩
      have HB5 := Lib.hid (HB4.out.trans (hb.mono HB4.out.size))
      clear hb HSE HB4
      go_wp2_with fail
      refine (rerrs_any w5).mono ?_
      rintro e w6 ⟨rfl, hws, hb⟩
      have HN := Lib.hid (HSRE.out _ _ _ _ hws)
      have HB6 := Lib.hid (HB5.out.trans (hb.mono HB5.out.size))
      clear hb hws HSRE HB5
      generalize w5.heap.size = g5 at *
      go_wp2_with fail
      refine HN.out.mono ?_
      rintro e w' ⟨rfl, rfl⟩
      clear HN
      go_wp2_with fail
      refine (HSK.out w6).mono ?_
      rintro e w7 ⟨rfl, hb⟩
      have HB7 := Lib.hid (HB6.out.trans (hb.mono HB6.out.size))
      clear hb HSK HB6
      go_wp2_with fail
      refine (rkinds_any w7).mono ?_
      rintro e w8 ⟨rfl, hws, hb⟩
      have HN := Lib.hid (HSRK.out _ _ _ _ hws)
      have HB8 := Lib.hid (HB7.out.trans (hb.mono HB7.out.size))
      clear hb hws HSRK HB7
      generalize w7.heap.size = g7 at *
      go_wp2_with fail
      refine HN.out.mono ?_
      rintro e w' ⟨rfl, rfl⟩
      clear HN
      go_wp2_with fail
      refine (HNE.out w8).mono ?_
      rintro e w9 ⟨rfl, hb⟩
      have HB9 := Lib.hid (HB8.out.trans (hb.mono HB8.out.size))
      clear hb HNE HB8
      go_wp2_with fail
      refine (HNK.out w9).mono ?_
      rintro e w10 ⟨rfl, hb⟩
      have HB10 := Lib.hid (HB9.out.trans (hb.mono HB9.out.size))
      clear hb HNK HB9
      go_wp2_with fail
      refine (alive15_any w10 (HM.out.below HB10.out)).mono ?_
      rintro e w11 ⟨rfl, hb⟩
      go_wp2_with fail
      go_ret
      exact ⟨rfl, HB10.out.trans (hb.mono HB10.out.size)⟩
    | false =>
      have q1' : (x1 == [63]) = true := q1
      have q2' : (x2 == [63]) = true := q2
      clear hn1 hn2 q1 q2
      skip
      go_enter Tryd.func4, Tryd.ntmps4
      go_wp2_with fail
      refine (HE.out _).mono ?_
      rintro e w1 ⟨rfl, hb⟩
      have HB1 := Lib.hid hb
      clear hb HE
      go_wp2_with fail
      refine (HK.out _).mono ?_
      rintro e w2 ⟨rfl, hb⟩
      have HB2 := Lib.hid (HB1.out.trans (hb.mono HB1.out.size))
      clear hb HK HB1
      go_wp2_with fail
      refine (rerrs_any w2).mono ?_
      rintro e w3 ⟨rfl, hws, hb⟩
      have HN := Lib.hid (HRE.out _ _ _ _ hws)
      have HB3 := Lib.hid (HB2.out.trans (hb.mono HB2.out.size))
      clear hb hws HRE HB2
      generalize w2.heap.size = g2 at *
      go_wp2_with fail
      refine HN.out.mono ?_
      rintro e w' ⟨rfl, rfl⟩
      clear HN
      go_wp2_with fail
      refine (rkinds_any w3).mono ?_
      rintro e w4 ⟨rfl, hws, hb⟩
      have HN := Lib.hid (HRK.out _ _ _ _ hws)
      have HB4 := Lib.hid (HB3.out.trans (hb.mono HB3.out.size))
      clear hb hws HRK HB3
      generalize w3.heap.size = g3 at *
      go_wp2_with fail
      refine HN.out.mono ?_
      rintro e w' ⟨rfl, rfl⟩
      clear HN
      go_wp2_with fail
      refine (HSE.out w4).mono ?_
      rintro e w5 ⟨rfl, hb⟩
      have HB5 := Lib.hid (HB4.out.trans (hb.mono HB4.out.size))
      clear hb HSE HB4
      go_wp2_with fail
      refine (rerrs_any w5).mono ?_
      rintro e w6 ⟨rfl, hws, hb⟩
      have HN := Lib.hid (HSRE.out _ _ _ _ hws)
      have HB6 := Lib.hid (HB5.out.trans (hb.mono HB5.out.size))
      clear hb hws HSRE HB5
      generalize w5.heap.size = g5 at *
      go_wp2_with fail
      refine HN.out.mono ?_
      rintro e w' ⟨rfl, rfl⟩
      clear HN
      go_wp2_with fail
      refine (HSK.out w6).mono ?_
      rintro e w7 ⟨rfl, hb⟩
      have HB7 := Lib.hid (HB6.out.trans (hb.mono HB6.out.size))
      clear hb HSK HB6
      go_wp2_with fail
      refine (rkinds_any w7).mono ?_
      rintro e w8 ⟨rfl, hws, hb⟩
      have HN := Lib.hid (HSRK.out _ _ _ _ hws)
      have HB8 := Lib.hid (HB7.out.trans (hb.mono HB7.out.size))
      clear hb hws HSRK HB7
      generalize w7.heap.size = g7 at *
      go_wp2_with fail
      refine HN.out.mono ?_
      rintro e w' ⟨rfl, rfl⟩
      clear HN
      go_wp2_with fail
      refine (HNE.out w8).mono ?_
      rintro e w9 ⟨rfl, hb⟩
      have HB9 := Lib.hid (HB8.out.trans (hb.mono HB8.out.size))
      clear hb HNE HB8
      go_wp2_with fail
      refine (HNK.out w9).mono ?_
      rintro e w10 ⟨rfl, hb⟩
      have HB10 := Lib.hid (HB9.out.trans (hb.mono HB9.out.size))
      clear hb HNK HB9
      go_wp2_with fail
      refine (alive15_any w10 (HM.out.below HB10.out)).mono ?_
      rintro e w11 ⟨rfl, hb⟩
      go_wp2_with fail
      go_ret
      exact ⟨rfl, HB10.out.trans (hb.mono HB10.out.size)⟩
end Go.Proofs.YtmphajilnkgcaaaDoor.Rpl

namespace Go.Mir
open Go.ChangeShapes Go.WideShapes Go.ChangeAt Go.RowKit

theorem u8_of_list (zs : List Int) (h : ∀ n ∈ zs, (Lit.int .u8 n).wf = true) : ∃ l : List UInt8, zs = l.map (fun b => (b.toNat : Int)) := by
  induction zs with
  | nil => exact ⟨[], rfl⟩
  | cons z zs ih =>
    obtain ⟨l, rfl⟩ := ih (fun n hn => h n (by simp [hn]))
    have hz := h z (by simp)
    have hb : 0 ≤ z ∧ z ≤ 255 := by simpa [Lit.wf, IntKind.min, IntKind.max, IntKind.signed, IntKind.bits] using hz
    refine ⟨UInt8.ofNat z.toNat :: l, ?_⟩
    have : (UInt8.ofNat z.toNat).toNat = z.toNat := by
      rw [UInt8.toNat_ofNat']; exact Nat.mod_eq_of_lt (by omega)
    simp [this]; omega

/-- a []byte that came in -/
theorem open_bs {P : Program} {W : World} {H : Type} {enc : TypeId × Value → H} {t e base : Nat} {v : Value} {d : DataW H} {ps : List MemPlace} (ht : P.underlying t = some (.slice e)) (he : P.underlying e = some (.int .u8)) (hc : P.cellsOf e = 1)
    (hval : Value.okWide P W .any base t v) (h : DataW.Trod enc P W 0 (fun _ => true) true t v d ps) : ∃ p n c l, v = .slice p n c ∧ Bs W p n c l := by
  obtain ⟨a, n, c, rfl⟩ := okWide_slice ht hval
  obtain ⟨fuel, hf⟩ := h
  rcases open_ints ht he hc hf with ⟨hcs, _⟩ | ⟨x, l, c', zs, hcs, _, hl, hm, hz, _, hcell, hwz⟩
  · simp [Value.cells] at hcs
    obtain ⟨rfl, rfl, rfl⟩ := hcs
    exact ⟨_, _, _, [], rfl, Sl.nil _ _⟩
  · simp [Value.cells] at hcs
    obtain ⟨rfl, rfl, rfl⟩ := hcs
    obtain ⟨bs, rfl⟩ := u8_of_list zs hwz
    have hbl : bs.length = c := by simpa using hz
    refine ⟨_, _, _, bs.take n, rfl, ⟨?_, hl, by simpa [maxLen] using hm, fun h => (by cases h), fun a ha j u hu => ?_⟩⟩
    · rw [bytesV_length, List.length_take]; omega
    · obtain rfl := Option.some.inj ha
      have hj : j < n := by
        have := (List.getElem?_eq_some_iff.1 hu).1
        rw [bytesV_length, List.length_take] at this; omega
      have hc0 := hcell j (by simp; omega)
      rw [hc0, ← hu]
      simp [bytesV, hj, show j < bs.length by omega]

/-- a uint32 that came in, as a word -/
theorem u32_word {a : Int} (h : (Lit.int .u32 a).wf = true) : ∃ x : BitVec 32, a = (x.toNat : Int) := by
  have hb : 0 ≤ a ∧ a ≤ 4294967295 := by simpa [Lit.wf, IntKind.min, IntKind.max, IntKind.signed, IntKind.bits] using h
  refine ⟨BitVec.ofNat 32 a.toNat, ?_⟩
  rw [BitVec.toNat_ofNat, Nat.mod_eq_of_lt (by omega)]; omega
theorem u16_nat {a : Int} (h : (Lit.int .u16 a).wf = true) : ∃ x : Nat, a = (x : Int) ∧ x < 65536 := by
  have hb : 0 ≤ a ∧ a ≤ 65535 := by simpa [Lit.wf, IntKind.min, IntKind.max, IntKind.signed, IntKind.bits] using h
  exact ⟨a.toNat, by omega, by omega⟩
theorem u64_nat {a : Int} (h : (Lit.int .u64 a).wf = true) : ∃ x : Nat, a = (x : Int) ∧ x < 18446744073709551616 := by
  have hb : 0 ≤ a ∧ a ≤ 18446744073709551615 := by simpa [Lit.wf, IntKind.min, IntKind.max, IntKind.signed, IntKind.bits] using h
  exact ⟨a.toNat, by omega, by omega⟩
theorem i64_bd {a : Int} (h : (Lit.int .i64 a).wf = true) : -9223372036854775808 ≤ a ∧ a ≤ 9223372036854775807 := by
  simpa [Lit.wf, IntKind.min, IntKind.max, IntKind.signed, IntKind.bits] using h

/-- an array of numbers that came in, by its cells -/
theorem trod_nums {P : Program} {W : World} {H : Type} {enc : TypeId × Value → H} {base : Nat} {spare : Nat → Bool} {held : Bool} {fuel t n e : Nat} {k : IntKind} {cs : List Value} {x : DataW H × List MemPlace}
    (ht : P.underlying t = some (.array n e)) (he : P.underlying e = some (.int k)) (hc : P.cellsOf e = 1) (hct : P.cellsOf t = n) (h : DataW.trod enc P W base spare held fuel t cs = some x) :
    ∃ zs : List Int, cs = zs.map (Value.int k) ∧ zs.length = n ∧ ∀ z ∈ zs, (Lit.int k z).wf = true := by
  obtain ⟨xs, m, rfl, _, hl, hxl, hx⟩ := DataW.trod_array ht h
  rw [hct] at hl
  have key : ∀ i, i < n → ∃ z, cs[i]? = some (.int k z) ∧ (Lit.int k z).wf = true := by
    intro i hi
    have h1 := hx i hi
    rw [hc, Nat.mul_one] at h1
    have h2 : xs[i]? = some xs[i] := List.getElem?_eq_getElem (by omega)
    rw [h2] at h1
    obtain ⟨z, hz, _, hw⟩ := DataW.trod_int he h1
    refine ⟨z, ?_, hw⟩
    have h3 := congrArg (·[0]?) hz
    simpa using h3
  refine ⟨cs.map intOf, ?_, by simp [hl], ?_⟩
  · apply List.ext_getElem?
    intro i
    by_cases hi : i < n
    · obtain ⟨z, hz, _⟩ := key i hi
      simp [hz, intOf]
    · rw [List.getElem?_eq_none (by omega), List.getElem?_eq_none (by simp; omega)]
  · intro z hz
    rw [List.mem_map] at hz
    obtain ⟨v, hv, rfl⟩ := hz
    obtain ⟨i, hi, rfl⟩ := List.mem_iff_getElem.1 hv
    obtain ⟨z, hz, hw⟩ := key i (by omega)
    rw [List.getElem?_eq_getElem hi] at hz
    rw [Option.some.inj hz]; exact hw
theorem okWide_arr {P : Program} {W : World} {r : Reach} {base t n e : Nat} {v : Value} (ht : P.underlying t = some (.array n e)) (h : Value.okWide P W r base t v) : ∃ cs, v = .agg cs := by
  unfold Value.okWide at h
  rw [ht] at h
  obtain ⟨cs, hv, _⟩ := h
  exact ⟨cs, hv⟩
/-- an array of numbers that came in by value -/
theorem open_nums {P : Program} {W : World} {H : Type} {enc : TypeId × Value → H} {base t n e : Nat} {k : IntKind} {v : Value} {d : DataW H} {ps : List MemPlace}
    (ht : P.underlying t = some (.array n e)) (he : P.underlying e = some (.int k)) (hc : P.cellsOf e = 1) (hct : P.cellsOf t = n)
    (hval : Value.okWide P W .any base t v) (h : DataW.Trod enc P W 0 (fun _ => true) true t v d ps) : ∃ zs : List Int, v = .agg (zs.map (Value.int k)).toArray ∧ zs.length = n ∧ ∀ z ∈ zs, (Lit.int k z).wf = true := by
  obtain ⟨cs, rfl⟩ := okWide_arr ht hval
  obtain ⟨fuel, hf⟩ := h
  obtain ⟨zs, h1, h2, h3⟩ := trod_nums ht he hc hct hf
  refine ⟨zs, ?_, h2, h3⟩
  congr 1
  rw [← h1]; simp [Value.cells]

/-- how many elements a slice's datum has -/
def dlen {H : Type} : DataW H → Nat
  | .slice elems _ => elems.length
  | _ => 0

/-- a []byte by its cell -/
theorem trod_bs {P : Program} {W : World} {H : Type} {enc : TypeId × Value → H} {base fuel t e : Nat} {held : Bool} {cs : List Value} {x : DataW H × List MemPlace}
    (ht : P.underlying t = some (.slice e)) (he : P.underlying e = some (.int .u8)) (hc : P.cellsOf e = 1) (h : DataW.trod enc P W base (fun _ => true) held fuel t cs = some x) :
    ∃ p n c l, cs = [.slice p n c] ∧ Bs W p n c l ∧ dlen x.1 = n := by
  rcases Deep.open_slice1 ht hc h with ⟨rfl, rfl⟩ | ⟨a, len, cap, m, k, V, D, Pl, rfl, hb, hl, hm, hmm, rfl, hx⟩
  · exact ⟨_, _, _, [], rfl, Sl.nil _ _, rfl⟩
  · simp only [if_true] at hmm
    subst hmm
    have key : ∀ i, i < m → ∃ b : UInt8, V i = .int .u8 (b.toNat : Int) := by
      intro i hi
      obtain ⟨z, hz, _, hw⟩ := DataW.trod_int he (hx i hi).2
      obtain ⟨l, hl⟩ := u8_of_list [z] (by simpa using hw)
      match l, hl with
      | [b], hl => exact ⟨b, by simp at hz hl; rw [hz, hl]⟩
    refine ⟨_, _, _, (List.range len).map (fun i => UInt8.ofNat (intOf (V i)).toNat), rfl, ⟨?_, hl, by simpa [maxLen] using hm, fun h => (by cases h), fun a' ha j u hu => ?_⟩, by simp [dlen]⟩
    · simp [bytesV]
    · obtain rfl := Option.some.inj ha
      have hj : j < len := by
        have := (List.getElem?_eq_some_iff.1 hu).1
        simpa [bytesV] using this
      rw [(hx j (by omega)).1, ← hu]
      obtain ⟨b, hb⟩ := key j (by omega)
      rw [hb]
      simp [bytesV, hj, hb, intOf]

/-- a [][]byte that came in -/
theorem open_pts {P : Program} {W : World} {H : Type} {enc : TypeId × Value → H} {t e q base : Nat} {v : Value} {d : DataW H} {ps : List MemPlace} (ht : P.underlying t = some (.slice e)) (he : P.underlying e = some (.slice q)) (hq : P.underlying q = some (.int .u8)) (hc : P.cellsOf e = 1) (hcq : P.cellsOf q = 1)
    (hval : Value.okWide P W .any base t v) (h : DataW.Trod enc P W 0 (fun _ => true) true t v d ps) :
    ∃ p n c ls, v = .slice p n c ∧ Pts W p n c ls ∧ ((d = .nil ∧ ls = []) ∨ ∃ elems spare, d = .slice elems spare ∧ elems.map dlen = ls.map List.length) := by
  obtain ⟨a, n, c, rfl⟩ := okWide_slice ht hval
  obtain ⟨fuel, hf⟩ := h
  rcases Deep.open_slice1 ht hc hf with ⟨hcs, hx⟩ | ⟨a', len, cap, m, k, V, D, Pl, hcs, hb, hl, hm, hmm, hx, hv⟩
  · simp [Value.cells] at hcs
    obtain ⟨rfl, rfl, rfl⟩ := hcs
    exact ⟨_, _, _, [], rfl, Pts.made0 _, .inl ⟨(Prod.ext_iff.1 hx).1, rfl⟩⟩
  · simp [Value.cells] at hcs
    obtain ⟨rfl, rfl, rfl⟩ := hcs
    simp only [if_true] at hmm
    subst hmm
    have key : ∀ i, i < m → ∃ l : List UInt8, ∃ q m' k', V i = .slice q m' k' ∧ Bs W q m' k' l ∧ dlen (D i) = l.length := by
      intro i hi
      obtain ⟨q', n', c', l, h1, h2, h3⟩ := trod_bs he hq hcq (hv i hi).2
      exact ⟨l, q', n', c', by simpa using h1, h2, by rw [h3, h2.length]⟩
    obtain ⟨ls, hls, hlk⟩ : ∃ ls : List (List UInt8), ls.length = n ∧ ∀ i (h : i < ls.length), ∃ q m' k', V i = .slice q m' k' ∧ Bs W q m' k' ls[i] ∧ dlen (D i) = ls[i].length := by
      have : ∀ j, j ≤ n → ∃ ls : List (List UInt8), ls.length = j ∧ ∀ i (h : i < ls.length), ∃ q m' k', V i = .slice q m' k' ∧ Bs W q m' k' ls[i] ∧ dlen (D i) = ls[i].length := by
        intro j
        induction j with
        | zero => intro _; exact ⟨[], rfl, fun i h => by simp at h⟩
        | succ j ih =>
          intro hj
          obtain ⟨ls, h1, h2⟩ := ih (by omega)
          obtain ⟨l, hl⟩ := key j (by omega)
          refine ⟨ls ++ [l], by simp [h1], fun i hi => ?_⟩
          by_cases hij : i < j
          · rw [List.getElem_append_left (by omega)]; exact h2 i (by omega)
          · have : i = j := by simp [h1] at hi; omega
            subst this
            rw [List.getElem_append_right (by omega)]
            simpa [h1] using hl
      exact this n (Nat.le_refl _)
    refine ⟨_, _, _, ls, rfl, ⟨hls, hl, by simpa [maxLen] using hm, fun h => (by cases h), fun a ha j hj => ?_⟩, .inr ⟨_, _, (Prod.ext_iff.1 hx).1, ?_⟩⟩
    · obtain rfl := Option.some.inj ha
      obtain ⟨q', m', k', h1, h2, h3⟩ := hlk j hj
      exact ⟨q', m', k', by rw [(hv j (by omega)).1, h1], h2⟩
    · apply List.ext_getElem
      · simp [hls]
      · intro i h1 h2
        obtain ⟨q', m', k', h3, h4, h5⟩ := hlk i (by simpa using h2)
        simpa using h5

theorem addr_add_add (a : Addr) (i j : Nat) : (a.add i).add j = a.add (i + j) := by
  unfold Addr.add
  by_cases hj : j = 0
  · simp [hj]
  · by_cases hi : i = 0
    · simp [hi, hj]
    · simp [hi, hj, Nat.add_assoc]
theorem flatMap_length {α β : Type} (f : α → List β) (m : Nat) (l : List α) (h : ∀ x ∈ l, (f x).length = m) : (l.flatMap f).length = l.length * m := by
  induction l with
  | nil => simp
  | cons x l ih =>
    rw [List.flatMap_cons, List.length_append, h x (by simp), ih (fun y hy => h y (by simp [hy])), List.length_cons, Nat.add_mul]; omega
theorem build_list {α : Type} (n : Nat) (R : Nat → α → Prop) (h : ∀ i, i < n → ∃ x, R i x) : ∃ l : List α, l.length = n ∧ ∀ i (hi : i < l.length), R i l[i] := by
  induction n with
  | zero => exact ⟨[], rfl, fun i hi => by simp at hi⟩
  | succ n ih =>
    obtain ⟨l, h1, h2⟩ := ih (fun i hi => h i (by omega))
    obtain ⟨x, hx⟩ := h n (by omega)
    refine ⟨l ++ [x], by simp [h1], fun i hi => ?_⟩
    by_cases hin : i < n
    · rw [List.getElem_append_left (by omega)]; exact h2 i (by omega)
    · have : i = n := by simp [h1] at hi; omega
      subst this
      rw [List.getElem_append_right (by omega)]
      simpa [h1] using hx

/-- a slice of arrays of bytes, by its cell -/
theorem trod_is {P : Program} {W : World} {H : Type} {enc : TypeId × Value → H} {base fuel t e u n : Nat} {held : Bool} {cs : List Value} {x : DataW H × List MemPlace}
    (ht : P.underlying t = some (.slice e)) (he : P.underlying e = some (.array n u)) (hu : P.underlying u = some (.int .u8)) (hcu : P.cellsOf u = 1) (hce : P.cellsOf e = n) (hn : 0 < n) (h : DataW.trod enc P W base (fun _ => true) held fuel t cs = some x) :
    ∃ p len c ids, cs = [.slice p len c] ∧ Is W p len c n ids ∧ dlen x.1 = len := by
  rcases Deep.open_slice ht h with ⟨rfl, rfl⟩ | ⟨a, len, cap, m, k, D, Pl, rfl, hb, hl, hm, hmm, rfl, hx⟩
  · exact ⟨_, _, _, [], rfl, ⟨Sl.nil _ _, fun _ h => by simp at h, rfl⟩, rfl⟩
  · simp only [if_true] at hmm
    subst hmm
    rw [hce] at hx
    obtain ⟨ids, hil, hids⟩ := build_list (α := List UInt8) len (fun i b => b.length = n ∧ ∀ j (hj : j < b.length), W.cell? (a.add (i * n + j)) = some (.int .u8 (b[j].toNat : Int))) (fun i hi => by
      obtain ⟨cs', h1, h2⟩ := hx i (by omega)
      obtain ⟨zs, rfl, hz, hw⟩ := trod_nums he hu hcu hce h2
      obtain ⟨b, rfl⟩ := u8_of_list zs hw
      obtain ⟨_, _, h3⟩ := World.cells?_some h1
      have hbl : b.length = n := by simpa using hz
      refine ⟨b, hbl, fun j hj => ?_⟩
      rw [← addr_add_add, h3 j (by omega)]
      simp [hj])
    have heach : ∀ y ∈ ids, y.length = n := by
      intro y hy
      obtain ⟨i, hi, rfl⟩ := List.mem_iff_getElem.1 hy
      exact (hids i hi).1
    have hfl : ∀ y ∈ ids, (bytesV y).length = n := fun y hy => by rw [bytesV_length, heach y hy]
    refine ⟨_, _, _, ids, rfl, ⟨⟨by rw [flatMap_length bytesV n ids hfl, hil], hl, by simpa [maxLen] using hm, fun h => (by cases h), fun a' ha j v hv => ?_⟩, heach, hil⟩, by simp [dlen]⟩
    obtain rfl := Option.some.inj ha
    have hj : j < ids.length * n := by
      have := (List.getElem?_eq_some_iff.1 hv).1
      rwa [flatMap_length bytesV n ids hfl] at this
    have hdm : j / n * n + j % n = j := by rw [Nat.mul_comm]; exact Nat.div_add_mod j n
    have hq : j / n < ids.length := (Nat.div_lt_iff_lt_mul hn).2 hj
    have hr : j % n < n := Nat.mod_lt _ hn
    have h4 := getElem?_flatMap bytesV n ids hfl (j / n) (j % n) hq hr
    rw [hdm, hv] at h4
    have h5 := (hids (j / n) hq).2 (j % n) (by rw [(hids _ hq).1]; exact hr)
    rw [hdm] at h5
    rw [h5, h4, bytesV_get _ _ (by rw [(hids _ hq).1]; exact hr)]

end Go.Mir

namespace Go.Proofs.YtmphajilnkgcaaaDoor.HexW
open Go.RowKit Bld Go.Mir Go.Mir.Hx Go.Mir.Parts

theorem less_eq (a b : List UInt8) (h : a.length = b.length) (ha : ∀ c ∈ a, isD c) (hb : ∀ c ∈ b, isD c) : (Op.bytesLess a b || a == b) = decide (val a ≤ val b) := by
  have h1 := less_val a b h ha hb
  have h2 := less_val b a h.symm hb ha
  rw [Bool.eq_iff_iff, Bool.or_eq_true, h1, beq_iff_eq, decide_eq_true_eq]
  constructor
  · rintro (h | h)
    · omega
    · rw [h]; exact Nat.le_refl _
  · intro hle
    by_cases he : val a = val b
    · refine .inr ?_
      clear h1 h2
      induction a generalizing b with
      | nil => cases b with
        | nil => rfl
        | cons y b => simp at h
      | cons x a ih => cases b with
        | nil => simp at h
        | cons y b =>
          have hl : a.length = b.length := by simpa using h
          have va := val_lt a (fun c hc => ha c (by simp [hc]))
          have vb := val_lt b (fun c hc => hb c (by simp [hc]))
          have hx := ha x (by simp)
          have hy := hb y (by simp)
          unfold isD at hx hy
          rw [val_cons, val_cons, ← hl] at he
          rw [← hl] at vb
          have hxy : x.toNat - 48 = y.toNat - 48 := by
            have h1 := congrArg (· / 10 ^ a.length) he
            have hp : 0 < 10 ^ a.length := by omega
            rw [Nat.add_comm, Nat.add_mul_div_right _ _ hp, Nat.div_eq_of_lt va, Nat.add_comm _ (val b), Nat.add_mul_div_right _ _ hp, Nat.div_eq_of_lt vb] at h1
            omega
          have : x = y := UInt8.toNat_inj.1 (by omega)
          subst this
          rw [ih b hl (fun c hc => ha c (by simp [hc])) (fun c hc => hb c (by simp [hc])) (by omega) (by omega)]
    · exact .inl (by omega)

set_option maxRecDepth 100000 in
set_option maxHeartbeats 400000 in
theorem rNumOf_any (l : List UInt8) (most : Nat) (w : World) (hl : l.length ≤ 1099511627776) (hm : most < 18446744073709551616) :
    Calls Tryd.prog 24 #[.string (S l), .int .u64 (most : Int)] w (NumP l most w) := by
  by_cases h0 : l.length = 0
  · have HN : Hid (numOf l most = (0, 4)) := numOf_bad (fun h => h.1 (List.length_eq_zero_iff.1 h0)) most
    have hq : ((l.length : Int) == 0) = true := by rw [beq_iff_eq]; omega
    clear h0
    go_enter Tryd.func24, Tryd.ntmps24
    go_wp2_with fail
    go_ret2
    exact ⟨by rw [HN.out]; rfl, Below.refl _ _⟩
  · have hpos : 0 < l.length := by omega
    have hq : ((l.length : Int) == 0) = false := by rw [beq_eq_false_iff_ne]; omega
    clear h0
    by_cases hz : 1 < l.length ∧ l[0] = 48
    · have HN : Hid (numOf l most = (0, 4)) := numOf_bad (fun h => by
        have := h.2.2 (by rw [List.getElem?_eq_getElem hpos, hz.2]); omega) most
      have hd : decide ((1 : Int) < (l.length : Int)) = true := decide_eq_true (by omega)
      have hb : ((l[0].toNat : Int) == 48) = true := by rw [hz.2]; rfl
      clear hz
      go_enter Tryd.func24, Tryd.ntmps24
      go_wp2_with fail
      go_ret2
      exact ⟨by rw [HN.out]; rfl, Below.refl _ _⟩
    · have HZ : Hid (l[0]? = some 48 → l.length = 1) := fun h => by
        rw [List.getElem?_eq_getElem hpos] at h
        by_cases h1 : 1 < l.length
        · exact absurd ⟨h1, Option.some.inj h⟩ hz
        · omega
      have hb : 1 < l.length → ((l[0].toNat : Int) == 48) = false := fun h1 => by
        rw [beq_eq_false_iff_ne]; intro e
        exact hz ⟨h1, UInt8.toNat_inj.1 (by have h0 : (48 : UInt8).toNat = 48 := rfl; omega)⟩
      clear hz
      by_cases h1 : 1 < l.length
      all_goals
        first
          | have hd1 : decide ((1 : Int) < (l.length : Int)) = true := decide_eq_true (by omega)
          | have hd1 : decide ((1 : Int) < (l.length : Int)) = false := decide_eq_false (by omega)
        first
          | replace hb := hb h1
          | clear hb
        clear h1
        go_enter Tryd.func24, Tryd.ntmps24
        go_wp2_with fail
        go_loop [6] (fun j => ∃ k : Nat, k ≤ l.length ∧ j = .int .i64 k ∧ ∀ c ∈ l.take k, isD c) (fun j => l.length - (intOf j).toNat)
        case atStart => exact ⟨0, by omega, rfl, fun c hc => by simp at hc⟩
        case round =>
          obtain ⟨k, hk, rfl, hdg⟩ := hrel
          have HDG := Lib.hid hdg
          clear hdg
          by_cases hlt : k < l.length
          · have hdk : decide ((k : Int) < (l.length : Int)) = true := decide_eq_true (by omega)
            by_cases hc : isD (l[k]'hlt)
            · have HC := Lib.hid hc
              have b1 : decide (((l[k]'hlt).toNat : Int) < 48) = false := decide_eq_false (by have := hc.1; omega)
              have b2 : decide ((57 : Int) < ((l[k]'hlt).toNat : Int)) = false := decide_eq_false (by have := hc.2; omega)
              clear hc
              go_wp2_with fail
              go_round
              case rel => exact ⟨k + 1, by omega, by go_num, fun c hc => by
                rw [take_snoc l k hlt, List.mem_append, List.mem_singleton] at hc
                rcases hc with hc | hc
                · exact HDG.out c hc
                · rw [hc]; exact HC.out⟩
              case measure => simp [intOf]; omega
            · have HN := Lib.hid (numOf_bad (l := l) (fun h => hc (h.2.1 _ (List.getElem_mem _))) most)
              by_cases h48 : (l[k]'hlt).toNat < 48
              · have b1 : decide (((l[k]'hlt).toNat : Int) < 48) = true := decide_eq_true (by omega)
                clear hc
                go_wp2_with fail
                go_ret2
                exact ⟨by rw [HN.out]; rfl, Below.refl _ _⟩
              · have b1 : decide (((l[k]'hlt).toNat : Int) < 48) = false := decide_eq_false (by omega)
                have b2 : decide ((57 : Int) < ((l[k]'hlt).toNat : Int)) = true := decide_eq_true (by unfold isD at hc; omega)
                clear hc
                go_wp2_with fail
                go_ret2
                exact ⟨by rw [HN.out]; rfl, Below.refl _ _⟩
          · obtain rfl : k = l.length := by omega
            have HNI : Hid (Nice l) := ⟨fun e => by rw [e] at hpos; simp at hpos, fun c hc => HDG.out c (by rw [List.take_length]; exact hc), HZ.out⟩
            have HTG := Lib.hid (too_great l most HNI.out)
            have HLE : Hid ((decL most).length = l.length → (Op.bytesLess l (decL most) || l == decL most) = decide (val l ≤ most)) := fun h => by
              rw [less_eq l _ h.symm HNI.out.2.1 (dec_digits most), val_dec]
            have hdl := dec_len most hm
            have hdk : decide ((l.length : Int) < (l.length : Int)) = false := decide_eq_false (by omega)
            go_wp2_with fail
            refine (rNum_any most hm _).mono ?_
            rintro e w' ⟨rfl, rfl⟩
            generalize decL most = T at *
            by_cases hlong : T.length < l.length
            · have HN := Lib.hid (numOf_many HNI.out (HTG.out.1 (.inl hlong)))
              go_wp2_with fail
              go_ret2
              exact ⟨by rw [HN.out]; rfl, Below.refl _ _⟩
            · by_cases hsame : T.length = l.length
              · have hcmp := HLE.out hsame
                have hleq : ((l.length : Int) == (T.length : Int)) = true := by rw [beq_iff_eq]; omega
                have hgt : decide ((T.length : Int) < (l.length : Int)) = false := decide_eq_false (by omega)
                by_cases hsm : val l ≤ most
                · rw [decide_eq_true hsm] at hcmp
                  clear hsame
                  have HN := Lib.hid (numOf_ok HNI.out hsm)
                  go_wp2_with fail
                  go_loop [8, 9] (fun n j => ∃ k : Nat, k ≤ l.length ∧ j = .int .i64 k ∧ n = .int .u64 ((val (l.take k) : Nat) : Int)) (fun _ j => l.length - (intOf j).toNat)
                  case atStart => exact ⟨0, by omega, rfl, rfl⟩
                  case round =>
                    obtain ⟨k, hk, rfl, rfl⟩ := hrel
                    by_cases hlt : k < l.length
                    · have hdk : decide ((k : Int) < (l.length : Int)) = true := decide_eq_true (by omega)
                      have hc := HNI.out.2.1 (l[k]'hlt) (List.getElem_mem _)
                      unfold isD at hc
                      obtain ⟨hc1, hc2⟩ := hc
                      have HV := Lib.hid (val_snoc (l.take k) (l[k]'hlt))
                      have hv2 := val_mono l (k + 1)
                      rw [take_snoc l k hlt, HV.out] at hv2
                      have HTK := Lib.hid (take_snoc l k hlt)
                      obtain ⟨d, hd⟩ : ∃ d, (l[k]'hlt).toNat = 48 + d := ⟨(l[k]'hlt).toNat - 48, by omega⟩
                      have HD := Lib.hid hd
                      have hbd : 10 * val (l.take k) + d ≤ most ∧ d ≤ 9 := by omega
                      clear hv2 hd
                      generalize hX : val (l.take k) = X at *
                      have HX := Lib.hid hX
                      clear hX
                      go_wp2_with fail
                      go_round
                      case rel => exact ⟨k + 1, by omega, by go_num, by rw [HTK.out, HV.out, HD.out, IntWalk.u64_in _ (by omega)]; go_num⟩
                      case measure => simp [intOf]; omega
                    · obtain rfl : k = l.length := by omega
                      have hdk : decide ((l.length : Int) < (l.length : Int)) = false := decide_eq_false (by omega)
                      rw [List.take_length]
                      go_wp2_with fail
                      go_ret2
                      exact ⟨by rw [HN.out]; rfl, Below.refl _ _⟩
                · rw [decide_eq_false hsm] at hcmp
                  have HN := Lib.hid (numOf_many HNI.out (show most < val l by omega))
                  clear hsame
                  go_wp2_with fail
                  go_ret2
                  exact ⟨by rw [HN.out]; rfl, Below.refl _ _⟩
              · have hleq : ((l.length : Int) == (T.length : Int)) = false := by rw [beq_eq_false_iff_ne]; omega
                have hgt : decide ((T.length : Int) < (l.length : Int)) = false := decide_eq_false (by omega)
                have hsm : val l ≤ most := by
                  by_cases h : val l ≤ most
                  · exact h
                  · rcases HTG.out.2 (by omega) with h2 | h2
                    · omega
                    · omega
                clear hsame
                have HN := Lib.hid (numOf_ok HNI.out hsm)
                go_wp2_with fail
                go_loop [8, 9] (fun n j => ∃ k : Nat, k ≤ l.length ∧ j = .int .i64 k ∧ n = .int .u64 ((val (l.take k) : Nat) : Int)) (fun _ j => l.length - (intOf j).toNat)
                case atStart => exact ⟨0, by omega, rfl, rfl⟩
                case round =>
                  obtain ⟨k, hk, rfl, rfl⟩ := hrel
                  by_cases hlt : k < l.length
                  · have hdk : decide ((k : Int) < (l.length : Int)) = true := decide_eq_true (by omega)
                    have hc := HNI.out.2.1 (l[k]'hlt) (List.getElem_mem _)
                    unfold isD at hc
                    obtain ⟨hc1, hc2⟩ := hc
                    have HV := Lib.hid (val_snoc (l.take k) (l[k]'hlt))
                    have hv2 := val_mono l (k + 1)
                    rw [take_snoc l k hlt, HV.out] at hv2
                    have HTK := Lib.hid (take_snoc l k hlt)
                    obtain ⟨d, hd⟩ : ∃ d, (l[k]'hlt).toNat = 48 + d := ⟨(l[k]'hlt).toNat - 48, by omega⟩
                    have HD := Lib.hid hd
                    have hbd : 10 * val (l.take k) + d ≤ most ∧ d ≤ 9 := by omega
                    clear hv2 hd
                    generalize hX : val (l.take k) = X at *
                    have HX := Lib.hid hX
                    clear hX
                    go_wp2_with fail
                    go_round
                    case rel => exact ⟨k + 1, by omega, by go_num, by rw [HTK.out, HV.out, HD.out, IntWalk.u64_in _ (by omega)]; go_num⟩
                    case measure => simp [intOf]; omega
                  · obtain rfl : k = l.length := by omega
                    have hdk : decide ((l.length : Int) < (l.length : Int)) = false := decide_eq_false (by omega)
                    rw [List.take_length]
                    go_wp2_with fail
                    go_ret2
                    exact ⟨by rw [HN.out]; rfl, Below.refl _ _⟩
end Go.Proofs.YtmphajilnkgcaaaDoor.HexW
