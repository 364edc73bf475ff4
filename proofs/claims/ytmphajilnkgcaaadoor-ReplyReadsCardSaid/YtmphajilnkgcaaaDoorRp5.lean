/- PARTS, JOINED: REPLIES: the reference's Parse. Conditions: texts of less than 2^32 bytes. REPLIES: law ReplyLines. Conditions: internal/bytealg.MaxLen holds an int. THE WALKS OF A READER: bytes taken; a number. Conditions: none. THE WALKS OF A READER: a number; bytes; a count. Conditions: none. THE WALKS OF A READER: an id; a hint. Conditions: none. THE WALKS OF A READER: ids. Conditions: none. errors.Is AND errors.As AT A FAULT OF THE READER's, by their contracts: Go's own text walked. Conditions: for errors.As the laid cell of errors.errorType. -/
import Derived.Test.YtmphajilnkgcaaaDoorRp1
import Derived.Test.YtmphajilnkgcaaaDoorRp2
import Derived.Test.YtmphajilnkgcaaaDoorRp3
import Derived.Test.YtmphajilnkgcaaaDoorRp4
import Derived.Laws.BitsAllLaws
import Derived.Deep.MidRow
import Derived.Test.YtmphajilnkgcaaaDoorProg
import Derived.WalkKit
import Derived.LaidEql
import Derived.Stop.Asserts
import Derived.RowKitTokens
namespace Go.Proofs.YtmphajilnkgcaaaDoor.Rpl
open Go.RowKit Go.Mir Go.Mir.Hx Go.Mir.Parts HexW

def nvA (r : RP) : Array Value := #[.int .u32 (r.se : Int), .int .u32 (r.sq : Int), .int .u32 (r.qu : Int), .int .u32 (r.us : Int), .int .u32 (r.ex : Int)]
theorem nv_push (k e : Int) (l : List Nat) (h : l.length < 5) (v : Nat) : (nvA (mkR k e l)).setIfInBounds l.length (.int .u32 (v : Int)) = nvA (mkR k e (l ++ [v])) := by
  match l, h with
  | [], _ => rfl
  | [_], _ => rfl
  | [_, _], _ => rfl
  | [_, _, _], _ => rfl
  | [_, _, _, _], _ => rfl
theorem nv_get (r : RP) (i : Nat) (h : i < 5) : (nvA r)[i]? = some (.int .u32 ((r.nums.getD i 0 : Nat) : Int)) := by
  match i, h with
  | 0, _ => rfl
  | 1, _ => rfl
  | 2, _ => rfl
  | 3, _ => rfl
  | 4, _ => rfl
theorem nv_cells {w : World} {g : Nat} {r : RP} {t : TypeId} {fr : Nat × Nat} (h : w.heap[g]? = some (.cells (nvA r) t fr)) :
    w.cell? ⟨g, 0, none⟩ = some (.int .u32 (r.se : Int)) ∧ w.cell? ⟨g, 1, none⟩ = some (.int .u32 (r.sq : Int)) ∧ w.cell? ⟨g, 2, none⟩ = some (.int .u32 (r.qu : Int)) ∧ w.cell? ⟨g, 3, none⟩ = some (.int .u32 (r.us : Int)) ∧ w.cell? ⟨g, 4, none⟩ = some (.int .u32 (r.ex : Int)) := by
  refine ⟨?_, ?_, ?_, ?_, ?_⟩ <;> (rw [cell_of_row _ _ _ _ _ _ h]; rfl)
theorem built_rw (k e : Int) (r : RP) : Tryd.prog.built 27 [(0, .int .i64 k), (1, .int .i64 e), (2, .int .u32 (r.se : Int)), (3, .int .u32 (r.sq : Int)), (4, .int .u32 (r.qu : Int)), (5, .int .u32 (r.us : Int)), (6, .int .u32 (r.ex : Int))] = some (rpA ⟨k, e, r.se, r.sq, r.qu, r.us, r.ex⟩) := by kernel_rfl
set_option maxRecDepth 100000 in
set_option maxHeartbeats 1600000 in
theorem rwith_any (k e : Int) (r : RP) (g : Nat) (w : World) (h : w.heap[g]? = some (.cells (nvA r) 25 (0, 0))) :
    Calls Tryd.prog 25 #[.int .i64 k, .int .i64 e, .slice (some ⟨g, 0, none⟩) 5 5] w fun x w' => x = .returned (.agg (rpA ⟨k, e, r.se, r.sq, r.qu, r.us, r.ex⟩)) ∧ Below w.heap.size w w' := by
  have hz := zeroR
  have H := Lib.hid h
  have HB := Lib.hid (Below.allocs w (.cells zR 27))
  have HR := Lib.hid (heap_alloc_last w (.cells zR 27))
  have HN := Lib.hid (Below.keepOld HB.out h)
  clear h
  go_enter Tryd.func25, Tryd.ntmps25
  go_upto_region 1 with fail
  generalize w.alloc (.cells zR 27) = w1 at *
  refine wp_region_tree (Below w.heap.size w1) (.take 0 (.take 1 (.take 2 (.take 3 (.take 4 (.take 5 (.take 6 (.take 7 (.take 8 (.take 9 (.take 10 (.take 11 (.take 12 (.take 13 (.take 14 (.take 15 (.take 16 (.one 17 (.one 18 .nil))))))))))))))))))) (by kernel_rfl) (by kernel_rfl) ((below_drew1 w1.heap.size w1).mono HB.out.size) ?_
  have hy0 : Below w.heap.size w1 w1.drew := (below_drew1 w1.heap.size w1).mono HB.out.size
  have HGL : Hid (g < w.heap.size) := (Array.getElem?_eq_some_iff.1 H.out).1
  have HR1 : Hid (w1.drew.heap[w.heap.size]? = some (.cells zR 27 (0, 0))) := Below.keepOld (below_drew1 w1.heap.size w1) HR.out
  have hc : Hid (∀ w', Below w.heap.size w1 w' → w'.cell? ⟨g, 0, none⟩ = some (.int .u32 (r.se : Int)) ∧ w'.cell? ⟨g, 1, none⟩ = some (.int .u32 (r.sq : Int)) ∧ w'.cell? ⟨g, 2, none⟩ = some (.int .u32 (r.qu : Int)) ∧ w'.cell? ⟨g, 3, none⟩ = some (.int .u32 (r.us : Int)) ∧ w'.cell? ⟨g, 4, none⟩ = some (.int .u32 (r.ex : Int))) := fun w' hb => nv_cells (Below.keepBlock hb HN.out HGL.out)
  repeat (apply tree_take; (· rfl); (· rfl); (· (intro w' hb'; obtain ⟨c0, c1, c2, c3, c4⟩ := hc.out w' hb'; go_simp; try with_reducible rfl)); try simp only [Act.put, List.setIfInBounds_toArray, List.set_cons_zero, List.set_cons_succ])
  refine tree_one rfl (by rfl) (fun K hK => oper_of_list rfl ?_)
  refine Rdr.wpList_build rfl 27 _ rfl [(0, .int .i64 k), (1, .int .i64 e), (2, .int .u32 (r.se : Int)), (3, .int .u32 (r.sq : Int)), (4, .int .u32 (r.qu : Int)), (5, .int .u32 (r.us : Int)), (6, .int .u32 (r.ex : Int))] rfl _ (built_rw k e r) ?_
  refine only_end (Shut.out hK _ _ hy0 ?_)
  clear hK K
  try simp only [Act.put, List.setIfInBounds_toArray, List.set_cons_zero, List.set_cons_succ]
  refine tree_one rfl (by rfl) (fun K hK => oper_of_list rfl ?_)
  refine wpList_store_row rfl 27 _ _ rfl w.heap.size (rpA ⟨k, e, r.se, r.sq, r.qu, r.us, r.ex⟩) rfl rfl 27 zR HR1.out (infoR _ rfl) rfl (rpA_one _) ?_
  have hy1 := below_setRow hy0 (Nat.le_refl _) (rpA ⟨k, e, r.se, r.sq, r.qu, r.us, r.ex⟩)
  refine only_end (Shut.out hK _ _ hy1 ?_)
  clear hK K
  refine tree_nil ?_
  go_wp2_with fail
  have HS := Lib.hid (setRow_heap _ _ _ (rpA ⟨k, e, r.se, r.sq, r.qu, r.us, r.ex⟩) _ _ HR1.out)
  refine bodyPost_ret (results_cell_row rfl _ _ _ _ _ _ _ rfl HS.out Tryd.underlying27 rfl (infoR _ rfl)) rfl ?_
  exact ⟨rfl, HB.out.trans hy1⟩
/-- one letter of a string -/
theorem cutStr (s : List UInt8) (i : Nat) (x : UInt8) (hx : s[i]? = some x) (hi : (i : Int) + 1 ≤ 9223372036854775807) : ∀ w0, (Instr.sliceAt 9 (.string (S s)) (some (.int .i64 (i : Int))) (some (.int .i64 ((i : Int) + 1))) none).run Tryd.prog w0 = .ok (.string (S [x])) w0 := by
  intro w0
  have hil : i < s.length := (List.getElem?_eq_some_iff.1 hx).1
  have hb1 : (0 : Int) ≤ (i : Int) + 1 ∧ (i : Int) + 1 ≤ (s.length : Int) := by omega
  have hb3 : i ≤ ((i : Int) + 1).toNat := by omega
  have he : ((i : Int) + 1).toNat = i + 1 := by omega
  have hx' : (S s).extract i (i + 1) = S [x] := by
    obtain ⟨_, rfl⟩ := List.getElem?_eq_some_iff.1 hx
    apply ByteArray.ext
    rw [ByteArray.data_extract]
    apply Array.toList_inj.1
    rw [Array.toList_extract]
    simp [S_data]
    rw [List.drop_eq_getElem_cons hil]; rfl
  simp [Instr.sliceAt, Instr.slice, run_underlying Tryd.underlying9, Instr.sliceBounds, Instr.sliceBound, asIntOf, S_size, hb1, he, hx']
theorem sp_take_len (s : List UInt8) (i : Nat) (h : i < s.length) : sp (s.take (i + 1)) = if s[i] = 32 then sp (s.take i) ++ [[]] else app1 (sp (s.take i)) s[i] := by
  rw [List.take_succ_eq_append_getElem h]
  exact sp_snoc _ _
/-- words of the call's own -/
structure RS (w : World) (ws : List (List UInt8)) (p : Option Addr) (m c : Nat) (X : World) : Prop where
  own : X.ownsRow (w.heap.size + 1) 9 1 (.slice p m c) m (strV ws)
  len : m = ws.length
  box : X.heap[w.heap.size]? = some (.cells zR 27 (0, 0))
  low : Below w.heap.size w X
theorem RS.next {w X Y : World} {ws : List (List UInt8)} {p : Option Addr} {m c : Nat} (h : RS w ws p m c X) (hb : Below X.heap.size X Y) : RS w ws p m c Y :=
  ⟨own_touch h.own (Turns.of_below (S := fun _ => False) hb) (fun _ _ h => h), h.len, Below.keepOld hb h.box, h.low.trans (hb.mono h.low.size)⟩
theorem RS.size {w X : World} {ws : List (List UInt8)} {p : Option Addr} {m c : Nat} (h : RS w ws p m c X) : w.heap.size + 1 ≤ X.heap.size := (Array.getElem?_eq_some_iff.1 h.box).1
theorem own_one' (w : World) (base : Nat) (s : List UInt8) (hb : base ≤ w.heap.size) : (w.alloc (.cells #[.string (S s)] 9)).ownsRow base 9 1 (.slice (some ⟨w.heap.size, 0, none⟩) 1 1) 1 (strV [s]) :=
  ⟨rfl, .inr ⟨w.heap.size, 1, _, rfl, hb, heap_alloc_last _ _, Nat.le_refl _, by simp [maxLen], rfl, rfl⟩⟩
theorem own_set {w : World} {base t g n c : Nat} {xs : List Value} (h : w.ownsRow base t 1 (.slice (some ⟨g, 0, none⟩) n c) n xs) (j : Nat) (y : Value) : (w.setCell ⟨g, j, none⟩ y).ownsRow base t 1 (.slice (some ⟨g, 0, none⟩) n c) n (xs.set j y) := by
  rcases h.2 with ⟨he, _⟩ | ⟨g', cap, cur, he, hb, hg, hn, hm, hs, ht⟩
  · cases he
  · cases he
    refine ⟨by rw [List.length_set]; exact h.1, .inr ⟨g, c, cur.setIfInBounds j y, rfl, hb, heap_setCell_same _ _ _ _ _ _ hg, hn, hm, by simp [hs], ?_⟩⟩
    rw [Array.toList_setIfInBounds, List.take_set, ht]
theorem own_frozen {w : World} {base t g n c : Nat} {xs : List Value} (h : w.ownsRow base t 1 (.slice (some ⟨g, 0, none⟩) n c) n xs) (j : Nat) : w.frozen? ⟨g, j, none⟩ = false := by
  rcases h.2 with ⟨he, _⟩ | ⟨g', cap, cur, he, hb, hg, hn, hm, hs, ht⟩
  · cases he
  · cases he
    exact frozen_of_row _ _ j _ _ hg
theorem S_app (a b : List UInt8) : S a ++ S b = S (a ++ b) := by
  apply ByteArray.ext
  simp [S]
theorem strV_set (ws : List (List UInt8)) (j : Nat) (x : List UInt8) : strV (ws.set j x) = (strV ws).set j (.string (S x)) := by simp [strV, List.map_set]
set_option maxRecDepth 100000 in
set_option maxHeartbeats 6400000 in
theorem rparse_any (s : List UInt8) (w : World) (hs : s.length < 4294967281) :
    Calls Tryd.prog 8 #[.string (S s)] w (ParP s w) := by
  have hz := zeroR
  have hb0 := Below.allocs w (.cells zR 27)
  have hr0 := heap_alloc_last w (.cells zR 27)
  have hsz : (w.alloc (.cells zR 27)).heap.size = w.heap.size + 1 := by show (w.heap.push _).size = _; simp
  have hb1 := Below.allocs (w.alloc (.cells zR 27)) (.cells #[.string ⟨#[]⟩] 9)
  have HRS0 : Hid (RS w (sp (s.take 0)) (some ⟨w.heap.size + 1, 0, none⟩) 1 1 ((w.alloc (.cells zR 27)).alloc (.cells #[.string ⟨#[]⟩] 9))) :=
    ⟨by have := own_one' (w.alloc (.cells zR 27)) (w.heap.size + 1) [] (by rw [hsz]; exact Nat.le_refl _); rw [hsz] at this; exact this, rfl, Below.keepOld hb1 hr0, hb0.trans (hb1.mono hb0.size)⟩
  have HWL : Hid (∀ x ∈ sp s, x.length ≤ 1099511627776) := fun x hx => by have := sp_len s x hx; omega
  clear hb0 hr0 hb1 hsz
  go_enter Tryd.func8, Tryd.ntmps8
  go_wp2_with fail
  generalize (w.alloc (.cells zR 27)).alloc (.cells #[.string ⟨#[]⟩] 9) = w2 at *
  go_loopw [4, 5] (fun v j wr => ∃ (i m : Nat) (p : Option Addr) (c : Nat), i ≤ s.length ∧ j = .int .i64 i ∧ v = .slice p m c ∧ RS w (sp (s.take i)) p m c wr) (fun _ j _ => s.length - (intOf j).toNat)
  case atStart => exact ⟨0, 1, _, 1, Nat.zero_le _, rfl, rfl, HRS0.out⟩
  case round =>
    clear HRS0
    obtain ⟨i, m, p, c, hi, rfl, rfl, hrs⟩ := hrel
    have HRS := Lib.hid hrs
    clear hrs
    by_cases hlt : i < s.length
    · have hdi : decide ((i : Int) < (s.length : Int)) = true := decide_eq_true (by omega)
      have hdi2 : decide (i < s.length) = true := decide_eq_true hlt
      have HSN := Lib.hid (sp_take_len s i hlt)
      have hgx : s[i]? = some s[i] := List.getElem?_eq_getElem hlt
      have hlen : (sp (s.take i)).length ≤ s.length + 1 := by
        have h1 : ∀ l : List UInt8, (sp l).length ≤ l.length + 1 := by
          intro l
          induction l with
          | nil => exact Nat.le_refl _
          | cons c r ih =>
            by_cases hc : c = 32
            · subst hc; rw [sp_blank, List.length_cons, List.length_cons]; omega
            · obtain ⟨h, t, e⟩ := sp_form r
              rw [sp_sign hc e]
              rw [e] at ih
              simp only [List.length_cons] at ih ⊢
              omega
        have := h1 (s.take i)
        rw [List.length_take] at this
        omega
      have hpos : 1 ≤ m := by rw [HRS.out.len]; exact sp_pos _
      have hm1 : m ≤ s.length + 1 := by rw [HRS.out.len]; exact hlen
      clear hlen
      generalize hws : sp (s.take i) = ws at *
      have hsl := cutStr s i s[i] hgx (by omega)
      have hu : ∀ x : UInt8, ((x.toNat : Int) == 32) = decide (x = 32) := by intro x; rw [Bool.eq_iff_iff, beq_iff_eq, decide_eq_true_eq, ← UInt8.toNat_inj]; show (x.toNat : Int) = 32 ↔ x.toNat = 32; omega
      by_cases hx : s[i] = 32
      · have hb : ((s[i].toNat : Int) == 32) = true := by rw [hu]; exact decide_eq_true hx
        rw [if_pos hx] at HSN
        have hB7 := Below.allocs wr (.cells #[.string ⟨#[]⟩] 9)
        have HRS1 := Lib.hid (HRS.out.next hB7)
        have HX7 : Hid (Ws (wr.alloc (.cells #[.string ⟨#[]⟩] 9)) (some ⟨wr.heap.size, 0, none⟩) 1 1 [[]]) := Ws.row (ls := [[]]) (heap_alloc_last wr _) rfl (by show 1 ≤ _; omega)
        have HLN := Lib.hid HRS.out.len
        clear hB7 hsl hws hx hu
        go_wp2_with (at_builtin; refine wpList_append_nx rfl _ _ 35 rfl (base := w.heap.size + 1) Tryd.underlying35 infoStr rfl (by omega) rfl HRS1.out.own rfl HX7.out (strV_one _) ⟨by omega, by omega⟩ HRS1.out.size ?_)
        intro p' c' w8 ho8 hgr hnx _
        have hb8 := own_below HRS1.out.own hgr HRS1.out.size
        have HRS8 : Hid (RS w (sp (s.take (i + 1))) p' (m + 1) c' w8) := by
          refine ⟨?_, ?_, Below.keepBlock hb8 HRS1.out.box (Nat.lt_succ_self _), HRS1.out.low.trans (hb8.mono (Nat.le_succ _))⟩
          · rw [HSN.out]
            unfold strV at ho8 ⊢
            rw [List.map_append]
            exact ho8
          · rw [HSN.out, List.length_append, ← HLN.out]; rfl
        clear ho8 hgr hnx hb8 HX7 HRS HRS1
        go_wp2_with fail
        go_roundw
        case rel => exact ⟨i + 1, m + 1, p', c', by omega, by go_num, rfl, HRS8.out⟩
        case measure => simp [intOf]; omega
      · have hb : ((s[i].toNat : Int) == 32) = false := by rw [hu]; exact decide_eq_false hx
        rw [if_neg hx] at HSN
        have HLN := Lib.hid HRS.out.len
        obtain ⟨g, cap, hv, hbg, _⟩ := own_some HRS.out.own (fun e => by cases e; omega)
        obtain ⟨rfl, rfl⟩ : p = some ⟨g, 0, none⟩ ∧ c = cap := by cases hv; exact ⟨rfl, rfl⟩
        obtain ⟨k, hk⟩ : ∃ k, m - 1 = k := ⟨_, rfl⟩
        have hj : k < ws.length := by rw [← HLN.out]; omega
        have hcl := Ws.str (own_ws HRS.out.own) hj
        have hAP : app1 ws s[i] = ws.set k (ws[k] ++ [s[i]]) := by unfold app1; rw [← HLN.out, hk, List.getElem?_eq_getElem hj]; rfl
        rw [hAP] at HSN
        have hyl : ¬ (9223372036854775807 < ws[k].length + 1) := by have h1 := sp_len (s.take i) ws[k] (by rw [hws]; exact List.getElem_mem hj); rw [List.length_take] at h1; omega
        generalize ws[k] = y at *
        rw [Nat.zero_add] at hcl
        have hcd : wr.drew.cell? ⟨g, k, none⟩ = some (.string (S y)) := cell_below hcl (below_drew1 _ _)
        have hfz : wr.drew.frozen? ⟨g, k, none⟩ = false := own_frozen (own_touch HRS.out.own (Turns.of_below (S := fun _ => False) (below_drew1 wr.heap.size wr)) (fun _ _ h => h)) _
        have hm0 : (m : Int) - 1 = (k : Int) := by omega
        have hk2 : k < m := by omega
        have hk3 : (k : Int) < (m : Int) := by omega
        have hwr : IntKind.i64.wrap (k : Int) = (k : Int) := by rw [IntKind.wrap_i64]; omega
        have hwi : IntKind.i64.wrap ((i : Int) + 1) = (i : Int) + 1 := by rw [IntKind.wrap_i64]; omega
        clear hx hu hws hAP hv hcl hj hk
        go_upto_region 7 with fail
        refine wp_region_tree (fun _ => True) (.take 0 (.take 1 (.take 2 (.take 3 (.take 4 (.take 5 (.take 6 (.take 7 (.take 8 (.take 10 (.take 11 (.take 12 (.take 13 (.take 14 (.one 9 (.take 15 (.take 16 (.one 17 .nil)))))))))))))))))) (by kernel_rfl) (by kernel_rfl) trivial ?_
        repeat (apply tree_take; (· rfl); (· rfl); (· (intro w' hb'; go_simp; try with_reducible rfl)); try simp only [Act.put, List.setIfInBounds_toArray, List.set_cons_zero, List.set_cons_succ])
        refine tree_one rfl (by rfl) (fun K hK => ?_)
        go_simp
        refine Shut.out hK _ _ trivial ?_
        clear hK K
        try simp only [Act.put, List.setIfInBounds_toArray, List.set_cons_zero, List.set_cons_succ]
        repeat (apply tree_take; (· rfl); (· rfl); (· (intro w' hb'; go_simp; try with_reducible rfl)); try simp only [Act.put, List.setIfInBounds_toArray, List.set_cons_zero, List.set_cons_succ])
        refine tree_one rfl (by rfl) (fun K hK => ?_)
        go_simp
        refine Shut.out hK _ _ trivial ?_
        clear hK K
        try simp only [Act.put, List.setIfInBounds_toArray, List.set_cons_zero, List.set_cons_succ]
        refine tree_nil ?_
        have HRD := Lib.hid (HRS.out.next (below_drew1 wr.heap.size wr))
        have HT := Lib.hid ((Turns.refl (fun q => q = g) wr.drew).setCell (p := ⟨g, k, none⟩) (fun _ => rfl) (.string (S (y ++ [s[i]]))))
        have HRS8 : Hid (RS w (sp (s.take (i + 1))) (some ⟨g, 0, none⟩) m c (wr.drew.setCell ⟨g, k, none⟩ (.string (S (y ++ [s[i]]))))) := by
          refine ⟨?_, ?_, HT.out.keep HRD.out.box (by omega), HRD.out.low.trans (HT.out.below HRD.out.low.size (fun q hq => by have hq : q = g := hq; omega))⟩
          · rw [HSN.out, strV_set]
            exact own_set HRD.out.own k _
          · rw [HSN.out, List.length_set]; exact HLN.out
        clear HRS HRD HT
        go_wp2_with fail
        go_roundw
        case rel => exact ⟨i + 1, m, some ⟨g, 0, none⟩, c, by omega, by go_num, rfl, HRS8.out⟩
        case measure => simp [intOf]; omega
    · obtain rfl : i = s.length := by omega
      have hdi : decide ((s.length : Int) < (s.length : Int)) = false := decide_eq_false (by omega)
      have hdi2 : decide (s.length < s.length) = false := decide_eq_false (by omega)
      rw [List.take_length] at HRS
      clear hlt hdi hdi2 hi
      have HPAR : Hid (parseB s = parseW (sp s)) := rfl
      generalize sp s = ws at *
      have HN : Hid (ws.length = m) := HRS.out.len.symm
      have HNF : Hid (∀ (h : ¬ Fits ws), parseW ws = (RP.zero, 4)) := fun h => parse_not h
      by_cases h2 : m = 2
      · subst h2
        skip
        -- words of 2: their numbers 0
        obtain ⟨g, cap, hv, hbg, _⟩ := own_some HRS.out.own (fun e => by cases e)
        obtain ⟨rfl, rfl⟩ : p = some ⟨g, 0, none⟩ ∧ c = cap := by cases hv; exact ⟨rfl, rfl⟩
        have HBG := Lib.hid hbg
        have h0l : 0 < ws.length := by rw [HN.out]; omega
        have h1l : 1 < ws.length := by rw [HN.out]; omega
        have HA : Hid (ws.getD 0 [] = ws[0]'h0l) := by show _ = _; rw [List.getD_eq_getElem?_getD, List.getElem?_eq_getElem h0l]; rfl
        have HA1 : Hid (ws.getD 1 [] = ws[1]'h1l) := by show _ = _; rw [List.getD_eq_getElem?_getD, List.getElem?_eq_getElem h1l]; rfl
        have hc0 : Hid (∀ w', Below wr.heap.size wr w' → w'.cell? ⟨g, 0, none⟩ = some (.string (S (ws[0]'h0l)))) := fun w' hb => cell_below (Ws.str (own_ws HRS.out.own) h0l) hb
        have hc1 : Hid (∀ w', Below wr.heap.size wr w' → w'.cell? ⟨g, 1, none⟩ = some (.string (S (ws[1]'h1l)))) := fun w' hb => cell_below (Ws.str (own_ws HRS.out.own) h1l) hb
        generalize ws[0]'h0l = a0 at *
        generalize ws[1]'h1l = a1 at *
        clear hv hbg
        generalize hO : ofB a0 K7 = O at *
        obtain ⟨kk, kok⟩ := O
        have HKO := Lib.hid hO
        generalize hO1 : ofB a1 E21 = O1 at *
        obtain ⟨ee, eok⟩ := O1
        have HEO := Lib.hid hO1
        have HK := Lib.hid (fun p m c w h => rof_any a0 p m c K7 w h)
        have HE := Lib.hid (fun p m c w h => rof_any a1 p m c E21 w h)
        rw [hO] at HK
        rw [hO1] at HE
        clear hO hO1
        go_upto_region 10 with fail
        refine wp_region_eager_in (Below wr.heap.size wr) [(0, true), (1, true), (2, true), (3, false), (4, false), (5, true), (6, true), (7, true), (8, true), (9, true)] (by kernel_rfl) (by kernel_rfl) ?_ (eagerOpen rfl ?_)
        · exact below_drew1 _ _
        repeat (first
          | (first | (apply wpEager_take; (· rfl); (· (intro w' hb'; go_simp; try with_reducible rfl)); (try simp only [Act.put, List.setIfInBounds_toArray, List.set_cons_zero, List.set_cons_succ]); (try refine eagerOpen rfl ?_)) | (refine wpEager_skip (by rfl) ?_; (try simp only [Act.put, List.setIfInBounds_toArray, List.set_cons_zero, List.set_cons_succ]); (try refine eagerOpen rfl ?_)) | (refine wpEager_off (by rfl) ?_; (try simp only [Act.put, List.setIfInBounds_toArray, List.set_cons_zero, List.set_cons_succ]); (try refine eagerOpen rfl ?_)))
          | (apply wpEager_take; (· rfl); (· (intro w' hb'; have hk' := (hc0.out) w' hb'; go_split_ands; go_simp; try with_reducible rfl)); (try simp only [Act.put, List.setIfInBounds_toArray, List.set_cons_zero, List.set_cons_succ]); (try refine eagerOpen rfl ?_)))
        (refine wpEager_op (by rfl) (fun K hK => ?_); go_simp; (refine (rkinds_any _).mono ?_; rintro e y ⟨rfl, hws, hb⟩; have HWS := Lib.hid hws; have hy1 : Below wr.heap.size wr y := (below_drew1 wr.heap.size wr).trans hb; clear hws hb); refine Shut.out hK _ _ (by assumption) ?_; clear hK K; (try simp only [Act.put, List.setIfInBounds_toArray, List.set_cons_zero, List.set_cons_succ]); (try refine eagerOpen rfl ?_))
        (refine wpEager_op (by rfl) (fun K hK => ?_); go_simp; (refine (HK.out _ _ _ _ HWS.out).mono ?_; rintro e y' ⟨rfl, rfl⟩); refine Shut.out hK _ _ (by assumption) ?_; clear hK K; (try simp only [Act.put, List.setIfInBounds_toArray, List.set_cons_zero, List.set_cons_succ]); (try refine eagerOpen rfl ?_))
        repeat (first | (apply wpEager_take; (· rfl); (· (intro w' hb'; go_simp; try with_reducible rfl)); (try simp only [Act.put, List.setIfInBounds_toArray, List.set_cons_zero, List.set_cons_succ]); (try refine eagerOpen rfl ?_)) | (refine wpEager_skip (by rfl) ?_; (try simp only [Act.put, List.setIfInBounds_toArray, List.set_cons_zero, List.set_cons_succ]); (try refine eagerOpen rfl ?_)) | (refine wpEager_off (by rfl) ?_; (try simp only [Act.put, List.setIfInBounds_toArray, List.set_cons_zero, List.set_cons_succ]); (try refine eagerOpen rfl ?_)))
        refine eagerEnd ?_
        have HRS1 := Lib.hid (HRS.out.next hy1)
        have hc1' : Hid (∀ w', Below y.heap.size y w' → w'.cell? ⟨g, 1, none⟩ = some (.string (S a1))) := fun w' hb => cell_below (hc1.out _ hy1) hb
        clear hy1 HWS HK hc0 hc1 HRS
        go_upto_region 11 with fail
        refine wp_region_eager_in (Below y.heap.size y) [(0, true), (1, true), (2, true), (3, false), (4, false), (5, true), (6, true), (7, true), (8, true), (9, true)] (by kernel_rfl) (by kernel_rfl) ?_ (eagerOpen rfl ?_)
        · exact below_drew1 _ _
        repeat (first
          | (first | (apply wpEager_take; (· rfl); (· (intro w' hb'; go_simp; try with_reducible rfl)); (try simp only [Act.put, List.setIfInBounds_toArray, List.set_cons_zero, List.set_cons_succ]); (try refine eagerOpen rfl ?_)) | (refine wpEager_skip (by rfl) ?_; (try simp only [Act.put, List.setIfInBounds_toArray, List.set_cons_zero, List.set_cons_succ]); (try refine eagerOpen rfl ?_)) | (refine wpEager_off (by rfl) ?_; (try simp only [Act.put, List.setIfInBounds_toArray, List.set_cons_zero, List.set_cons_succ]); (try refine eagerOpen rfl ?_)))
          | (apply wpEager_take; (· rfl); (· (intro w' hb'; have hk' := (hc1'.out) w' hb'; go_split_ands; go_simp; try with_reducible rfl)); (try simp only [Act.put, List.setIfInBounds_toArray, List.set_cons_zero, List.set_cons_succ]); (try refine eagerOpen rfl ?_)))
        (refine wpEager_op (by rfl) (fun K hK => ?_); go_simp; (refine (rerrs_any _).mono ?_; rintro e z ⟨rfl, hws, hb⟩; have HWS := Lib.hid hws; have hy1 : Below y.heap.size y z := (below_drew1 y.heap.size y).trans hb; clear hws hb); refine Shut.out hK _ _ (by assumption) ?_; clear hK K; (try simp only [Act.put, List.setIfInBounds_toArray, List.set_cons_zero, List.set_cons_succ]); (try refine eagerOpen rfl ?_))
        (refine wpEager_op (by rfl) (fun K hK => ?_); go_simp; (refine (HE.out _ _ _ _ HWS.out).mono ?_; rintro e y' ⟨rfl, rfl⟩); refine Shut.out hK _ _ (by assumption) ?_; clear hK K; (try simp only [Act.put, List.setIfInBounds_toArray, List.set_cons_zero, List.set_cons_succ]); (try refine eagerOpen rfl ?_))
        repeat (first | (apply wpEager_take; (· rfl); (· (intro w' hb'; go_simp; try with_reducible rfl)); (try simp only [Act.put, List.setIfInBounds_toArray, List.set_cons_zero, List.set_cons_succ]); (try refine eagerOpen rfl ?_)) | (refine wpEager_skip (by rfl) ?_; (try simp only [Act.put, List.setIfInBounds_toArray, List.set_cons_zero, List.set_cons_succ]); (try refine eagerOpen rfl ?_)) | (refine wpEager_off (by rfl) ?_; (try simp only [Act.put, List.setIfInBounds_toArray, List.set_cons_zero, List.set_cons_succ]); (try refine eagerOpen rfl ?_)))
        refine eagerEnd ?_
        have HRS := Lib.hid (HRS1.out.next hy1)
        clear hy1 HWS HE hc1' HRS1
        cases kok with
        | false =>
          have HBADQ : Hid (parseW ws = (RP.zero, 4)) := HNF.out (fun h => by have := h.k; rw [HA.out, HKO.out] at this; cases this)
          have HRX := HRS
          go_upto_region 13 with fail
          skip
          -- the zero reply and the error 4 are told: world WX; HBX: its box, HLX: Below, HBADQ
          go_wp2_with (first
            | refine Rdr.wpList_build rfl 27 _ rfl [] rfl _ built_r0 ?_
            | refine wpList_store_row rfl 27 _ _ rfl w.heap.size zR rfl rfl 27 zR HRX.out.box (infoR _ rfl) rfl (rpA_one _) ?_)
          have HS := Lib.hid (setRow_heap _ _ _ zR _ _ HRX.out.box)
          refine bodyPost_ret (results_row_tmp rfl _ _ _ _ _ _ _ rfl HS.out Tryd.underlying27 rfl (infoR _ rfl)) rfl ?_
          unfold ParP
          rw [HPAR.out, HBADQ.out]
          exact ⟨rfl, below_setRow HRX.out.low (Nat.le_refl _) _⟩
        | true =>
          cases eok with
          | false =>
            have HBADQ : Hid (parseW ws = (RP.zero, 4)) := HNF.out (fun h => by have := h.e; rw [HA1.out, HEO.out] at this; cases this)
            have HRX := HRS
            go_upto_region 13 with fail
            skip
            -- the zero reply and the error 4 are told: world WX; HBX: its box, HLX: Below, HBADQ
            go_wp2_with (first
              | refine Rdr.wpList_build rfl 27 _ rfl [] rfl _ built_r0 ?_
              | refine wpList_store_row rfl 27 _ _ rfl w.heap.size zR rfl rfl 27 zR HRX.out.box (infoR _ rfl) rfl (rpA_one _) ?_)
            have HS := Lib.hid (setRow_heap _ _ _ zR _ _ HRX.out.box)
            refine bodyPost_ret (results_row_tmp rfl _ _ _ _ _ _ _ rfl HS.out Tryd.underlying27 rfl (infoR _ rfl)) rfl ?_
            unfold ParP
            rw [HPAR.out, HBADQ.out]
            exact ⟨rfl, below_setRow HRX.out.low (Nat.le_refl _) _⟩
          | true =>
            by_cases hbad : ee = 0 ↔ ¬ 2 = 7
            · have e1 : ((ee : Int) == 0) = true := by rw [beq_iff_eq]; omega
              have HBADQ : Hid (parseW ws = (RP.zero, 4)) := HNF.out (fun h => by have := h.len; rw [HN.out, HA1.out, HEO.out] at this; split at this <;> omega)
              have HRX := HRS
              clear hbad
              go_upto_region 13 with fail
              skip
              -- the zero reply and the error 4 are told: world WX; HBX: its box, HLX: Below, HBADQ
              go_wp2_with (first
                | refine Rdr.wpList_build rfl 27 _ rfl [] rfl _ built_r0 ?_
                | refine wpList_store_row rfl 27 _ _ rfl w.heap.size zR rfl rfl 27 zR HRX.out.box (infoR _ rfl) rfl (rpA_one _) ?_)
              have HS := Lib.hid (setRow_heap _ _ _ zR _ _ HRX.out.box)
              refine bodyPost_ret (results_row_tmp rfl _ _ _ _ _ _ _ rfl HS.out Tryd.underlying27 rfl (infoR _ rfl)) rfl ?_
              unfold ParP
              rw [HPAR.out, HBADQ.out]
              exact ⟨rfl, below_setRow HRX.out.low (Nat.le_refl _) _⟩
            · have e1 : ((ee : Int) == 0) = false := by rw [beq_eq_false_iff_ne (b := (0 : Int))]; omega
              have HFIT : Hid (Fits ws) := ⟨by rw [HA.out, HKO.out], by rw [HN.out]; omega, by rw [HA1.out, HEO.out], by rw [HN.out, HA1.out, HEO.out]; show _ = if ee = 0 then 7 else 2; split <;> omega⟩
              have HPW : Hid (parseW ws = finR (kk : Int) (ee : Int) (numsB (ws.drop 2))) := by
                show _ = _
                rw [parse_fits HFIT.out, HA.out, HKO.out, HA1.out, HEO.out]
              clear hbad HNF HA HA1 HKO HEO
              have HDM : Hid (∀ x ∈ ws.drop 2, x.length ≤ 1099511627776) := fun x hx => HWL.out x (List.mem_of_mem_drop hx)
              have HDL : Hid ((ws.drop 2).length = 0) := by show _ = _; rw [List.length_drop, HN.out]
              have hba := Below.allocs z (.cells #[.int .u32 0, .int .u32 0, .int .u32 0, .int .u32 0, .int .u32 0] 25)
              have HRS2 := Lib.hid (HRS.out.next hba)
              have HNV : Hid ((z.alloc (.cells #[.int .u32 0, .int .u32 0, .int .u32 0, .int .u32 0, .int .u32 0] 25)).heap[z.heap.size]? = some (.cells (nvA (mkR (kk : Int) (ee : Int) (fst ws 0))) 25 (0, 0))) := heap_alloc_last _ _
              have HGN : Hid (w.heap.size + 1 ≤ z.heap.size) := HRS.out.size
              have HGG : Hid (g < z.heap.size) := (HRS.out.own.lt _ rfl).2
              clear hba HRS
              go_upto_region 16 with fail
              generalize z.alloc (.cells #[.int .u32 0, .int .u32 0, .int .u32 0, .int .u32 0, .int .u32 0] 25) = z2 at *
              generalize z.heap.size = gn at *
              go_loopw [11] (fun j wl => ∃ i : Nat, 2 ≤ i ∧ i ≤ 2 ∧ j = .int .i64 i ∧ RS w ws (some ⟨g, 0, none⟩) 2 c wl ∧ wl.heap[gn]? = some (.cells (nvA (mkR (kk : Int) (ee : Int) (fst ws (i - 2)))) 25 (0, 0)) ∧ (∀ q x, q < i - 2 → (ws.drop 2)[q]? = some x → (numOf x 4294967295).2 = 0)) (fun j _ => 2 - (intOf j).toNat)
              case atStart => exact ⟨2, by omega, by omega, rfl, HRS2.out, HNV.out, fun q x hq _ => absurd hq (Nat.not_lt_zero _)⟩
              case round =>
                clear HRS2 HNV
                obtain ⟨i, hi2, hiN, rfl, hrs, hnv, hok⟩ := hrel
                have HRS := Lib.hid hrs
                have HNV := Lib.hid hnv
                have HOK := Lib.hid hok
                clear hrs hnv hok
                obtain ⟨q, hq⟩ : ∃ q, i - 2 = q := ⟨_, rfl⟩
                rw [hq] at HNV HOK
                have hiq : (i : Int) - 2 = (q : Int) := by omega
                have hiq2 : i = q + 2 := by omega
                by_cases hlt : i < 2
                · skip
                  omega
                · have hiN2 : i = 2 := by omega
                  have hqM : q = 0 := by omega
                  subst hiN2
                  subst hqM
                  have HEND : Hid (parseW ws = (mkR (kk : Int) (ee : Int) (fst ws 0), 0)) := by
                    show _ = _
                    have htk : (ws.drop 2).take 0 = ws.drop 2 := List.take_of_length_le (by rw [HDL.out]; exact Nat.le_refl _)
                    have hsome : numsB (ws.drop 2) = some (fst ws 0) := by
                      unfold numsB fst
                      rw [if_pos (fun x hx => by
                        obtain ⟨q, hq, hqx⟩ := List.mem_iff_getElem.1 hx
                        exact HOK.out q x (by rw [HDL.out] at hq; exact hq) (by rw [← hqx]; exact List.getElem?_eq_getElem hq)), htk]
                    rw [HPW.out, hsome]; rfl
                  have hk1 : (mkR (kk : Int) (ee : Int) (fst ws 0)).kind = (kk : Int) := rfl
                  have hk2 : (mkR (kk : Int) (ee : Int) (fst ws 0)).err = (ee : Int) := rfl
                  have HW := Lib.hid (rwith_any (kk : Int) (ee : Int) (mkR (kk : Int) (ee : Int) (fst ws 0)) gn wr HNV.out)
                  clear hk1 hk2 hiq hiq2 hq hlt
                  go_wp2_with fail
                  refine HW.out.mono ?_
                  rintro e w9 ⟨rfl, hb9⟩
                  have HR9 := Lib.hid (HRS.out.next hb9)
                  clear hb9 HW HRS HNV
                  go_wp2_with (refine wpList_store_row rfl 27 _ _ rfl w.heap.size (rpA (mkR (kk : Int) (ee : Int) (fst ws 0))) rfl rfl 27 zR HR9.out.box (infoR _ rfl) rfl (rpA_one _) ?_)
                  have HS := Lib.hid (setRow_heap _ _ _ (rpA (mkR (kk : Int) (ee : Int) (fst ws 0))) _ _ HR9.out.box)
                  refine bodyPost_ret (results_row_tmp rfl _ _ _ _ _ _ _ rfl HS.out Tryd.underlying27 rfl (infoR _ rfl)) rfl ?_
                  unfold ParP
                  rw [HPAR.out, HEND.out]
                  exact ⟨rfl, below_setRow HR9.out.low (Nat.le_refl _) _⟩
      · by_cases h7 : m = 7
        · subst h7
          skip
          -- words of 7: their numbers 5
          obtain ⟨g, cap, hv, hbg, _⟩ := own_some HRS.out.own (fun e => by cases e)
          obtain ⟨rfl, rfl⟩ : p = some ⟨g, 0, none⟩ ∧ c = cap := by cases hv; exact ⟨rfl, rfl⟩
          have HBG := Lib.hid hbg
          have h0l : 0 < ws.length := by rw [HN.out]; omega
          have h1l : 1 < ws.length := by rw [HN.out]; omega
          have HA : Hid (ws.getD 0 [] = ws[0]'h0l) := by show _ = _; rw [List.getD_eq_getElem?_getD, List.getElem?_eq_getElem h0l]; rfl
          have HA1 : Hid (ws.getD 1 [] = ws[1]'h1l) := by show _ = _; rw [List.getD_eq_getElem?_getD, List.getElem?_eq_getElem h1l]; rfl
          have hc0 : Hid (∀ w', Below wr.heap.size wr w' → w'.cell? ⟨g, 0, none⟩ = some (.string (S (ws[0]'h0l)))) := fun w' hb => cell_below (Ws.str (own_ws HRS.out.own) h0l) hb
          have hc1 : Hid (∀ w', Below wr.heap.size wr w' → w'.cell? ⟨g, 1, none⟩ = some (.string (S (ws[1]'h1l)))) := fun w' hb => cell_below (Ws.str (own_ws HRS.out.own) h1l) hb
          generalize ws[0]'h0l = a0 at *
          generalize ws[1]'h1l = a1 at *
          clear hv hbg
          generalize hO : ofB a0 K7 = O at *
          obtain ⟨kk, kok⟩ := O
          have HKO := Lib.hid hO
          generalize hO1 : ofB a1 E21 = O1 at *
          obtain ⟨ee, eok⟩ := O1
          have HEO := Lib.hid hO1
          have HK := Lib.hid (fun p m c w h => rof_any a0 p m c K7 w h)
          have HE := Lib.hid (fun p m c w h => rof_any a1 p m c E21 w h)
          rw [hO] at HK
          rw [hO1] at HE
          clear hO hO1
          go_upto_region 10 with fail
          refine wp_region_eager_in (Below wr.heap.size wr) [(0, true), (1, true), (2, true), (3, false), (4, false), (5, true), (6, true), (7, true), (8, true), (9, true)] (by kernel_rfl) (by kernel_rfl) ?_ (eagerOpen rfl ?_)
          · exact below_drew1 _ _
          repeat (first
            | (first | (apply wpEager_take; (· rfl); (· (intro w' hb'; go_simp; try with_reducible rfl)); (try simp only [Act.put, List.setIfInBounds_toArray, List.set_cons_zero, List.set_cons_succ]); (try refine eagerOpen rfl ?_)) | (refine wpEager_skip (by rfl) ?_; (try simp only [Act.put, List.setIfInBounds_toArray, List.set_cons_zero, List.set_cons_succ]); (try refine eagerOpen rfl ?_)) | (refine wpEager_off (by rfl) ?_; (try simp only [Act.put, List.setIfInBounds_toArray, List.set_cons_zero, List.set_cons_succ]); (try refine eagerOpen rfl ?_)))
            | (apply wpEager_take; (· rfl); (· (intro w' hb'; have hk' := (hc0.out) w' hb'; go_split_ands; go_simp; try with_reducible rfl)); (try simp only [Act.put, List.setIfInBounds_toArray, List.set_cons_zero, List.set_cons_succ]); (try refine eagerOpen rfl ?_)))
          (refine wpEager_op (by rfl) (fun K hK => ?_); go_simp; (refine (rkinds_any _).mono ?_; rintro e y ⟨rfl, hws, hb⟩; have HWS := Lib.hid hws; have hy1 : Below wr.heap.size wr y := (below_drew1 wr.heap.size wr).trans hb; clear hws hb); refine Shut.out hK _ _ (by assumption) ?_; clear hK K; (try simp only [Act.put, List.setIfInBounds_toArray, List.set_cons_zero, List.set_cons_succ]); (try refine eagerOpen rfl ?_))
          (refine wpEager_op (by rfl) (fun K hK => ?_); go_simp; (refine (HK.out _ _ _ _ HWS.out).mono ?_; rintro e y' ⟨rfl, rfl⟩); refine Shut.out hK _ _ (by assumption) ?_; clear hK K; (try simp only [Act.put, List.setIfInBounds_toArray, List.set_cons_zero, List.set_cons_succ]); (try refine eagerOpen rfl ?_))
          repeat (first | (apply wpEager_take; (· rfl); (· (intro w' hb'; go_simp; try with_reducible rfl)); (try simp only [Act.put, List.setIfInBounds_toArray, List.set_cons_zero, List.set_cons_succ]); (try refine eagerOpen rfl ?_)) | (refine wpEager_skip (by rfl) ?_; (try simp only [Act.put, List.setIfInBounds_toArray, List.set_cons_zero, List.set_cons_succ]); (try refine eagerOpen rfl ?_)) | (refine wpEager_off (by rfl) ?_; (try simp only [Act.put, List.setIfInBounds_toArray, List.set_cons_zero, List.set_cons_succ]); (try refine eagerOpen rfl ?_)))
          refine eagerEnd ?_
          have HRS1 := Lib.hid (HRS.out.next hy1)
          have hc1' : Hid (∀ w', Below y.heap.size y w' → w'.cell? ⟨g, 1, none⟩ = some (.string (S a1))) := fun w' hb => cell_below (hc1.out _ hy1) hb
          clear hy1 HWS HK hc0 hc1 HRS
          go_upto_region 11 with fail
          refine wp_region_eager_in (Below y.heap.size y) [(0, true), (1, true), (2, true), (3, false), (4, false), (5, true), (6, true), (7, true), (8, true), (9, true)] (by kernel_rfl) (by kernel_rfl) ?_ (eagerOpen rfl ?_)
          · exact below_drew1 _ _
          repeat (first
            | (first | (apply wpEager_take; (· rfl); (· (intro w' hb'; go_simp; try with_reducible rfl)); (try simp only [Act.put, List.setIfInBounds_toArray, List.set_cons_zero, List.set_cons_succ]); (try refine eagerOpen rfl ?_)) | (refine wpEager_skip (by rfl) ?_; (try simp only [Act.put, List.setIfInBounds_toArray, List.set_cons_zero, List.set_cons_succ]); (try refine eagerOpen rfl ?_)) | (refine wpEager_off (by rfl) ?_; (try simp only [Act.put, List.setIfInBounds_toArray, List.set_cons_zero, List.set_cons_succ]); (try refine eagerOpen rfl ?_)))
            | (apply wpEager_take; (· rfl); (· (intro w' hb'; have hk' := (hc1'.out) w' hb'; go_split_ands; go_simp; try with_reducible rfl)); (try simp only [Act.put, List.setIfInBounds_toArray, List.set_cons_zero, List.set_cons_succ]); (try refine eagerOpen rfl ?_)))
          (refine wpEager_op (by rfl) (fun K hK => ?_); go_simp; (refine (rerrs_any _).mono ?_; rintro e z ⟨rfl, hws, hb⟩; have HWS := Lib.hid hws; have hy1 : Below y.heap.size y z := (below_drew1 y.heap.size y).trans hb; clear hws hb); refine Shut.out hK _ _ (by assumption) ?_; clear hK K; (try simp only [Act.put, List.setIfInBounds_toArray, List.set_cons_zero, List.set_cons_succ]); (try refine eagerOpen rfl ?_))
          (refine wpEager_op (by rfl) (fun K hK => ?_); go_simp; (refine (HE.out _ _ _ _ HWS.out).mono ?_; rintro e y' ⟨rfl, rfl⟩); refine Shut.out hK _ _ (by assumption) ?_; clear hK K; (try simp only [Act.put, List.setIfInBounds_toArray, List.set_cons_zero, List.set_cons_succ]); (try refine eagerOpen rfl ?_))
          repeat (first | (apply wpEager_take; (· rfl); (· (intro w' hb'; go_simp; try with_reducible rfl)); (try simp only [Act.put, List.setIfInBounds_toArray, List.set_cons_zero, List.set_cons_succ]); (try refine eagerOpen rfl ?_)) | (refine wpEager_skip (by rfl) ?_; (try simp only [Act.put, List.setIfInBounds_toArray, List.set_cons_zero, List.set_cons_succ]); (try refine eagerOpen rfl ?_)) | (refine wpEager_off (by rfl) ?_; (try simp only [Act.put, List.setIfInBounds_toArray, List.set_cons_zero, List.set_cons_succ]); (try refine eagerOpen rfl ?_)))
          refine eagerEnd ?_
          have HRS := Lib.hid (HRS1.out.next hy1)
          clear hy1 HWS HE hc1' HRS1
          cases kok with
          | false =>
            have HBADQ : Hid (parseW ws = (RP.zero, 4)) := HNF.out (fun h => by have := h.k; rw [HA.out, HKO.out] at this; cases this)
            have HRX := HRS
            go_upto_region 13 with fail
            skip
            -- the zero reply and the error 4 are told: world WX; HBX: its box, HLX: Below, HBADQ
            go_wp2_with (first
              | refine Rdr.wpList_build rfl 27 _ rfl [] rfl _ built_r0 ?_
              | refine wpList_store_row rfl 27 _ _ rfl w.heap.size zR rfl rfl 27 zR HRX.out.box (infoR _ rfl) rfl (rpA_one _) ?_)
            have HS := Lib.hid (setRow_heap _ _ _ zR _ _ HRX.out.box)
            refine bodyPost_ret (results_row_tmp rfl _ _ _ _ _ _ _ rfl HS.out Tryd.underlying27 rfl (infoR _ rfl)) rfl ?_
            unfold ParP
            rw [HPAR.out, HBADQ.out]
            exact ⟨rfl, below_setRow HRX.out.low (Nat.le_refl _) _⟩
          | true =>
            cases eok with
            | false =>
              have HBADQ : Hid (parseW ws = (RP.zero, 4)) := HNF.out (fun h => by have := h.e; rw [HA1.out, HEO.out] at this; cases this)
              have HRX := HRS
              go_upto_region 13 with fail
              skip
              -- the zero reply and the error 4 are told: world WX; HBX: its box, HLX: Below, HBADQ
              go_wp2_with (first
                | refine Rdr.wpList_build rfl 27 _ rfl [] rfl _ built_r0 ?_
                | refine wpList_store_row rfl 27 _ _ rfl w.heap.size zR rfl rfl 27 zR HRX.out.box (infoR _ rfl) rfl (rpA_one _) ?_)
              have HS := Lib.hid (setRow_heap _ _ _ zR _ _ HRX.out.box)
              refine bodyPost_ret (results_row_tmp rfl _ _ _ _ _ _ _ rfl HS.out Tryd.underlying27 rfl (infoR _ rfl)) rfl ?_
              unfold ParP
              rw [HPAR.out, HBADQ.out]
              exact ⟨rfl, below_setRow HRX.out.low (Nat.le_refl _) _⟩
            | true =>
              by_cases hbad : ee = 0 ↔ ¬ 7 = 7
              · have e1 : ((ee : Int) == 0) = false := by rw [beq_eq_false_iff_ne (b := (0 : Int))]; omega
                have HBADQ : Hid (parseW ws = (RP.zero, 4)) := HNF.out (fun h => by have := h.len; rw [HN.out, HA1.out, HEO.out] at this; split at this <;> omega)
                have HRX := HRS
                clear hbad
                go_upto_region 13 with fail
                skip
                -- the zero reply and the error 4 are told: world WX; HBX: its box, HLX: Below, HBADQ
                go_wp2_with (first
                  | refine Rdr.wpList_build rfl 27 _ rfl [] rfl _ built_r0 ?_
                  | refine wpList_store_row rfl 27 _ _ rfl w.heap.size zR rfl rfl 27 zR HRX.out.box (infoR _ rfl) rfl (rpA_one _) ?_)
                have HS := Lib.hid (setRow_heap _ _ _ zR _ _ HRX.out.box)
                refine bodyPost_ret (results_row_tmp rfl _ _ _ _ _ _ _ rfl HS.out Tryd.underlying27 rfl (infoR _ rfl)) rfl ?_
                unfold ParP
                rw [HPAR.out, HBADQ.out]
                exact ⟨rfl, below_setRow HRX.out.low (Nat.le_refl _) _⟩
              · have e1 : ((ee : Int) == 0) = true := by rw [beq_iff_eq]; omega
                have HFIT : Hid (Fits ws) := ⟨by rw [HA.out, HKO.out], by rw [HN.out]; omega, by rw [HA1.out, HEO.out], by rw [HN.out, HA1.out, HEO.out]; show _ = if ee = 0 then 7 else 2; split <;> omega⟩
                have HPW : Hid (parseW ws = finR (kk : Int) (ee : Int) (numsB (ws.drop 2))) := by
                  show _ = _
                  rw [parse_fits HFIT.out, HA.out, HKO.out, HA1.out, HEO.out]
                clear hbad HNF HA HA1 HKO HEO
                have HDM : Hid (∀ x ∈ ws.drop 2, x.length ≤ 1099511627776) := fun x hx => HWL.out x (List.mem_of_mem_drop hx)
                have HDL : Hid ((ws.drop 2).length = 5) := by show _ = _; rw [List.length_drop, HN.out]
                have hba := Below.allocs z (.cells #[.int .u32 0, .int .u32 0, .int .u32 0, .int .u32 0, .int .u32 0] 25)
                have HRS2 := Lib.hid (HRS.out.next hba)
                have HNV : Hid ((z.alloc (.cells #[.int .u32 0, .int .u32 0, .int .u32 0, .int .u32 0, .int .u32 0] 25)).heap[z.heap.size]? = some (.cells (nvA (mkR (kk : Int) (ee : Int) (fst ws 0))) 25 (0, 0))) := heap_alloc_last _ _
                have HGN : Hid (w.heap.size + 1 ≤ z.heap.size) := HRS.out.size
                have HGG : Hid (g < z.heap.size) := (HRS.out.own.lt _ rfl).2
                clear hba HRS
                go_upto_region 16 with fail
                generalize z.alloc (.cells #[.int .u32 0, .int .u32 0, .int .u32 0, .int .u32 0, .int .u32 0] 25) = z2 at *
                generalize z.heap.size = gn at *
                go_loopw [11] (fun j wl => ∃ i : Nat, 2 ≤ i ∧ i ≤ 7 ∧ j = .int .i64 i ∧ RS w ws (some ⟨g, 0, none⟩) 7 c wl ∧ wl.heap[gn]? = some (.cells (nvA (mkR (kk : Int) (ee : Int) (fst ws (i - 2)))) 25 (0, 0)) ∧ (∀ q x, q < i - 2 → (ws.drop 2)[q]? = some x → (numOf x 4294967295).2 = 0)) (fun j _ => 7 - (intOf j).toNat)
                case atStart => exact ⟨2, by omega, by omega, rfl, HRS2.out, HNV.out, fun q x hq _ => absurd hq (Nat.not_lt_zero _)⟩
                case round =>
                  clear HRS2 HNV
                  obtain ⟨i, hi2, hiN, rfl, hrs, hnv, hok⟩ := hrel
                  have HRS := Lib.hid hrs
                  have HNV := Lib.hid hnv
                  have HOK := Lib.hid hok
                  clear hrs hnv hok
                  obtain ⟨q, hq⟩ : ∃ q, i - 2 = q := ⟨_, rfl⟩
                  rw [hq] at HNV HOK
                  have hiq : (i : Int) - 2 = (q : Int) := by omega
                  have hiq2 : i = q + 2 := by omega
                  by_cases hlt : i < 7
                  · skip
                    have hdi : decide ((i : Int) < 7) = true := decide_eq_true (by omega)
                    have hdi2 : decide (i < 7) = true := decide_eq_true hlt
                    have hql : q < (ws.drop 2).length := by rw [HDL.out]; omega
                    have hiw : i < ws.length := by rw [HN.out]; omega
                    have hcx := Ws.str (own_ws HRS.out.own) hiw
                    have hxe : ws[i]'hiw = (ws.drop 2)[q]'hql := by rw [List.getElem_drop]; congr 1; omega
                    rw [hxe, Nat.zero_add] at hcx
                    have HGE : Hid ((ws.drop 2)[q]? = some ((ws.drop 2)[q]'hql)) := List.getElem?_eq_getElem hql
                    have HMEM : Hid ((ws.drop 2)[q]'hql ∈ ws.drop 2) := List.getElem_mem hql
                    have HFS := Lib.hid (fst_succ ws q hql)
                    have HFL := Lib.hid (fst_len ws q (by omega))
                    generalize (ws.drop 2)[q]'hql = x at *
                    have hnum := rNumOf_any x 4294967295 wr (HDM.out x HMEM.out) (by omega)
                    unfold NumP at hnum
                    have HLT : Hid ((numOf x 4294967295).2 = 0 → (numOf x 4294967295).1 < 4294967296) := fun h => by have := (numOf_back h).2; omega
                    generalize hNO : numOf x 4294967295 = NO at *
                    obtain ⟨v, er⟩ := NO
                    have HNO := Lib.hid hNO
                    have HNUM := Lib.hid hnum
                    have HQ2 := Lib.hid hiq2
                    clear hnum hNO hql hxe hiw hiq2
                    go_wp2_with fail
                    refine HNUM.out.mono ?_
                    rintro e w9 ⟨rfl, hb9⟩
                    have HR9 := Lib.hid (HRS.out.next hb9)
                    have HN9 := Lib.hid (Below.keepOld hb9 HNV.out)
                    clear hb9 HNUM HRS HNV hcx
                    by_cases her : er = 0
                    · have q1 : (er != 0) = false := by rw [bne_eq_false_iff_eq]; exact her
                      have hv := HLT.out her
                      have hv : v < 4294967296 := hv
                      have hwrap : IntKind.u32.wrap (v : Int) = (v : Int) := by rw [IntKind.wrap_u32]; omega
                      have hq5 : q < 5 := by have := HQ2.out; omega
                      have hq55 : (q : Int) < 5 := by omega
                      have hwq : IntKind.i64.wrap (q : Int) = (q : Int) := by rw [IntKind.wrap_i64]; omega
                      have hco : w9.cell? ⟨gn, q, none⟩ = some (.int .u32 (((mkR (kk : Int) (ee : Int) (fst ws q)).nums.getD q 0 : Nat) : Int)) := by rw [cell_of_row _ _ _ _ _ _ HN9.out]; exact nv_get _ q hq5
                      have hfz : ∀ j, w9.frozen? ⟨gn, j, none⟩ = false := fun j => frozen_of_row _ _ j _ _ HN9.out
                      generalize (mkR (kk : Int) (ee : Int) (fst ws q)).nums.getD q 0 = old at *
                      have hT1 : Turns (fun k => k = gn) w9 (w9.setCell ⟨gn, q, none⟩ (.int .u32 (v : Int))) := (Turns.refl (fun k => k = gn) w9).setCell (p := ⟨gn, q, none⟩) (fun _ => rfl) _
                      have HNV2 : Hid ((w9.setCell ⟨gn, q, none⟩ (.int .u32 (v : Int))).heap[gn]? = some (.cells (nvA (mkR (kk : Int) (ee : Int) (fst ws (q + 1)))) 25 (0, 0))) := by
                        show _ = _
                        rw [heap_setCell_same _ _ _ _ _ _ HN9.out, HFS.out]
                        have := nv_push (kk : Int) (ee : Int) (fst ws q) (by rw [HFL.out]; exact hq5) v
                        rw [HFL.out] at this
                        rw [this]
                      have HR10 : Hid (RS w ws (some ⟨g, 0, none⟩) 7 c (w9.setCell ⟨gn, q, none⟩ (.int .u32 (v : Int)))) :=
                        ⟨own_touch HR9.out.own hT1 (fun k hk hkg => by have hk : g = k := Option.some.inj hk; have hkg : k = gn := hkg; have := HGG.out; omega), HR9.out.len, hT1.keep HR9.out.box (by have := HGN.out; omega), HR9.out.low.trans (hT1.below HR9.out.low.size (fun k hk => by have hk : k = gn := hk; have := HGN.out; omega))⟩
                      have HOK2 : Hid (∀ t y, t < q + 1 → (ws.drop 2)[t]? = some y → (numOf y 4294967295).2 = 0) := fun t y ht hy => by
                        by_cases htq : t = q
                        · subst htq
                          rw [HGE.out] at hy
                          obtain rfl := Option.some.inj hy
                          rw [HNO.out]; exact her
                        · exact HOK.out t y (by omega) hy
                      clear hv hT1 HR9 HN9 her HLT
                      go_wp2_with fail
                      go_roundw
                      case rel => exact ⟨i + 1, by omega, by omega, by go_num, HR10.out, by (have e2 : i + 1 - 2 = q + 1 := by (have := HQ2.out; omega)); rw [e2]; exact HNV2.out, by (have e2 : i + 1 - 2 = q + 1 := by (have := HQ2.out; omega)); rw [e2]; exact HOK2.out⟩
                      case measure => simp [intOf]; omega
                    · have q1 : (er != 0) = true := bne_iff_ne.2 her
                      have HBADQ : Hid (parseW ws = (RP.zero, 4)) := by
                        show _ = _
                        rw [HPW.out]
                        have hnone : numsB (ws.drop 2) = none := if_neg (fun h => her (by have := h x HMEM.out; rw [HNO.out] at this; exact this))
                        rw [hnone]; rfl
                      have HRX := HR9
                      clear her HLT HN9
                      go_upto_region 20 with fail
                      skip
                      -- the zero reply and the error 4 are told: world WX; HBX: its box, HLX: Below, HBADQ
                      go_wp2_with (first
                        | refine Rdr.wpList_build rfl 27 _ rfl [] rfl _ built_r0 ?_
                        | refine wpList_store_row rfl 27 _ _ rfl w.heap.size zR rfl rfl 27 zR HRX.out.box (infoR _ rfl) rfl (rpA_one _) ?_)
                      have HS := Lib.hid (setRow_heap _ _ _ zR _ _ HRX.out.box)
                      refine bodyPost_ret (results_row_tmp rfl _ _ _ _ _ _ _ rfl HS.out Tryd.underlying27 rfl (infoR _ rfl)) rfl ?_
                      unfold ParP
                      rw [HPAR.out, HBADQ.out]
                      exact ⟨rfl, below_setRow HRX.out.low (Nat.le_refl _) _⟩
                  · have hiN2 : i = 7 := by omega
                    have hqM : q = 5 := by omega
                    subst hiN2
                    subst hqM
                    have HEND : Hid (parseW ws = (mkR (kk : Int) (ee : Int) (fst ws 5), 0)) := by
                      show _ = _
                      have htk : (ws.drop 2).take 5 = ws.drop 2 := List.take_of_length_le (by rw [HDL.out]; exact Nat.le_refl _)
                      have hsome : numsB (ws.drop 2) = some (fst ws 5) := by
                        unfold numsB fst
                        rw [if_pos (fun x hx => by
                          obtain ⟨q, hq, hqx⟩ := List.mem_iff_getElem.1 hx
                          exact HOK.out q x (by rw [HDL.out] at hq; exact hq) (by rw [← hqx]; exact List.getElem?_eq_getElem hq)), htk]
                      rw [HPW.out, hsome]; rfl
                    have hk1 : (mkR (kk : Int) (ee : Int) (fst ws 5)).kind = (kk : Int) := rfl
                    have hk2 : (mkR (kk : Int) (ee : Int) (fst ws 5)).err = (ee : Int) := rfl
                    have HW := Lib.hid (rwith_any (kk : Int) (ee : Int) (mkR (kk : Int) (ee : Int) (fst ws 5)) gn wr HNV.out)
                    clear hk1 hk2 hiq hiq2 hq hlt
                    go_wp2_with fail
                    refine HW.out.mono ?_
                    rintro e w9 ⟨rfl, hb9⟩
                    have HR9 := Lib.hid (HRS.out.next hb9)
                    clear hb9 HW HRS HNV
                    go_wp2_with (refine wpList_store_row rfl 27 _ _ rfl w.heap.size (rpA (mkR (kk : Int) (ee : Int) (fst ws 5))) rfl rfl 27 zR HR9.out.box (infoR _ rfl) rfl (rpA_one _) ?_)
                    have HS := Lib.hid (setRow_heap _ _ _ (rpA (mkR (kk : Int) (ee : Int) (fst ws 5))) _ _ HR9.out.box)
                    refine bodyPost_ret (results_row_tmp rfl _ _ _ _ _ _ _ rfl HS.out Tryd.underlying27 rfl (infoR _ rfl)) rfl ?_
                    unfold ParP
                    rw [HPAR.out, HEND.out]
                    exact ⟨rfl, below_setRow HR9.out.low (Nat.le_refl _) _⟩
        · have q1 : ((m : Int) != 2) = true := by rw [bne_iff_ne]; omega
          have q2 : ((m : Int) != 7) = true := by rw [bne_iff_ne]; omega
          have q3 : (m != 2) = true := bne_iff_ne.2 h2
          have q4 : (m != 7) = true := bne_iff_ne.2 h7
          have HBADQ : Hid (parseW ws = (RP.zero, 4)) := HNF.out (fun h => by have := h.len; rw [HN.out] at this; split at this <;> omega)
          have HRX := HRS
          go_upto_region 9 with fail
          skip
          -- the zero reply and the error 4 are told: world WX; HBX: its box, HLX: Below, HBADQ
          go_wp2_with (first
            | refine Rdr.wpList_build rfl 27 _ rfl [] rfl _ built_r0 ?_
            | refine wpList_store_row rfl 27 _ _ rfl w.heap.size zR rfl rfl 27 zR HRX.out.box (infoR _ rfl) rfl (rpA_one _) ?_)
          have HS := Lib.hid (setRow_heap _ _ _ zR _ _ HRX.out.box)
          refine bodyPost_ret (results_row_tmp rfl _ _ _ _ _ _ _ rfl HS.out Tryd.underlying27 rfl (infoR _ rfl)) rfl ?_
          unfold ParP
          rw [HPAR.out, HBADQ.out]
          exact ⟨rfl, below_setRow HRX.out.low (Nat.le_refl _) _⟩
end Go.Proofs.YtmphajilnkgcaaaDoor.Rpl

namespace Go.Proofs.YtmphajilnkgcaaaDoor.Rpl
open Go.RowKit Go.Mir Go.Mir.Hx Go.Mir.Parts

set_option maxRecDepth 100000 in
set_option maxHeartbeats 3200000 in
theorem law_lines (s : List UInt8) (w : World) (hm : MaxL w) (hs47 : s.length ≤ 9223372036854775807) :
    Calls Tryd.prog 3 #[.string (S s)] w fun e w' => e = .returned (.bool true) ∧ Below w.heap.size w w' := by
  have hz := zeroR
  have HM := Lib.hid hm
  by_cases hl : 300 < s.length
  · have d1 : decide ((300 : Int) < (s.length : Int)) = true := decide_eq_true (by omega)
    have d2 : decide (300 < s.length) = true := decide_eq_true hl
    clear hm hz
    go_enter Tryd.func3, Tryd.ntmps3
    go_wp2_with fail
    refine (alive15_any w HM.out).mono ?_
    rintro e w1 ⟨rfl, hb⟩
    go_wp2_with fail
    go_ret
    exact ⟨rfl, hb⟩
  have d1 : decide ((300 : Int) < (s.length : Int)) = false := decide_eq_false (by omega)
  have d2 : decide (300 < s.length) = false := decide_eq_false hl
  have hp := parse_any s w (by omega) hm
  have hrp := fun w => rparse_any s w (by omega)
  unfold ParP at hp hrp
  rcases parse_bad s with h0 | hbad
  · obtain ⟨r, hr⟩ : ∃ r, parseB s = (r, 0) := ⟨(parseB s).1, by rw [← h0]⟩
    obtain ⟨hline, _, hwf⟩ := line_parse hr
    simp only [hr] at hp hrp
    have HP := Lib.hid hp
    have HRP := Lib.hid hrp
    have HL := Lib.hid (fun w => line_any r w hwf)
    rw [hline] at HL
    clear hp hrp h0 hr hline hwf hm hl
    obtain ⟨kind, err, se, sq, qu, us, ex⟩ := r
    skip
    go_enter Tryd.func3, Tryd.ntmps3
    go_wp2_with fail
    refine HP.out.mono ?_
    rintro e w1 ⟨rfl, hb1⟩
    have hal := below_setRow (Below.allocs w1 (.cells zR 27)) (Nat.le_refl _) (rpA (⟨kind, err, se, sq, qu, us, ex⟩ : RP))
    have HB2 := Lib.hid (hb1.trans (hal.mono hb1.size))
    have HRX := Lib.hid (setRow_heap _ _ _ (rpA (⟨kind, err, se, sq, qu, us, ex⟩ : RP)) _ _ (heap_alloc_last w1 (.cells zR 27)))
    clear hb1 hal HP
    go_upto_region 4 with (refine wpList_store_row rfl 27 _ _ rfl w1.heap.size (rpA (⟨kind, err, se, sq, qu, us, ex⟩ : RP)) rfl rfl 27 zR (heap_alloc_last _ _) (infoR _ rfl) rfl (rpA_one _) ?_)
    try simp only [Act.put, List.setIfInBounds_toArray, List.set_cons_zero, List.set_cons_succ]
    generalize (w1.alloc (.cells zR 27)).setRow w1.heap.size (rpA (⟨kind, err, se, sq, qu, us, ex⟩ : RP)) = w2 at *
    generalize w1.heap.size = g1 at *
    go_wp2_with fail
    refine (HRP.out w2).mono ?_
    rintro e w3 ⟨rfl, hb3⟩
    have hal := below_setRow (Below.allocs w3 (.cells zR 27)) (Nat.le_refl _) (rpA (⟨kind, err, se, sq, qu, us, ex⟩ : RP))
    have hal2 : Below w3.heap.size w3 ((w3.alloc (.cells zR 27)).setRow w3.heap.size (rpA (⟨kind, err, se, sq, qu, us, ex⟩ : RP))) := hal
    have HB4 := Lib.hid (HB2.out.trans ((hb3.trans (hal.mono hb3.size)).mono HB2.out.size))
    have HRX4 := Lib.hid (Below.keepOld hal2 (Below.keepOld hb3 HRX.out))
    have HRY := Lib.hid (setRow_heap _ _ _ (rpA (⟨kind, err, se, sq, qu, us, ex⟩ : RP)) _ _ (heap_alloc_last w3 (.cells zR 27)))
    clear hb3 hal hal2 HRP HRX HB2
    go_upto_region 5 with (refine wpList_store_row rfl 27 _ _ rfl w3.heap.size (rpA (⟨kind, err, se, sq, qu, us, ex⟩ : RP)) rfl rfl 27 zR (heap_alloc_last _ _) (infoR _ rfl) rfl (rpA_one _) ?_)
    try simp only [Act.put, List.setIfInBounds_toArray, List.set_cons_zero, List.set_cons_succ]
    generalize (w3.alloc (.cells zR 27)).setRow w3.heap.size (rpA (⟨kind, err, se, sq, qu, us, ex⟩ : RP)) = w4 at *
    generalize w3.heap.size = g3 at *
    unfold rpA at HRX4 HRY
    dsimp only at HRX4 HRY
    go_wp2_with (first
      | refine wpList_load_row rfl 27 _ rfl g1 rfl 27 _ (0, 0) _ HRX4.out Tryd.underlying27 rfl (infoR _ rfl) ?_
      | refine wpList_load_row rfl 27 _ rfl g3 rfl 27 _ (0, 0) _ HRY.out Tryd.underlying27 rfl (infoR _ rfl) ?_
      | refine wpList_load_row_g rfl 27 _ rfl g1 rfl 27 _ (0, 0) _ HRX4.out Tryd.underlying27 rfl (infoR _ rfl) ?_)
    refine (HL.out w4).mono ?_
    rintro e w5 ⟨rfl, hb⟩
    have HB5 := Lib.hid (HB4.out.trans (hb.mono HB4.out.size))
    clear hb HL HB4
    go_wp2_with fail
    refine (alive15_any w5 (HM.out.below HB5.out)).mono ?_
    rintro e w6 ⟨rfl, hb⟩
    go_wp2_with fail
    go_ret
    exact ⟨rfl, HB5.out.trans (hb.mono HB5.out.size)⟩
  · simp only [hbad] at hp hrp
    have HP := Lib.hid hp
    have HRP := Lib.hid hrp
    clear hp hrp hbad hm hl
    skip
    go_enter Tryd.func3, Tryd.ntmps3
    go_wp2_with fail
    refine HP.out.mono ?_
    rintro e w1 ⟨rfl, hb1⟩
    have hal := below_setRow (Below.allocs w1 (.cells zR 27)) (Nat.le_refl _) (rpA RP.zero)
    have HB2 := Lib.hid (hb1.trans (hal.mono hb1.size))
    have HRX := Lib.hid (setRow_heap _ _ _ (rpA RP.zero) _ _ (heap_alloc_last w1 (.cells zR 27)))
    clear hb1 hal HP
    go_upto_region 4 with (refine wpList_store_row rfl 27 _ _ rfl w1.heap.size (rpA RP.zero) rfl rfl 27 zR (heap_alloc_last _ _) (infoR _ rfl) rfl (rpA_one _) ?_)
    try simp only [Act.put, List.setIfInBounds_toArray, List.set_cons_zero, List.set_cons_succ]
    generalize (w1.alloc (.cells zR 27)).setRow w1.heap.size (rpA RP.zero) = w2 at *
    generalize w1.heap.size = g1 at *
    go_wp2_with fail
    refine (HRP.out w2).mono ?_
    rintro e w3 ⟨rfl, hb3⟩
    have hal := below_setRow (Below.allocs w3 (.cells zR 27)) (Nat.le_refl _) (rpA RP.zero)
    have hal2 : Below w3.heap.size w3 ((w3.alloc (.cells zR 27)).setRow w3.heap.size (rpA RP.zero)) := hal
    have HB4 := Lib.hid (HB2.out.trans ((hb3.trans (hal.mono hb3.size)).mono HB2.out.size))
    have HRX4 := Lib.hid (Below.keepOld hal2 (Below.keepOld hb3 HRX.out))
    have HRY := Lib.hid (setRow_heap _ _ _ (rpA RP.zero) _ _ (heap_alloc_last w3 (.cells zR 27)))
    clear hb3 hal hal2 HRP HRX HB2
    go_upto_region 5 with (refine wpList_store_row rfl 27 _ _ rfl w3.heap.size (rpA RP.zero) rfl rfl 27 zR (heap_alloc_last _ _) (infoR _ rfl) rfl (rpA_one _) ?_)
    try simp only [Act.put, List.setIfInBounds_toArray, List.set_cons_zero, List.set_cons_succ]
    generalize (w3.alloc (.cells zR 27)).setRow w3.heap.size (rpA RP.zero) = w4 at *
    generalize w3.heap.size = g3 at *
    unfold rpA RP.zero at HRX4 HRY
    dsimp only at HRX4 HRY
    go_wp2_with (first
      | refine wpList_load_row rfl 27 _ rfl g1 rfl 27 _ (0, 0) _ HRX4.out Tryd.underlying27 rfl (infoR _ rfl) ?_
      | refine wpList_load_row rfl 27 _ rfl g3 rfl 27 _ (0, 0) _ HRY.out Tryd.underlying27 rfl (infoR _ rfl) ?_
      | refine wpList_load_row_g rfl 27 _ rfl g1 rfl 27 _ (0, 0) _ HRX4.out Tryd.underlying27 rfl (infoR _ rfl) ?_
      | refine wpList_build_g rfl 27 _ rfl [] rfl #[.int .i64 0, .int .i64 0, .int .u32 0, .int .u32 0, .int .u32 0, .int .u32 0, .int .u32 0] built_r0 ?_)
    refine (alive15_any w4 (HM.out.below HB4.out)).mono ?_
    rintro e w6 ⟨rfl, hb⟩
    go_wp2_with fail
    go_ret
    exact ⟨rfl, HB4.out.trans (hb.mono HB4.out.size)⟩
end Go.Proofs.YtmphajilnkgcaaaDoor.Rpl

namespace Go.Proofs.YtmphajilnkgcaaaDoor.Rdr
open Go.RowKit Go.Mir

def TakeP (base rb : Nat) (s : RD) (n : Int) (fits : Bool) (w : World) (e : Ending) (w' : World) : Prop :=
  ∃ p c, e = .returned (.slice p (s.takeB n fits).length c) ∧ Bs w' p (s.takeB n fits).length c (s.takeB n fits) ∧ LeftR base rb (s.takeS n fits) w w'
theorem TakeP.empty {base rb : Nat} {s : RD} {n : Int} {fits : Bool} {w w' : World} (hB : s.takeB n fits = []) (h : LeftR base rb (s.takeS n fits) w w') : TakeP base rb s n fits w (.returned (.slice none 0 0)) w' :=
  ⟨none, 0, by rw [hB]; rfl, by rw [hB]; exact Sl.nil _ _, h⟩
theorem run_cut {w : World} {p : Option Addr} {L c : Nat} (l : List UInt8) (h : Bs w p L c l) (k m : Nat) (hk : k + m ≤ L) :
    ∃ q, (∀ w0, (Instr.sliceAt 44 (.slice p L c) (some (.int .i64 (k : Int))) (some (.int .i64 ((k : Int) + (m : Int)))) (some (.int .i64 ((k : Int) + (m : Int))))).run Tryd.prog w0 = .ok (.slice q m m) w0) ∧
      ∀ w', (∀ b o v, p = some ⟨b, o, none⟩ → ∀ j, w.cell? ⟨b, j, none⟩ = some v → w'.cell? ⟨b, j, none⟩ = some v) → Bs w' q m m ((l.drop k).take m) := by
  have hle := h.le
  have hmax := h.max
  have hsz : (Tryd.prog.info? 5).map (·.size) = some 1 := by kernel_rfl
  obtain ⟨i, hi, hi1⟩ := Option.map_eq_some_iff.1 hsz
  have e1 : ((k : Int) + (m : Int)).toNat = k + m := by omega
  have hrun : ∀ w0, (Instr.sliceAt 44 (.slice p L c) (some (.int .i64 (k : Int))) (some (.int .i64 ((k : Int) + (m : Int)))) (some (.int .i64 ((k : Int) + (m : Int))))).run Tryd.prog w0 = .ok (.slice (if k + m = k then p else p.map (·.add k)) m m) w0 := fun w0 => by
    have hb1 : (0 : Int) ≤ (k : Int) + (m : Int) ∧ (k : Int) + (m : Int) ≤ (c : Int) := by omega
    have hb3 : (0 : Int) ≤ (k : Int) ∧ (k : Int) ≤ ((k + m : Nat) : Int) := by omega
    simp [Instr.sliceAt, Instr.slice, run_underlying Tryd.underlying44, Instr.sliceBounds, Instr.sliceBound, asIntOf, sizeOf, typeInfo, hi, hi1, e1, hb1, hb3]
    try omega
  by_cases hm : m = 0
  · subst hm
    refine ⟨p, fun w0 => by rw [hrun]; simp, fun w' _ => ?_⟩
    refine ⟨by simp [bytesV], Nat.le_refl _, by omega, fun _ => rfl, fun a ha j u hu => by simp [bytesV] at hu⟩
  · obtain ⟨b, o, rfl, hB⟩ := Bs.part h k m hk (by omega)
    refine ⟨some ⟨b, o + k, none⟩, fun w0 => by rw [hrun, if_neg (by omega)]; simp [add_none], fun w' hw => ⟨hB.len, hB.le, hB.max, hB.nil0, fun a ha j u hu => ?_⟩⟩
    have h1 := hB.cell a ha j u hu
    obtain rfl := Option.some.inj ha
    rw [add_none] at h1 ⊢
    exact hw b o u rfl _ h1
set_option maxRecDepth 100000 in
set_option maxHeartbeats 1600000 in
theorem take_any {base rb : Nat} {s : RD} (w : World) (h : RAt w base rb s) (n : Int) (hn : -9223372036854775808 ≤ n ∧ n ≤ 9223372036854775807) (fits : Bool) :
    Calls Tryd.prog 47 #[.pointer (some ⟨rb, 0, none⟩), .int .i64 n, .bool fits] w (TakeP base rb s n fits w) := by
  have H := Lib.hid h
  obtain ⟨v, bv, h⟩ := h
  obtain ⟨_, hc1, hc2, hc3, hfz⟩ := h.cells
  have HI := Lib.hid h
  obtain ⟨l, pos, bad⟩ := s
  cases bad with
  | some b =>
    obtain ⟨_, _, fb, a0, hbv, _⟩ := h.fault
    rw [hbv] at hc3
    have HFIN : Hid (TakeP base rb ⟨l, pos, some b⟩ n fits w (.returned (.slice none 0 0)) w) := by
      refine TakeP.empty (by unfold RD.takeB; rw [if_neg (by simp)]) ?_
      have : RD.takeS ⟨l, pos, some b⟩ n fits = ⟨l, pos, some b⟩ := by unfold RD.takeS; rw [if_pos (by simp)]
      rw [this]
      exact LeftR.same H.out (Below.refl _ _)
    clear h hbv
    go_enter Tryd.func47, Tryd.ntmps47
    go_wp2_with fail
    refine (none_any w H.out).mono ?_
    rintro e w' ⟨rfl, rfl⟩
    go_wp2_with fail
    go_ret
    exact HFIN.out
  | none =>
    have hbv : bv = .nilIface := h.fault
    rw [hbv] at hc3
    obtain ⟨p, c, hv, hbs⟩ := h.bytes.bs
    rw [hv] at hc1
    dsimp only at hc1 hc2 hbs hv
    have hg1 := cell_grown hc1
    have hg2 := cell_grown hc2
    have hat : pos ≤ l.length := h.at1
    have hlen : l.length ≤ 140737488355328 := h.len
    have hle := hbs.le
    have hmax := hbs.max
    have HBS := Lib.hid hbs
    have HV := Lib.hid hv
    clear h hbv hbs hv
    by_cases hbad : fits = false ∨ n < 0
    · have hTB : RD.takeB ⟨l, pos, none⟩ n fits = [] := by
        unfold RD.takeB
        rw [if_neg]
        rintro ⟨_, h1, h2, _⟩
        rcases hbad with h | h
        · rw [h] at h1
          cases h1
        · omega
      have HFIN : Hid (∀ w', LeftR base rb (RD.fail ⟨l, pos, none⟩ 1) w w' → TakeP base rb ⟨l, pos, none⟩ n fits w (.returned (.slice none 0 0)) w') := fun w' hl => by
        refine TakeP.empty hTB ?_
        have : RD.takeS ⟨l, pos, none⟩ n fits = RD.fail ⟨l, pos, none⟩ 1 := by unfold RD.takeS RD.fail; rw [if_neg (by simp), if_pos hbad, if_pos ⟨rfl, by decide⟩]
        rw [this]
        exact hl
      have HFL := Lib.hid (fail_any w H.out 1 (by omega))
      clear hg1 hg2 hTB
      cases fits with
      | false =>
        clear hbad
        go_enter Tryd.func47, Tryd.ntmps47
        go_wp2_with fail
        refine (none_any w H.out).mono ?_
        rintro e w' ⟨rfl, rfl⟩
        go_wp2_with fail
        refine (HFL.out).mono ?_
        rintro e w' ⟨rfl, hl⟩
        have HL := Lib.hid (HFIN.out _ hl)
        clear hl
        go_wp2_with fail
        go_ret
        exact HL.out
      | true =>
        have hneg : n < 0 := by simpa using hbad
        have e1 : decide (n < 0) = true := decide_eq_true hneg
        clear hbad
        go_enter Tryd.func47, Tryd.ntmps47
        go_wp2_with fail
        refine (none_any w H.out).mono ?_
        rintro e w' ⟨rfl, rfl⟩
        go_wp2_with fail
        refine (HFL.out).mono ?_
        rintro e w' ⟨rfl, hl⟩
        have HL := Lib.hid (HFIN.out _ hl)
        clear hl
        go_wp2_with fail
        go_ret
        exact HL.out
    · obtain rfl : fits = true := by cases fits with | true => rfl | false => exact absurd (.inl rfl) hbad
      have hn0 : ¬ n < 0 := fun h => hbad (.inr h)
      obtain ⟨m, rfl⟩ : ∃ m : Nat, n = (m : Int) := ⟨n.toNat, by omega⟩
      have e1 : decide ((m : Int) < 0) = false := decide_eq_false hn0
      have hsub : (l.length : Int) - (pos : Int) = ((l.length - pos : Nat) : Int) := by omega
      have hw1 : IntKind.i64.wrap ((l.length : Int) - (pos : Int)) = ((l.length - pos : Nat) : Int) := by rw [hsub]; exact IntWalk.i64_in _ (by omega)
      have hw2 : IntKind.i64.wrap ((l.length - pos : Nat) : Int) = ((l.length - pos : Nat) : Int) := IntWalk.i64_in _ (by omega)
      by_cases hbig : l.length - pos < m
      · have HFIN : Hid (∀ w1 w', Below w.heap.size w w1 → LeftR base rb (RD.fail ⟨l, pos, none⟩ 2) w1 w' → TakeP base rb ⟨l, pos, none⟩ (m : Int) true w (.returned (.slice none 0 0)) w') := fun w1 w' hb hl => by
          refine TakeP.empty (by unfold RD.takeB; rw [if_neg (by rintro ⟨_, h1, h2, h3⟩; dsimp only at h3; omega)]) ?_
          have : RD.takeS ⟨l, pos, none⟩ (m : Int) true = RD.fail ⟨l, pos, none⟩ 2 := by
            unfold RD.takeS RD.fail
            rw [if_neg (by simp), if_neg hbad, if_pos (by dsimp only; omega), if_pos ⟨rfl, by decide⟩]
          rw [this]
          exact LeftR.trans (LeftR.same H.out hb) hl
        have e2 : decide (((l.length - pos : Nat) : Int) < (m : Int)) = true := decide_eq_true (by omega)
        have e3 : decide (l.length - pos < m) = true := decide_eq_true hbig
        clear hbad
        go_enter Tryd.func47, Tryd.ntmps47
        go_wp2_with fail
        refine (none_any w H.out).mono ?_
        rintro e w' ⟨rfl, rfl⟩
        go_upto_region 4 with fail
        refine wp_region_grow (by kernel_rfl) (by kernel_rfl) ?_
        repeat (first
          | ((with_reducible refine wpQuietGd ?_); (with_reducible refine wpQuiet_skip ?_ ?_); (· rfl); simp only [Act.put, List.setIfInBounds_toArray, List.set_cons_zero, List.set_cons_succ])
          | quiet_step (fail))
        refine wpQuiet_nil ?_
        intro w2 hb2
        have HB2 := Lib.hid hb2
        have HFL := Lib.hid (fail_any w2 (H.out.below hb2) 2 (by omega))
        clear hb2 hg1 hg2 hsub hw1 hw2
        go_wp2_with fail
        refine (HFL.out).mono ?_
        rintro e w' ⟨rfl, hl⟩
        have HL := Lib.hid (HFIN.out _ _ HB2.out hl)
        clear hl
        go_wp2_with fail
        go_ret
        exact HL.out
      · have e2 : decide (((l.length - pos : Nat) : Int) < (m : Int)) = false := decide_eq_false (by omega)
        have e3 : decide (l.length - pos < m) = false := decide_eq_false hbig
        obtain ⟨q, hsl, hqb⟩ := run_cut l HBS.out pos m (by omega)
        have hwp : IntKind.i64.wrap ((pos : Int) + (m : Int)) = (pos : Int) + (m : Int) := IntWalk.i64_in _ (by omega)
        have HQB := Lib.hid hqb
        have HFIN : Hid (∀ w3, Below w.heap.size w w3 → TakeP base rb ⟨l, pos, none⟩ (m : Int) true w (.returned (.slice q m m)) (w3.setCell ⟨rb, 2, none⟩ (.int .i64 ((pos : Int) + (m : Int))))) := fun w3 hb => by
          have hB : RD.takeB ⟨l, pos, none⟩ (m : Int) true = (l.drop pos).take m := by unfold RD.takeB; rw [if_pos ⟨rfl, rfl, by omega, by dsimp only; omega⟩]; rfl
          have hS : RD.takeS ⟨l, pos, none⟩ (m : Int) true = ⟨l, pos + m, none⟩ := by
            unfold RD.takeS
            rw [if_neg (by simp), if_neg hbad, if_neg (by dsimp only; omega)]; rfl
          have hml : ((l.drop pos).take m).length = m := by rw [List.length_take, List.length_drop]; omega
          have hI := HI.out.below hb
          have ht := (Turns.refl (fun k => k = rb) w3).setCell (p := ⟨rb, 2, none⟩) (fun _ => rfl) (.int .i64 ((pos : Int) + (m : Int)))
          refine ⟨q, m, by rw [hB, hml], ?_, ?_⟩
          · rw [hB, hml]
            refine HQB.out _ (fun b o u hp j hc => ?_)
            have hne : b ≠ rb := by
              intro he
              rcases HI.out.bytes with ⟨h1, h2⟩ | ⟨g, cap, cur, h1, _, h3, _⟩
              · rw [HV.out] at h1
                obtain ⟨rfl, _, _⟩ := Value.slice.inj h1
                cases hp
              · rw [HV.out] at h1
                obtain ⟨h4, _, _⟩ := Value.slice.inj h1
                rw [hp] at h4
                have h5 : b = g := congrArg (fun a : Option Addr => (a.getD ⟨0, 0, none⟩).block) h4
                exact HI.out.no8 g cur _ h3 (by omega)
            exact ht.cell (cell_below hc hb) hne
          · rw [hS]
            have hrow2 := heap_setCell_same _ rb 2 _ _ (.int .i64 ((pos : Int) + (m : Int))) hI.row
            refine ⟨⟨v, bv, ⟨?_, hI.low, hI.bytes.touch ht hI.no8, hI.fault.touch ht hI.noF, by show pos + m ≤ l.length; omega, hI.len⟩⟩, (Turns.of_below hb).trans ht (fun _ _ h => h), by rw [HI.out.cells.2.1, cell_of_row _ _ _ _ _ _ hrow2]; rfl⟩
            rw [hrow2]
            show _ = some (Obj.cells #[.bool true, v, .int .i64 ((pos + m : Nat) : Int), bv] _ _)
            rw [Int.natCast_add]
            rfl
        clear hbad hqb
        go_enter Tryd.func47, Tryd.ntmps47
        go_wp2_with fail
        refine (none_any w H.out).mono ?_
        rintro e w' ⟨rfl, rfl⟩
        go_upto_region 4 with fail
        refine wp_region_grow (by kernel_rfl) (by kernel_rfl) ?_
        repeat (first
          | ((with_reducible refine wpQuietGd ?_); (with_reducible refine wpQuiet_skip ?_ ?_); (· rfl); simp only [Act.put, List.setIfInBounds_toArray, List.set_cons_zero, List.set_cons_succ])
          | quiet_step (fail))
        refine wpQuiet_nil ?_
        intro w2 hb2
        have HB2 := Lib.hid hb2
        have hc1' := cell_below hc1 hb2
        have hc2' := cell_below hc2 hb2
        clear hg1 hg2 hb2
        have hg1 := cell_grown hc1'
        have hg2 := cell_grown hc2'
        go_upto_region 9 with fail
        refine wp_region_grow (by kernel_rfl) (by kernel_rfl) ?_
        repeat (first
          | ((with_reducible refine wpQuietGd ?_); (with_reducible refine wpQuiet_skip ?_ ?_); (· rfl); simp only [Act.put, List.setIfInBounds_toArray, List.set_cons_zero, List.set_cons_succ])
          | quiet_step (fail))
        refine wpQuiet_nil ?_
        intro w3 hb3
        have HB3 := Lib.hid (HB2.out.trans (hb3.mono HB2.out.size))
        have hc2'' := cell_below hc2' hb3
        have hfz' := (HI.out.below HB3.out).cells.2.2.2.2 2
        have HF := Lib.hid (HFIN.out w3 HB3.out)
        clear hg1 hg2 hb3 hsub hw1 hw2 hsl
        go_wp2_with fail
        go_ret
        exact HF.out
end Go.Proofs.YtmphajilnkgcaaaDoor.Rdr

namespace Go.Proofs.YtmphajilnkgcaaaDoor.Rdr
open Go.RowKit Go.Mir Go.Mir.Parts

/-! ### plain -/
def beN (l : List UInt8) : Nat := l.foldl (fun a b => 256 * a + b.toNat) 0
theorem beN_snoc (l : List UInt8) (b : UInt8) : beN (l ++ [b]) = 256 * beN l + b.toNat := by simp [beN, List.foldl_append]
theorem beN_lt_pow (l : List UInt8) : beN l < 256 ^ l.length := by
  suffices h : ∀ (a : Nat) (l : List UInt8), l.foldl (fun a b => 256 * a + b.toNat) a < (a + 1) * 256 ^ l.length by
    have := h 0 l
    rwa [Nat.zero_add, Nat.one_mul] at this
  intro a l
  induction l generalizing a with
  | nil => simp
  | cons b l ih =>
    have h1 := ih (256 * a + b.toNat)
    have h2 := b.toNat_lt
    have h3 : (256 * a + b.toNat + 1) * 256 ^ l.length ≤ ((a + 1) * 256) * 256 ^ l.length := Nat.mul_le_mul_right _ (by omega)
    rw [List.foldl_cons, List.length_cons, Nat.pow_succ, Nat.mul_comm (256 ^ l.length) 256, ← Nat.mul_assoc]
    omega
theorem beN_lt (l : List UInt8) (h : l.length ≤ 8) : beN l < 18446744073709551616 := by
  have h1 := beN_lt_pow l
  have h2 : 256 ^ l.length ≤ 256 ^ 8 := Nat.pow_le_pow_right (by omega) h
  have h3 : (256 : Nat) ^ 8 = 18446744073709551616 := by decide
  omega
theorem or_byte (x b : Nat) (hb : b < 256) : (256 * x ||| b) = 256 * x + b := by
  have := Nat.two_pow_add_eq_or_of_lt (i := 8) (b := b) (by omega) x
  rw [show (2 : Nat) ^ 8 = 256 from rfl] at this
  exact this.symm
def fitsW (n : Int) : Bool := decide (1 ≤ n) && decide (n ≤ 8)
def RD.numV (s : RD) (n : Int) : Nat := beN (s.takeB n (fitsW n))
def RD.numS (s : RD) (n : Int) : RD := s.takeS n (fitsW n)
theorem takeB_len (s : RD) (n : Int) (fits : Bool) : ((s.takeB n fits).length : Int) ≤ (if 0 ≤ n then n else 0) := by
  unfold RD.takeB
  split
  · rename_i h
    rw [List.length_take, if_pos h.2.2.1]
    omega
  · split <;> simp <;> omega
theorem takeW_len (s : RD) (n : Int) : (s.takeB n (fitsW n)).length ≤ 8 := by
  unfold RD.takeB
  split
  · rename_i h
    have h2 := h.2.1
    simp [fitsW] at h2
    rw [List.length_take]
    omega
  · simp
def NumP (base rb : Nat) (s : RD) (n : Int) (w : World) (e : Ending) (w' : World) : Prop := e = .returned (.int .u64 (s.numV n : Int)) ∧ LeftR base rb (s.numS n) w w'

set_option maxRecDepth 100000 in
set_option maxHeartbeats 1600000 in
theorem num_any {base rb : Nat} {s : RD} (w : World) (h : RAt w base rb s) (n : Int) (hn : -9223372036854775808 ≤ n ∧ n ≤ 9223372036854775807) :
    Calls Tryd.prog 36 #[.pointer (some ⟨rb, 0, none⟩), .int .i64 n] w (NumP base rb s n w) := by
  have HT := Lib.hid (take_any w h n hn (fitsW n))
  have HF : Hid (∀ w', LeftR base rb (s.numS n) w w' → NumP base rb s n w (.returned (.int .u64 (s.numV n : Int))) w') := fun w' hl => ⟨rfl, hl⟩
  have hl8 := takeW_len s n
  clear h
  generalize hfw : fitsW n = fw at *
  have hnumS : s.numS n = s.takeS n fw := by unfold RD.numS; rw [hfw]
  have hnumV : s.numV n = beN (s.takeB n fw) := by unfold RD.numV; rw [hfw]
  rw [hnumS, hnumV] at HF
  generalize hL : s.takeB n fw = L at *
  have HLE := Lib.hid hL
  clear hL hnumS hnumV
  have hmain : ∀ a b : Bool, decide ((1 : Int) ≤ n) = a → decide (n ≤ 8) = b → fw = (a && b) → Calls Tryd.prog 36 #[.pointer (some ⟨rb, 0, none⟩), .int .i64 n] w (NumP base rb s n w) := by
    intro a b ha hb hab
    have HAB := Lib.hid hab
    clear hab
    cases a with
    | true =>
      obtain rfl : fw = b := HAB.out
      go_enter Tryd.func36, Tryd.ntmps36
      go_wp2_with fail
      refine HT.out.mono ?_
      rintro e w1 ⟨p, c, rfl, hbs, hl⟩
      rw [HLE.out] at hbs ⊢
      have HFIN := Lib.hid (HF.out _ hl)
      clear hl
      generalize hLn : L.length = m at *
      have HLN := Lib.hid hLn
      clear hLn
      have hle := hbs.le
      have hmax := hbs.max
      have HBS := Lib.hid hbs
      clear hbs
      go_wp2_with fail
      go_loop [5, 18] (fun x j => ∃ k : Nat, k ≤ m ∧ j = .int .i64 k ∧ x = .int .u64 (beN (L.take k) : Nat)) (fun _ j => m - (intOf j).toNat)
      case atStart => exact ⟨0, by omega, rfl, rfl⟩
      case round =>
        obtain ⟨k, hk, rfl, rfl⟩ := hrel
        have HLN := HLN
        by_cases hlt : k < m
        · have hd : decide ((k:Int) < m) = true := by simp; omega
          obtain ⟨b', o', rfl⟩ := HBS.out.addr (by omega) (by omega)
          have hc' := HBS.out.byte (j := k) (by rw [HLN.out]; omega)
          have hti := take_snoc L k (by rw [HLN.out]; omega)
          have hyl : L[k]'(by rw [HLN.out]; omega) = L[k]'(by rw [HLN.out]; omega) := rfl
          have hbe := beN_snoc (L.take k) (L[k]'(by rw [HLN.out]; omega))
          rw [← hti] at hbe
          have hb1 := beN_lt (L.take (k + 1)) (by rw [List.length_take, HLN.out]; omega)
          generalize hly : L[k]'(by rw [HLN.out]; omega) = y at *
          clear hly hyl hti
          have hll : y.toNat < 256 := y.toNat_lt
          generalize hB : beN (L.take k) = B at *
          generalize hB2 : beN (L.take (k + 1)) = B2 at *
          have HB2 := Lib.hid hB2
          have HBE := Lib.hid hbe
          have hw : IntKind.u64.wrap ((B : Int) * 256) = ((256 * B : Nat) : Int) := by
            rw [IntKind.wrap_u64]
            omega
          have hor : bits .or .u64 ((256 * B : Nat) : Int) ((y.toNat : Nat) : Int) = (B2 : Int) := by
            rw [u64_or_nat _ _ (by omega) (by omega), or_byte _ _ hll, hbe]
          have HOR := Lib.hid hor
          have HW := Lib.hid hw
          clear hB hB2 hbe hor hw
          go_wp2_with fail
          go_round
          case rel =>
            exact ⟨k + 1, by omega, by go_num, by rw [HW.out, HOR.out, HB2.out]⟩
          case measure => simp [intOf]; omega
        · obtain rfl : k = m := by omega
          rw [← HLN.out, List.take_length]
          go_wp2_with fail
          go_ret
          exact HFIN.out
    | false =>
      obtain rfl : fw = false := HAB.out
      clear hb
      go_enter Tryd.func36, Tryd.ntmps36
      go_wp2_with fail
      refine HT.out.mono ?_
      rintro e w1 ⟨p, c, rfl, hbs, hl⟩
      rw [HLE.out] at hbs ⊢
      have HFIN := Lib.hid (HF.out _ hl)
      clear hl
      generalize hLn : L.length = m at *
      have HLN := Lib.hid hLn
      clear hLn
      have hle := hbs.le
      have hmax := hbs.max
      have HBS := Lib.hid hbs
      clear hbs
      go_wp2_with fail
      go_loop [5, 18] (fun x j => ∃ k : Nat, k ≤ m ∧ j = .int .i64 k ∧ x = .int .u64 (beN (L.take k) : Nat)) (fun _ j => m - (intOf j).toNat)
      case atStart => exact ⟨0, by omega, rfl, rfl⟩
      case round =>
        obtain ⟨k, hk, rfl, rfl⟩ := hrel
        have HLN := HLN
        by_cases hlt : k < m
        · have hd : decide ((k:Int) < m) = true := by simp; omega
          obtain ⟨b', o', rfl⟩ := HBS.out.addr (by omega) (by omega)
          have hc' := HBS.out.byte (j := k) (by rw [HLN.out]; omega)
          have hti := take_snoc L k (by rw [HLN.out]; omega)
          have hyl : L[k]'(by rw [HLN.out]; omega) = L[k]'(by rw [HLN.out]; omega) := rfl
          have hbe := beN_snoc (L.take k) (L[k]'(by rw [HLN.out]; omega))
          rw [← hti] at hbe
          have hb1 := beN_lt (L.take (k + 1)) (by rw [List.length_take, HLN.out]; omega)
          generalize hly : L[k]'(by rw [HLN.out]; omega) = y at *
          clear hly hyl hti
          have hll : y.toNat < 256 := y.toNat_lt
          generalize hB : beN (L.take k) = B at *
          generalize hB2 : beN (L.take (k + 1)) = B2 at *
          have HB2 := Lib.hid hB2
          have HBE := Lib.hid hbe
          have hw : IntKind.u64.wrap ((B : Int) * 256) = ((256 * B : Nat) : Int) := by
            rw [IntKind.wrap_u64]
            omega
          have hor : bits .or .u64 ((256 * B : Nat) : Int) ((y.toNat : Nat) : Int) = (B2 : Int) := by
            rw [u64_or_nat _ _ (by omega) (by omega), or_byte _ _ hll, hbe]
          have HOR := Lib.hid hor
          have HW := Lib.hid hw
          clear hB hB2 hbe hor hw
          go_wp2_with fail
          go_round
          case rel =>
            exact ⟨k + 1, by omega, by go_num, by rw [HW.out, HOR.out, HB2.out]⟩
          case measure => simp [intOf]; omega
        · obtain rfl : k = m := by omega
          rw [← HLN.out, List.take_length]
          go_wp2_with fail
          go_ret
          exact HFIN.out
  exact hmain _ _ rfl rfl (by rw [← hfw]; rfl)

def BytesP (base rb : Nat) (s : RD) (n : Int) (w : World) (e : Ending) (w' : World) : Prop :=
  ∃ p c, e = .returned (.slice p (s.takeB n true).length c) ∧ w'.ownsRow w.heap.size 5 1 (.slice p (s.takeB n true).length c) (s.takeB n true).length (bytesV (s.takeB n true)) ∧ LeftR base rb (s.takeS n true) w w'
def RD.cntS (s : RD) (width most : Int) : RD := if most < 0 ∨ most < (s.numV width : Int) then (s.numS width).fail 4 else s.numS width
def RD.cntV (s : RD) (width most : Int) : Int := if (s.cntS width most).bad = none then (s.numV width : Int) else 0
def CountP (base rb : Nat) (s : RD) (n m : Int) (w : World) (e : Ending) (w' : World) : Prop := e = .returned (.int .i64 (s.cntV n m)) ∧ LeftR base rb (s.cntS n m) w w'
theorem numV_lt (s : RD) (n : Int) : s.numV n < 18446744073709551616 := beN_lt _ (takeW_len s n)
theorem RAt.cells {w : World} {base rb : Nat} {s : RD} (h : RAt w base rb s) : ∃ bv, w.cell? ⟨rb, 3, none⟩ = some bv ∧ FaultAt w base s.bad bv := by
  obtain ⟨v, bv, h⟩ := h
  exact ⟨bv, h.cells.2.2.2.1, h.fault⟩
end Go.Proofs.YtmphajilnkgcaaaDoor.Rdr

namespace Go.Proofs.YtmphajilnkgcaaaDoor.Rdr
open Go.RowKit Go.Mir Go.Mir.Parts

theorem wpList_copy_turn {P : Program} {w : World} {ops : Array Oper} {rest : List Oper} {o : Oper} {a : Act} {Q : Exit → Act → World → Prop} (hgd : o.guard = none) (d s : Operand) (dT sT : TypeId)
    (ho : o.op = .call { callee := .builtin .copy, args := #[d, s], argTypes := #[dT, sT] }) (elem : TypeId) (hu : P.underlying dT = some (.slice elem)) (hsz : (P.info? elem).map (·.size) = some 1)
    (dp sp : Option Addr) (dLen dCap sLen sCap : Nat) (hd : a.eval d = .slice dp dLen dCap) (hs : a.eval s = .slice sp sLen sCap)
    (g off : Nat) (cur : Array Value) (t : TypeId) (hg : w.heap[g]? = some (.cells cur t (0, 0))) (cs : List Value) (hn : cs.length = Nat.min sLen dLen)
    (hpos : 0 < cs.length → dp = some ⟨g, off, none⟩ ∧ ∃ ad, sp = some ad ∧ ∀ j v, cs[j]? = some v → w.cell? (ad.add j) = some v)
    (hfit : off + cs.length ≤ cur.size) (h1 : ∀ v ∈ cs, v.oneCell' = true)
    (h : ∀ w', Hid (w'.heap[g]? = some (.cells (cur.toList.take off ++ (cs ++ cur.toList.drop (off + cs.length))).toArray t (0, 0))) → Turns (fun k => k = g) w w' → wpList P ops Q rest (a.put o.dst (goInt cs.length)) w') :
    wpList P ops Q (o :: rest) a w := by
  by_cases h0 : cs.length = 0
  · obtain rfl : cs = [] := List.eq_nil_of_length_eq_zero h0
    refine wpList_copy_nothing hgd d s dT sT ho elem hu hsz dp sp dLen dCap sLen sCap hd hs (by simpa using hn.symm) ?_
    exact h w (show _ = _ by simpa using hg) (Turns.refl _ _)
  · obtain ⟨rfl, ad, rfl, hsrc⟩ := hpos (by omega)
    refine wpList_copy_own hgd d s dT sT ho elem hu hsz g off dLen dCap ad sLen sCap hd hs cur t hg cs hn hsrc hfit h1 ?_
    exact h _ (setRow_heap w g _ _ t _ hg) (turns_setRow w g _)
theorem bytesV_rep (n k : Nat) : (bytesV (List.replicate n 0)).drop k = bytesV (List.replicate (n - k) 0) := by unfold bytesV; rw [List.map_replicate, List.map_replicate, List.drop_replicate]
def RD.idV (s : RD) (n : Nat) : List UInt8 := s.takeB n true ++ List.replicate (n - (s.takeB n true).length) 0
def IdP (base rb : Nat) (s : RD) (n : Nat) (w : World) (e : Ending) (w' : World) : Prop := e = .returned (.agg (idA (s.idV n))) ∧ LeftR base rb (s.takeS n true) w w'
theorem RAt.touch {S : Nat → Prop} {w w' : World} {base rb : Nat} {s : RD} (h : RAt w base rb s) (ht : Turns S w w') (hS : ∀ k M t fr, w.heap[k]? = some (.cells M t fr) → (t = 5 ∨ t = 110 ∨ t = 90) → ¬ S k) : RAt w' base rb s := by
  obtain ⟨v, bv, h⟩ := h
  exact ⟨v, bv, ht.keep h.row (hS _ _ _ _ h.row (.inr (.inr rfl))), h.low, h.bytes.touch ht (fun k M fr hk => hS k M _ fr hk (.inl rfl)), h.fault.touch ht (fun k M fr hk => hS k M _ fr hk (.inr (.inl rfl))), h.at1, h.len⟩

def zid : Array Value := idA (List.replicate 32 0)
def zhint : Array Value := idA (List.replicate 16 0)
end Go.Proofs.YtmphajilnkgcaaaDoor.Rdr

namespace Go.Proofs.YtmphajilnkgcaaaDoor.Rdr
open Go.RowKit Go.Mir Go.Mir.Parts

theorem made_id (w : World) (y : List UInt8) (M : Array Value) (t : TypeId) (hM : M.toList = bytesV y) (hy : y.length = 32) : Sl (w.alloc (.cells M t)) (some ⟨w.heap.size, 0, none⟩) 1 1 32 (bytesV y) :=
  ⟨by rw [bytesV_length, hy], Nat.le_refl _, by omega, fun h => (by cases h), fun a ha j u hu => by
    obtain rfl := Option.some.inj ha
    rw [add_none, cell_of_row _ _ _ _ _ _ (heap_alloc_last _ _), ← Array.getElem?_toList, hM, Nat.zero_add]; exact hu⟩
theorem Bs.dropped {w : World} {b o n c : Nat} {l : List UInt8} (h : Bs w (some ⟨b, o, none⟩) n c l) (k : Nat) (hk : k ≤ n) : Bs w (some ⟨b, if c = k then o else o + k, none⟩) (n - k) (c - k) (l.drop k) := by
  have hn := h.length
  have h1 := h.le
  have h2 := h.max
  refine ⟨by rw [bytesV_length, List.length_drop, Nat.mul_one]; omega, by omega, by omega, fun hp => (by cases hp), fun a ha j u hu => ?_⟩
  obtain rfl := Option.some.inj ha
  have hj : j < l.length - k := by
    have := (List.getElem?_eq_some_iff.1 hu).1
    rwa [bytesV_length, List.length_drop] at this
  have h3 : (bytesV l)[k + j]? = some u := by
    simp only [bytesV, List.getElem?_map, List.getElem?_drop] at hu ⊢
    exact hu
  have := h.cell _ rfl (k + j) u h3
  rw [add_none] at this ⊢
  rw [if_neg (by omega), Nat.add_assoc]
  exact this
theorem run_from32 {b o n c : Nat} (hn : 32 ≤ n) (_hc : n ≤ c) (w0 : World) : (Instr.sliceAt 44 (.slice (some ⟨b, o, none⟩) n c) (some (.int .i64 32)) none none).run Tryd.prog w0 = .ok (.slice (some ⟨b, if c = 32 then o else o + 32, none⟩) (n - 32) (c - 32)) w0 := by
  have hsz : (Tryd.prog.info? 5).map (·.size) = some 1 := by kernel_rfl
  obtain ⟨i, hi, hi1⟩ := Option.map_eq_some_iff.1 hsz
  have hb1 : (32 : Int) ≤ (n : Int) := by omega
  simp [Instr.sliceAt, Instr.slice, run_underlying Tryd.underlying44, Instr.sliceBounds, Instr.sliceBound, asIntOf, sizeOf, typeInfo, hi, hi1, hb1]
  by_cases h : c = 32 <;> simp [h, add_none]
theorem run_upto32 {b o n c : Nat} (hn : 32 ≤ n) (hc : n ≤ c) (w0 : World) : (Instr.sliceAt 44 (.slice (some ⟨b, o, none⟩) n c) none (some (.int .i64 32)) none).run Tryd.prog w0 = .ok (.slice (some ⟨b, o, none⟩) 32 c) w0 := by
  have hsz : (Tryd.prog.info? 5).map (·.size) = some 1 := by kernel_rfl
  obtain ⟨i, hi, hi1⟩ := Option.map_eq_some_iff.1 hsz
  have hb1 : (32 : Int) ≤ (c : Int) := by omega
  simp [Instr.sliceAt, Instr.slice, run_underlying Tryd.underlying44, Instr.sliceBounds, Instr.sliceBound, asIntOf, sizeOf, typeInfo, hi, hb1]
  intro _
  rw [add_none, Nat.add_zero]
end Go.Proofs.YtmphajilnkgcaaaDoor.Rdr

namespace Go.Proofs.YtmphajilnkgcaaaDoor.Er
open Go.RowKit Go.Mir Go.Extern.Stop Go.Stop Go.Extern

/-! ### '==' between two errors of one integer type -/
theorem run_equalIn_iface_int {P : Program} (w : World) (d : Nat) {ti tn : TypeId} {ms : Array (String × TypeId)} {i : TypeInfo} {k : IntKind} (a b : Int)
    (hi : P.underlying ti = some (.interface ms)) (hn : P.underlying tn = some (.int k)) (hinfo : P.info? tn = some i) (hcomp : i.comparable = true) :
    (Op.equalIn (d + 2) ti (.iface tn (.int k a)) (.iface tn (.int k b))).run P w = .ok (a == b) w := by
  simp [Op.equalIn, run_underlying hi, run_underlying hn, typeInfo, hinfo, hcomp]
theorem run_eql_iface_int {P : Program} (w : World) {ti tn : TypeId} {ms : Array (String × TypeId)} {i : TypeInfo} {k : IntKind} (a b : Int)
    (hi : P.underlying ti = some (.interface ms)) (hn : P.underlying tn = some (.int k)) (hinfo : P.info? tn = some i) (hcomp : i.comparable = true) :
    (binOp .eql ti (.iface tn (.int k a)) (.iface tn (.int k b))).run P w = .ok (.bool (a == b)) w := by
  simp only [binOp]
  simp [Op.equal, Op.maxDepth, run_equalIn_iface_int w 9998 a b hi hn hinfo hcomp]

/-! ### closed facts: what errors.Is meets -/
theorem isTypeOf (v : Value) (w : World) : (Extern.ReflectliteType.typeOf #[.iface 24 v]).run Tryd.prog w = .ok (.iface 134 (.agg #[.pointer (some ⟨4, 24, none⟩)])) w := by kernel_rfl
def compF : Array Value → Sem Value := Extern.ReflectliteType.method fun t => do Rtype.noPackHeld "Comparable" t; pure (.bool (← typeInfo t).comparable)
theorem isComparable (w : World) : (compF #[.agg #[.pointer (some ⟨4, 24, none⟩)]]).run Tryd.prog w = .ok (.bool true) w := by kernel_rfl
theorem isMethodComparable (v : Value) (w : World) : (Go.method 281 134 v "Comparable").run Tryd.prog w = .ok (114, v) w := by kernel_rfl
theorem isComp : (Tryd.prog.info? 24).map (·.comparable) = some true := by kernel_rfl
theorem noIsF (v : Value) (xT : TypeId) (w : World) : (Instr.typeAssert (.iface 106 v) xT 136 true).run Tryd.prog w = .ok (.tuple #[.nilIface, .bool false]) w := run_typeAssert_lacksB Tryd.underlying136 (by kernel_rfl) (by kernel_rfl) v xT w
theorem hasUnwrapF (v : Value) (xT : TypeId) (w : World) : (Instr.typeAssert (.iface 106 v) xT 139 true).run Tryd.prog w = .ok (.tuple #[.iface 106 v, .bool true]) w := run_typeAssert_hasB Tryd.underlying139 (by kernel_rfl) v xT w
theorem noIsE (v : Value) (xT : TypeId) (w : World) : (Instr.typeAssert (.iface 24 v) xT 136 true).run Tryd.prog w = .ok (.tuple #[.nilIface, .bool false]) w := run_typeAssert_lacksB Tryd.underlying136 (by kernel_rfl) (by kernel_rfl) v xT w
theorem noUnwrapE (v : Value) (xT : TypeId) (w : World) : (Instr.typeAssert (.iface 24 v) xT 139 true).run Tryd.prog w = .ok (.tuple #[.nilIface, .bool false]) w := run_typeAssert_lacksB Tryd.underlying139 (by kernel_rfl) (by kernel_rfl) v xT w
theorem noUnwrapsE (v : Value) (xT : TypeId) (w : World) : (Instr.typeAssert (.iface 24 v) xT 141 true).run Tryd.prog w = .ok (.tuple #[.nilIface, .bool false]) w := run_typeAssert_lacksB Tryd.underlying141 (by kernel_rfl) (by kernel_rfl) v xT w
theorem methodUnwrap (v : Value) (w : World) : (Go.method 281 106 v "Unwrap").run Tryd.prog w = .ok (108, v) w := by kernel_rfl
/-- errors.Is(nil, x) -/
theorem is_nil (z : Int) (w : World) : Calls Tryd.prog 61 #[.nilIface, .iface 24 (.int .i64 z)] w fun e w' => e = .returned (.bool false) ∧ w = w' := by
  have hn := run_eql_iface_nil_left (P := Tryd.prog) w 24 (.int .i64 z) Tryd.underlying85
  go_enter Tryd.func61, Tryd.ntmps61
  go_wp2
  go_ret
  exact ⟨rfl, rfl⟩
/-- errors.Is(f, x), f a fault whose why is e -/
theorem is_fault (fb : Nat) (e z : Int) (w : World) (hc : w.cell? ⟨fb, 1, none⟩ = some (.int .i64 e)) :
    Calls Tryd.prog 61 #[.iface 106 (.pointer (some ⟨fb, 0, none⟩)), .iface 24 (.int .i64 z)] w fun ev w' => ev = .returned (.bool (e == z)) ∧ w = w' := by
  obtain ⟨i, hi, hcmp⟩ := Option.map_eq_some_iff.1 isComp
  have h8 := @run_callFunc_extern Tryd.prog 71 _ Extern.ReflectliteType.typeOf Tryd.func71 (by kernel_rfl) (by kernel_rfl) (by kernel_rfl) (by kernel_rfl)
  have h32 := @run_callFunc_extern Tryd.prog 114 _ compF Tryd.func114 (by kernel_rfl) (by kernel_rfl) (by kernel_rfl) (by kernel_rfl)
  have tT := isTypeOf
  have cT := isComparable
  have mR := isMethodComparable
  have nF := noIsF
  have uF := hasUnwrapF
  have nE := noIsE
  have uE := noUnwrapE
  have vE := noUnwrapsE
  have mU := methodUnwrap
  have heq := run_eql_iface_int (P := Tryd.prog) w e z Tryd.underlying85 Tryd.underlying24 hi hcmp
  have hty := run_eql_iface_types (P := Tryd.prog) 106 24 (.pointer (some ⟨fb, 0, none⟩)) (.int .i64 z) Tryd.underlying85 (by decide) w
  cases hez : e == z with
  | true =>
    rw [hez] at heq
    clear hez
    go_enter Tryd.func61, Tryd.ntmps61
    go_wp2
    refine wp_loop_rounds 2 ?_
    rw [rounds_succ]
    go_wp2
    rw [rounds_succ]
    go_wp2
    go_ret
    exact ⟨rfl, rfl⟩
  | false =>
    rw [hez] at heq
    clear hez
    go_enter Tryd.func61, Tryd.ntmps61
    go_wp2
    refine wp_loop_rounds 2 ?_
    rw [rounds_succ]
    go_wp2
    rw [rounds_succ]
    go_wp2
    go_ret
    exact ⟨rfl, rfl⟩
/-- errors.As(nil, target) -/
theorem as_nil (t : Value) (w : World) : Calls Tryd.prog 62 #[.nilIface, t] w fun e w' => e = .returned (.bool false) ∧ w = w' := by
  go_enter Tryd.func62, Tryd.ntmps62
  go_wp2
  go_ret
  exact ⟨rfl, rfl⟩

theorem valueOf27 (t : Addr) (w : World) : (ReflectliteValue.unpack (.iface 108 (.pointer (some t)))).run Tryd.prog w
    = .ok (.agg #[.pointer (some ⟨4, 108, none⟩), .pointer (some ⟨w.heap.size, 0, none⟩), .int .u64 150]) (w.alloc (.cells #[.pointer (some t)] 108)) := by kernel_rfl
theorem type27 (a : Addr) (w : World) : (ReflectliteValue.methodAny (ReflectliteValue.valueError "reflectlite.Value.Type" 0) (fun t _ _ _ => ReflectliteType.toType t) #[.agg #[.pointer (some ⟨4, 108, none⟩), .pointer (some a), .int .u64 150]]).run Tryd.prog w
    = .ok (.iface 134 (.agg #[.pointer (some ⟨4, 108, none⟩)])) w := by kernel_rfl
theorem methodKind (h : Value) (w : World) : (Go.method 281 134 (.agg #[h]) "Kind").run Tryd.prog w = .ok (100, h) w := by kernel_rfl
theorem kind27 (w : World) : ((ReflectliteType.abiMethod fun t => (fun a : Nat => Value.int IntKind.u8 (a : Int)) <$> Rtype.kind t) #[.pointer (some ⟨4, 108, none⟩)]).run Tryd.prog w = .ok (.int .u8 22) w := by kernel_rfl
theorem kind25 (w : World) : ((ReflectliteType.abiMethod fun t => (fun a : Nat => Value.int IntKind.u8 (a : Int)) <$> Rtype.kind t) #[.pointer (some ⟨4, 106, none⟩)]).run Tryd.prog w = .ok (.int .u8 22) w := by kernel_rfl


theorem rlm (z : Sem Value) (f : TypeId → Addr → Nat → Nat → Sem Value) (v : Value) :
    ReflectliteValue.method z f #[v] = (do match ← ReflectliteValue.parts v with | none => z | some (t, a, fl) => f t a fl (fl % 32)) := rfl
theorem parts27 (a : Addr) (w : World) : (ReflectliteValue.parts (.agg #[.pointer (some ⟨4, 108, none⟩), .pointer (some a), .int .u64 150])).run Tryd.prog w = .ok (some (108, a, 150)) w := by kernel_rfl

theorem isNil27 (a p : Addr) (W : World) (ha : W.cell? a = some (.pointer (some p))) :
    (ReflectliteValue.method (ReflectliteValue.valueError "reflectlite.Value.IsNil" 0) ReflectliteValue.isNil #[.agg #[.pointer (some ⟨4, 108, none⟩), .pointer (some a), .int .u64 150]]).run Tryd.prog W = .ok (.bool false) W := by
  rw [rlm]
  simp only [Sem.run_bind, parts27, Result.andThen]
  simp [ReflectliteValue.isNil, loadVar, isAgg, underlying, Tryd.underlying108, ha, Result.andThen]

theorem methodElem (h : Value) (w : World) : (Go.method 281 134 (.agg #[h]) "Elem").run Tryd.prog w = .ok (115, .agg #[h]) w := by kernel_rfl
theorem methodImplements (h : Value) (w : World) : (Go.method 281 134 (.agg #[h]) "Implements").run Tryd.prog w = .ok (116, .agg #[h]) w := by kernel_rfl
theorem methodAssignableTo (h : Value) (w : World) : (Go.method 281 134 (.agg #[h]) "AssignableTo").run Tryd.prog w = .ok (113, .agg #[h]) w := by kernel_rfl
theorem elem27 (w : World) : (ReflectliteType.method ReflectliteType.elem #[.agg #[.pointer (some ⟨4, 108, none⟩)]]).run Tryd.prog w = .ok (.iface 134 (.agg #[.pointer (some ⟨4, 106, none⟩)])) w := by kernel_rfl
theorem implements25 (w : World) : (ReflectliteType.relation "Implements" ReflectliteType.implements_ #[.agg #[.pointer (some ⟨4, 106, none⟩)], .iface 134 (.agg #[.pointer (some ⟨4, 85, none⟩)])]).run Tryd.prog w = .ok (.bool true) w := by kernel_rfl
theorem typeOf25 (v : Value) (w : World) : (ReflectliteType.typeOf #[.iface 106 v]).run Tryd.prog w = .ok (.iface 134 (.agg #[.pointer (some ⟨4, 106, none⟩)])) w := by kernel_rfl
theorem assignable25 (w : World) : (ReflectliteType.relation "AssignableTo" ReflectliteType.assignableTo #[.agg #[.pointer (some ⟨4, 106, none⟩)], .iface 134 (.agg #[.pointer (some ⟨4, 106, none⟩)])]).run Tryd.prog w = .ok (.bool true) w := by kernel_rfl
theorem valueOf25 (e : Addr) (w : World) : (ReflectliteValue.unpack (.iface 106 (.pointer (some e)))).run Tryd.prog w
    = .ok (.agg #[.pointer (some ⟨4, 106, none⟩), .pointer (some ⟨w.heap.size, 0, none⟩), .int .u64 150]) (w.alloc (.cells #[.pointer (some e)] 106)) := by kernel_rfl

theorem elemOf27 (w : World) : (Rtype.elem? 108).run Tryd.prog w = .ok (some 106) w := by kernel_rfl
theorem mk25 (p : Addr) (w : World) : (ReflectliteValue.mk 106 p ReflectliteValue.flagAddr).run Tryd.prog w = .ok (.agg #[.pointer (some ⟨4, 106, none⟩), .pointer (some p), .int .u64 406]) w := by kernel_rfl

theorem elemV27 (a p : Addr) (W : World) (ha : W.cell? a = some (.pointer (some p))) :
    (ReflectliteValue.method (ReflectliteValue.valueError "reflectlite.Value.Elem" 0) ReflectliteValue.elem #[.agg #[.pointer (some ⟨4, 108, none⟩), .pointer (some a), .int .u64 150]]).run Tryd.prog W
      = .ok (.agg #[.pointer (some ⟨4, 106, none⟩), .pointer (some p), .int .u64 406]) W := by
  rw [rlm]
  simp only [Sem.run_bind, parts27, Result.andThen]
  simp [ReflectliteValue.elem, loadVar, isAgg, underlying, Tryd.underlying108, ha, Result.andThen, elemOf27, mk25]
theorem rls (v x : Value) : ReflectliteValue.set #[v, x] = (do
    let (some (dst, a, fl), some (src, b, _)) := (← ReflectliteValue.parts v, ← ReflectliteValue.parts x)
      | unsupported (.noEntry "extern/(internal/reflectlite.Value).Set.zeroValue")
    if fl / ReflectliteValue.flagAddr % 2 == 0 then unsupported (.noEntry "extern/(internal/reflectlite.Value).Set.unaddressable")
    let val ← loadVar src b
    if ← Rtype.directlyAssignable dst src then storeVar dst a val
    else if ← Rtype.implements dst src then
      if (← Rtype.kind src) == 20 then
        match val with
        | .nilIface => unsupported (.noEntry "extern/reflectlite: a nil value of one interface type handed on as a value of another")
        | _ => storeVar dst a val
      else storeVar dst a (.iface src val)
    else panicString ("reflectlite.Set: value of type " ++ (← Rtype.spelt src) ++ " is not assignable to type " ++ (← Rtype.spelt dst))
    pure (.tuple #[])) := rfl
theorem parts25a (a : Addr) (w : World) : (ReflectliteValue.parts (.agg #[.pointer (some ⟨4, 106, none⟩), .pointer (some a), .int .u64 406])).run Tryd.prog w = .ok (some (106, a, 406)) w := by kernel_rfl
theorem parts25 (a : Addr) (w : World) : (ReflectliteValue.parts (.agg #[.pointer (some ⟨4, 106, none⟩), .pointer (some a), .int .u64 150])).run Tryd.prog w = .ok (some (106, a, 150)) w := by kernel_rfl
theorem direct25 (w : World) : (Rtype.directlyAssignable 106 106).run Tryd.prog w = .ok true w := by kernel_rfl
theorem size25 (w : World) : (sizeOf 106).run Tryd.prog w = .ok 1 w := by kernel_rfl

theorem set25 (ta b e : Addr) (old : Value) (W : World) (hb : W.cell? b = some (.pointer (some e))) (ht : W.cell? ta = some old) (hf : W.frozen? ta = false) :
    (ReflectliteValue.set #[.agg #[.pointer (some ⟨4, 106, none⟩), .pointer (some ta), .int .u64 406], .agg #[.pointer (some ⟨4, 106, none⟩), .pointer (some b), .int .u64 150]]).run Tryd.prog W
      = .ok (.tuple #[]) (W.setCell ta (.pointer (some e))) := by
  rw [rls]
  simp only [Sem.run_bind, parts25a, parts25, Result.andThen]
  simp [ReflectliteValue.flagAddr, loadVar, isAgg, underlying, Tryd.underlying106, hb, Result.andThen, direct25, storeVar, Value.cells, storeCells, Addr.add]
  rw [run_store Tryd.prog W ta _ _ (by rfl)]
  simp [ht, hf]

set_option maxHeartbeats 4000000 in
theorem as_hit (e t : Addr) (old : Value) (w : World) (hg : w.cell? ⟨0, 0, none⟩ = some (.iface 134 (.agg #[.pointer (some ⟨4, 85, none⟩)]))) (ht0 : w.cell? t = some old) (hf0 : w.frozen? t = false) :
    Calls Tryd.prog 62 #[.iface 106 (.pointer (some e)), .iface 108 (.pointer (some t))] w fun ev w' => ev = .returned (.bool true) ∧ w' = ((((w.alloc (.cells #[.pointer (some t)] 108)).alloc (.cells #[.pointer (some ⟨4, 108, none⟩), .pointer (some ⟨w.heap.size, 0, none⟩), .int .u64 150] 125)).alloc (.cells #[.pointer (some ⟨4, 108, none⟩), .pointer (some ⟨w.heap.size, 0, none⟩), .int .u64 150] 125)).alloc (.cells #[.pointer (some e)] 106)).setCell t (.pointer (some e)) := by
  have h6 := @run_callFunc_extern Tryd.prog 73 _ (fun args => ReflectliteValue.unpack (args.getD 0 (.tuple #[]))) Tryd.func73 (by kernel_rfl) (by kernel_rfl) (by kernel_rfl) (by kernel_rfl)
  have h7 := @run_callFunc_extern Tryd.prog 74 _ (ReflectliteValue.methodAny (ReflectliteValue.valueError "reflectlite.Value.Type" 0) (fun t _ _ _ => ReflectliteType.toType t)) Tryd.func74 (by kernel_rfl) (by kernel_rfl) (by kernel_rfl) (by kernel_rfl)
  have h8 := @run_callFunc_extern Tryd.prog 75 _ (ReflectliteValue.method (ReflectliteValue.valueError "reflectlite.Value.IsNil" 0) ReflectliteValue.isNil) Tryd.func75 (by kernel_rfl) (by kernel_rfl) (by kernel_rfl) (by kernel_rfl)
  have h27 := @run_callFunc_extern Tryd.prog 100 _ (ReflectliteType.abiMethod fun t => do pure (.int .u8 (← Rtype.kind t))) Tryd.func100 (by kernel_rfl) (by kernel_rfl) (by kernel_rfl) (by kernel_rfl)
  have h37 := @run_callFunc_extern Tryd.prog 115 _ (ReflectliteType.method ReflectliteType.elem) Tryd.func115 (by kernel_rfl) (by kernel_rfl) (by kernel_rfl) (by kernel_rfl)
  have h38 := @run_callFunc_extern Tryd.prog 116 _ (ReflectliteType.relation "Implements" ReflectliteType.implements_) Tryd.func116 (by kernel_rfl) (by kernel_rfl) (by kernel_rfl) (by kernel_rfl)
  have h10 := @run_callFunc_extern Tryd.prog 71 _ ReflectliteType.typeOf Tryd.func71 (by kernel_rfl) (by kernel_rfl) (by kernel_rfl) (by kernel_rfl)
  have h35 := @run_callFunc_extern Tryd.prog 113 _ (ReflectliteType.relation "AssignableTo" ReflectliteType.assignableTo) Tryd.func113 (by kernel_rfl) (by kernel_rfl) (by kernel_rfl) (by kernel_rfl)
  have h11 := @run_callFunc_extern Tryd.prog 82 _ (ReflectliteValue.method (ReflectliteValue.valueError "reflectlite.Value.Elem" 0) ReflectliteValue.elem) Tryd.func82 (by kernel_rfl) (by kernel_rfl) (by kernel_rfl) (by kernel_rfl)
  have h12 := @run_callFunc_extern Tryd.prog 83 _ ReflectliteValue.set Tryd.func83 (by kernel_rfl) (by kernel_rfl) (by kernel_rfl) (by kernel_rfl)
  have tO := typeOf25
  have mA := methodAssignableTo
  have a25 := assignable25
  have v25 := valueOf25
  have f6 := valueOf27
  have f7 := type27
  have mK := methodKind
  have mE := methodElem
  have mI := methodImplements
  have k27 := kind27
  have k25 := kind25
  have e27 := elem27
  have i25 := implements25
  have n8 := isNil27 ⟨w.heap.size, 0, none⟩ t ((w.alloc (.cells #[.pointer (some t)] 108)).alloc (.cells #[.pointer (some ⟨4, 108, none⟩), .pointer (some ⟨w.heap.size, 0, none⟩), .int .u64 150] 125)) (by simp)
  have hlt : 0 < w.heap.size := by
    rcases Nat.eq_zero_or_pos w.heap.size with h0 | h
    · simp [World.cell?, h0] at hg
    · exact h
  have hg2 : ((w.alloc (.cells #[.pointer (some t)] 108)).alloc (.cells #[.pointer (some ⟨4, 108, none⟩), .pointer (some ⟨w.heap.size, 0, none⟩), .int .u64 150] 125)).cell? ⟨0, 0, none⟩ = some (.iface 134 (.agg #[.pointer (some ⟨4, 85, none⟩)])) := by
    rw [World.cell?_alloc_lt _ _ ⟨0, 0, none⟩ (by simp), World.cell?_alloc_lt _ _ ⟨0, 0, none⟩ hlt]; exact hg
  have htl : t.block < w.heap.size := by
    rcases Nat.lt_or_ge t.block w.heap.size with h | h
    · exact h
    · simp [World.cell?, Array.getElem?_eq_none h] at ht0
  have el := elemV27 ⟨w.heap.size, 0, none⟩ t (((w.alloc (.cells #[.pointer (some t)] 108)).alloc (.cells #[.pointer (some ⟨4, 108, none⟩), .pointer (some ⟨w.heap.size, 0, none⟩), .int .u64 150] 125)).alloc (.cells #[.pointer (some ⟨4, 108, none⟩), .pointer (some ⟨w.heap.size, 0, none⟩), .int .u64 150] 125)) (by rw [World.cell?_alloc_lt _ _ ⟨w.heap.size, 0, none⟩ (by simp; omega)]; simp)
  have st := set25 t ⟨w.heap.size + 1 + 1 + 1, 0, none⟩ e old ((((w.alloc (.cells #[.pointer (some t)] 108)).alloc (.cells #[.pointer (some ⟨4, 108, none⟩), .pointer (some ⟨w.heap.size, 0, none⟩), .int .u64 150] 125)).alloc (.cells #[.pointer (some ⟨4, 108, none⟩), .pointer (some ⟨w.heap.size, 0, none⟩), .int .u64 150] 125)).alloc (.cells #[.pointer (some e)] 106))
    (by rw [World.cell?_alloc_at _ _ _ _ (by simp)]; rfl)
    (by rw [World.cell?_alloc_lt _ _ t (by simp; omega), World.cell?_alloc_lt _ _ t (by simp; omega), World.cell?_alloc_lt _ _ t (by simp; omega), World.cell?_alloc_lt _ _ t htl]; exact ht0)
    (by rw [World.frozen?_alloc_old _ _ t (by simp; omega), World.frozen?_alloc_old _ _ t (by simp; omega), World.frozen?_alloc_old _ _ t (by simp; omega), World.frozen?_alloc_old _ _ t (Nat.ne_of_lt htl)]; exact hf0)
  go_enter Tryd.func62, Tryd.ntmps62
  go_wp2
  refine wp_loop_rounds 1 ?_
  rw [rounds_succ]
  go_wp2
  go_ret
  exact ⟨rfl, rfl⟩
end Go.Proofs.YtmphajilnkgcaaaDoor.Er
