/- LAYER 19: FrameReads: the first frame of any bytes, and all of them. Conditions: the laid cell of errors.errorType. -/
import Derived.Test.YtjbjlmdfgpoadaaDoorFrmA
import Derived.Test.YtjbjlmdfgpoadaaDoorRange2
namespace Go.Proofs.YtjbjlmdfgpoadaaDoor.Frm
open Go.RowKit Go.Mir Go.Mir.Parts Go.Shelf Wr Cod Cut Rdr
attribute [local go_sem] Oper.semAt_some

theorem below2 (w : World) (o1 o2 : Obj) : Below w.heap.size w ((w.alloc o1).alloc o2) := ((Below.refl _ w).alloc (Nat.le_refl _) _).alloc (by simp) _
theorem Boxed.low {w w' : World} {B : Nat} {t : TypeId} {v : Value} (h : Boxed w B t v) (hb : Below w.heap.size w w') : Boxed w' B t v := Below.keepOld hb h
theorem pts_kept {w w' : World} {p : Option Addr} {n c : Nat} {ls : List (List UInt8)} (h : Pts w p n c ls) {row : Option Nat} (hg : w.grownBy w' row) (hr : ∀ r, row = some r → ∃ o : Obj, w.heap[r]? = some o ∧ o.isCells = false) : Pts w' p n c ls :=
  ⟨h.len, h.le, h.max, h.nil0, fun a ha j hj => by
    obtain ⟨q, m, k, h1, h2⟩ := h.cell a ha j hj
    exact ⟨q, m, k, cell_kept h1 hg hr, sl_kept h2 hg hr⟩⟩
structure RB (w : World) (k : Nat) (LS : List (List UInt8)) (pv : Option Addr) (cv bl : Nat) (W : World) : Prop where
  most : Boxed W w.heap.size 5 (.int .u8 (k : Int))
  res : Boxed W (w.heap.size + 1) 4 (.bool false)
  lbx : Boxed W bl 32 (.slice pv LS.length cv)
  low : Below w.heap.size w W
theorem RB.kept {w : World} {k : Nat} {LS : List (List UInt8)} {pv : Option Addr} {cv bl B : Nat} {W W' : World} (h : RB w k LS pv cv bl W) (hB : w.heap.size ≤ B) {row : Option Nat} (hg : W.grownBy W' row) (hr : ∀ r, row = some r → B ≤ r ∧ ∃ o : Obj, W.heap[r]? = some o ∧ o.isCells = false) : RB w k LS pv cv bl W' :=
  have hr' : ∀ r, row = some r → ∃ o : Obj, W.heap[r]? = some o ∧ o.isCells = false := fun r e => (hr r e).2
  ⟨boxed_kept h.most hg hr', boxed_kept h.res hg hr', boxed_kept h.lbx hg hr', h.low.grown hg h.low.size (fun k e => by have := (hr k e).1; omega)⟩
structure RI (w : World) (k : Nat) (LS : List (List UInt8)) (pv : Option Addr) (cv bl bc : Nat) (pre : List FX) (W : World) : Prop where
  rb : RB w k LS pv cv bl W
  atb : Boxed W (bc + 1) 3 (.int .i64 (sumF (bodies pre) : Nat))
  ib : Boxed W (bc + 1 + 1) 3 (.int .i64 (pre.length : Int))
  pts : Pts W pv LS.length cv LS
  le : pre.length ≤ k
theorem ri_own (w : World) (k : Nat) (LS : List (List UInt8)) (pv : Option Addr) (cv bl bc B : Nat) (hB : w.heap.size ≤ B) : OwnFrom B (RI w k LS pv cv bl bc) := fun s A C row hs hg hr =>
  have hr' : ∀ r, row = some r → ∃ o : Obj, A.heap[r]? = some o ∧ o.isCells = false := fun r e => (hr r e).2
  ⟨hs.rb.kept hB hg hr, boxed_kept hs.atb hg hr', boxed_kept hs.ib hg hr', pts_kept hs.pts hg hr', hs.le⟩
def RX (w : World) (k : Nat) (LS : List (List UInt8)) (pv : Option Addr) (cv bl bc : Nat) (c : Code) (_ : List FX) (W : World) : Prop := c = .exit 0 ∧ RB w k LS pv cv bl W ∧ Boxed W (bc + 1 + 1) 3 (.int .i64 (k : Int)) ∧ k ≤ LS.length
theorem rx_own (w : World) (k : Nat) (LS : List (List UInt8)) (pv : Option Addr) (cv bl bc B : Nat) (hB : w.heap.size ≤ B) (c : Code) : OwnFrom B (RX w k LS pv cv bl bc c) := fun s A C row hs hg hr =>
  ⟨hs.1, hs.2.1.kept hB hg hr, boxed_kept hs.2.2.1 hg (fun r e => (hr r e).2), hs.2.2.2⟩
theorem at_next {l : List UInt8} {pre : List (List UInt8)} {k : Nat} (h : At l pre k) (ho : (one (l.drop k)).2.2 = 0) : pre.length < (scan l).1.length ∧ (scan l).1[pre.length]? = some (one (l.drop k)).1 := by
  have h3 := h.2.2
  rw [scan_ok ho] at h3
  rw [h3]
  refine ⟨by simp, ?_⟩
  rw [List.getElem?_append_right (Nat.le_refl _), Nat.sub_self]
  rfl
theorem box_apart {W : World} {B : Nat} {t : TypeId} {v u : Value} {a : Addr} (hb : Boxed W B t v) (hc : W.cell? a = some u) (hne : u ≠ v) : ¬ a.block = B := fun e => by
  have hs := cell_spot hc
  rw [hs, e] at hc
  rw [cell_of_row _ _ _ _ _ _ hb] at hc
  cases ho : a.off with
  | zero => rw [ho] at hc; simp at hc; exact hne hc.symm
  | succ k => rw [ho] at hc; simp at hc
theorem cell_set_apart {W : World} {B : Nat} {t : TypeId} {v u v' : Value} {a : Addr} (hb : Boxed W B t v) (hc : W.cell? a = some u) (hne : u ≠ v) : (W.setCell ⟨B, 0, none⟩ v').cell? a = some u :=
  ((Turns.refl (fun i => i = B) W).setCell (p := ⟨B, 0, none⟩) (fun _ => rfl) v').cell hc (box_apart hb hc hne)
theorem pts_set {W : World} {B : Nat} {t : TypeId} {z : Int} {v' : Value} {p : Option Addr} {n c : Nat} {ls : List (List UInt8)} (h : Pts W p n c ls) (hb : Boxed W B t (.int .i64 z)) : Pts (W.setCell ⟨B, 0, none⟩ v') p n c ls :=
  ⟨h.len, h.le, h.max, h.nil0, fun a ha j hj => by
    obtain ⟨q, m, k, h1, h2⟩ := h.cell a ha j hj
    exact ⟨q, m, k, cell_set_apart hb h1 (by simp), ⟨h2.len, h2.le, h2.max, h2.nil0, fun a' ha' i u hu => cell_set_apart hb (h2.cell a' ha' i u hu) (by
      simp only [bytesV, List.getElem?_map, Option.map_eq_some_iff] at hu
      obtain ⟨y, _, rfl⟩ := hu
      simp)⟩⟩⟩
theorem fn_nil (bc : Nat) (w : World) : (binOp BinOp.eql 37 (.func (.func 30) #[] #[.pointer (some ⟨bc, 0, none⟩)]) .nilFunc).run Tryd.prog w = .ok (.bool false) w := by kernel_rfl
set_option maxRecDepth 100000 in
set_option maxHeartbeats 4000000 in
theorem law_freads (p : Option Addr) (n c : Nat) (l : List UInt8) (k : Nat) (hk : k < 256) (w : World) (hE : EType w) (hB : Bs w p n c l) :
    Calls Tryd.prog 4 #[.slice p n c, .int .u8 (k : Int)] w fun e w' => e = .returned (.bool true) ∧ Below w.heap.size w w' := by
  have HE := Lib.hid hE
  have HB := Lib.hid hB
  have HN := Lib.hid hB.length
  have hle := hB.le
  have hmax := hB.max
  have HPB := Lib.hid (bs_block hB)
  clear hE hB
  refine (callsIn_wide (n := 9)).1 ?_
  refine callsIn_of_wp_marks Tryd.func4 rfl trivial ?_ rfl
  simp only [Tryd.ntmps4, List.size_toArray, List.length_cons, List.length_nil, Nat.reduceAdd, Nat.reduceSub, Array.replicate_succ, Array.replicate_zero, List.push_toArray, List.append_toArray, List.nil_append, List.cons_append]
  refine wpIn_wide.2 ?_
  have hb2 := below2 w (.cells #[.int .u8 (k : Int)] 5) (.cells #[.bool false] 4)
  have b3 := (Boxed.new w 5 (.int .u8 (k : Int))).alloc (.cells #[.bool false] 4)
  have b4 := Boxed.new (w.alloc (.cells #[.int .u8 (k : Int)] 5)) 4 (.bool false)
  rw [World.size_alloc] at b4
  by_cases hbig : 2000 < n
  · have hd : decide ((2000 : Int) < (n : Int)) = true := decide_eq_true (by omega)
    go_upto_region 2 with fail
    generalize (w.alloc (.cells #[.int .u8 (k : Int)] 5)).alloc (.cells #[.bool false] 4) = w2 at *
    have HE2 := Lib.hid (HE.out.below hb2 HE.out.lt)
    have HB2 := Lib.hid hb2
    clear hb2 b3
    go_wp2_with fail
    refine (alive19_any _ HE2.out).mono ?_
    rintro e w9 ⟨rfl, hb9⟩
    have b9 := Boxed.low b4 hb9
    have hc := b9.cell
    have hf := b9.frozen
    have hbw := (HB2.out.trans (hb9.mono HB2.out.size)).setCell (p := ⟨w.heap.size + 1, 0, none⟩) (by simp) (.bool true)
    have HBW := Lib.hid hbw
    have HC9 := Lib.hid (b9.set (.bool true)).cell
    clear hb9 b4 b9 hbw
    go_wp2_with fail
    refine ⟨_, ?_, rfl, HBW.out⟩
    have hcc := HC9.out
    simp [results, Tryd.f4, go_sem, hcc]
  have hd : decide ((2000 : Int) < (n : Int)) = false := decide_eq_false (by omega)
  go_upto_region 3 with fail
  generalize (w.alloc (.cells #[.int .u8 (k : Int)] 5)).alloc (.cells #[.bool false] 4) = w2 at *
  have HK : Hid (Boxed w2 w.heap.size 5 (.int .u8 (k : Int)) ∧ Boxed w2 (w.heap.size + 1) 4 (.bool false) ∧ Below w.heap.size w w2) := ⟨b3, b4, hb2⟩
  have H1 := Lib.hid (one_any p n c l w2 (HE.out.below hb2 HE.out.lt) (HB.out.below hb2) (by omega))
  have H2 := Lib.hid (fun w' (hb : Below w.heap.size w w') => rone_any p n c l w' (HB.out.below hb) (by omega))
  have H3 := Lib.hid (fun w' (hb : Below w.heap.size w w') => scan_any p n c l w' (HE.out.below hb HE.out.lt) (HB.out.below hb) (bs_block (HB.out.below hb)) (by omega))
  have H4 := Lib.hid (fun w' (hb : Below w.heap.size w w') => rscan_any p n c l w' (HB.out.below hb) (by omega))
  unfold OneP at H1 H2
  obtain ⟨B, m, ev, hoe⟩ : ∃ B m ev, one l = (B, m, ev) := ⟨_, _, _, rfl⟩
  rw [hoe] at H1 H2
  obtain ⟨LS, EN, hsc⟩ : ∃ LS EN, scan l = (LS, EN) := ⟨_, _, rfl⟩
  unfold ScanP at H3
  unfold RScanP at H4
  rw [hsc] at H3 H4
  have HSC := Lib.hid hsc
  clear hb2 b3 b4 hoe hsc
  go_wp2_with fail
  refine H1.out.mono ?_
  rintro e w3 ⟨p5, c5, rfl, ho5, hb3⟩
  have HS5 := Lib.hid (own_bs ho5)
  have HK3 : Hid (Boxed w3 w.heap.size 5 (.int .u8 (k : Int)) ∧ Boxed w3 (w.heap.size + 1) 4 (.bool false) ∧ Below w.heap.size w w3) := ⟨Boxed.low HK.out.1 hb3, Boxed.low HK.out.2.1 hb3, HK.out.2.2.trans (hb3.mono HK.out.2.2.size)⟩
  clear ho5 hb3 H1 HK
  go_wp2_with fail
  refine (H2.out _ HK3.out.2.2).mono ?_
  rintro e w4 ⟨p8, c8, rfl, ho8, hb4⟩
  have HS8 := Lib.hid (own_bs ho8)
  have HS54 := Lib.hid (HS5.out.below hb4)
  have HK4 : Hid (Boxed w4 w.heap.size 5 (.int .u8 (k : Int)) ∧ Boxed w4 (w.heap.size + 1) 4 (.bool false) ∧ Below w.heap.size w w4) := ⟨Boxed.low HK3.out.1 hb4, Boxed.low HK3.out.2.1 hb4, HK3.out.2.2.trans (hb4.mono HK3.out.2.2.size)⟩
  clear ho8 hb4 H2 HK3 HS5
  go_wp2_with fail
  refine (H3.out _ HK4.out.2.2).mono ?_
  rintro e w5 ⟨v, rfl, hls, hb5⟩
  obtain ⟨pv, cv, rfl, hpv⟩ := hls.sl
  have HPV5 := Lib.hid hpv
  have HS55 := Lib.hid (HS54.out.below hb5)
  have HS85 := Lib.hid (HS8.out.below hb5)
  have HK5 : Hid (Boxed w5 w.heap.size 5 (.int .u8 (k : Int)) ∧ Boxed w5 (w.heap.size + 1) 4 (.bool false) ∧ Below w.heap.size w w5) := ⟨Boxed.low HK4.out.1 hb5, Boxed.low HK4.out.2.1 hb5, HK4.out.2.2.trans (hb5.mono HK4.out.2.2.size)⟩
  clear hls hb5 hpv H3 HK4 HS54 HS8
  obtain ⟨bl, hbl⟩ : ∃ bl, w5.heap.size = bl := ⟨_, rfl⟩
  dsimp only
  go_upto_region 6 with fail
  have hb6 : Below w5.heap.size w5 (w5.alloc (.cells #[.slice pv LS.length cv] 32)) := Below.allocs _ _
  have b11 := Boxed.new w5 32 (.slice pv LS.length cv)
  rw [hbl] at b11
  have HS56 := Lib.hid (HS55.out.below hb6)
  have HS86 := Lib.hid (HS85.out.below hb6)
  have HPV6 := Lib.hid (HPV5.out.below hb6)
  have HK6 : Hid (Boxed (w5.alloc (.cells #[.slice pv LS.length cv] 32)) w.heap.size 5 (.int .u8 (k : Int)) ∧ Boxed (w5.alloc (.cells #[.slice pv LS.length cv] 32)) (w.heap.size + 1) 4 (.bool false) ∧ Below w.heap.size w (w5.alloc (.cells #[.slice pv LS.length cv] 32))) := ⟨Boxed.low HK5.out.1 hb6, Boxed.low HK5.out.2.1 hb6, HK5.out.2.2.trans (hb6.mono HK5.out.2.2.size)⟩
  have hblw : w.heap.size + 2 ≤ bl := by rw [← hbl]; have := HK5.out.2.1.lt; omega
  generalize w5.alloc (.cells #[.slice pv LS.length cv] 32) = w6 at *
  clear hb6 HS55 HS85 HPV5 HK5 hbl
  have HB11 := Lib.hid b11
  clear b11
  go_wp2_with fail
  refine (H4.out _ HK6.out.2.2).mono ?_
  rintro e w7 ⟨v13, rfl, hls, hb7⟩
  obtain ⟨p13, c13, rfl, h13⟩ := hls.sl
  have HP13 := Lib.hid h13
  have HP7 := Lib.hid (HPV6.out.below hb7)
  have HK7 : Hid (Boxed w7 w.heap.size 5 (.int .u8 (k : Int)) ∧ Boxed w7 (w.heap.size + 1) 4 (.bool false) ∧ Below w.heap.size w w7 ∧ Boxed w7 bl 32 (.slice pv LS.length cv)) := ⟨Boxed.low HK6.out.1 hb7, Boxed.low HK6.out.2.1 hb7, HK6.out.2.2.trans (hb7.mono HK6.out.2.2.size), Boxed.low HB11.out hb7⟩
  have hc1 := bconv (HS56.out.below hb7)
  have hc2 := bconv (HS86.out.below hb7)
  clear hls hb7 h13 H4 HK6 HS56 HS86 HPV6 HB11
  have hcl := HK7.out.2.2.2.cell
  dsimp only
  go_wp2_with fail
  refine (same_any _ _ _ _ _ _ _ _ _ HP7.out HP13.out).mono ?_
  rintro e w8 ⟨rfl, hb8⟩
  rw [show (LS == LS) = true by rw [beq_iff_eq]]
  have HP8 := Lib.hid (HP7.out.below hb8)
  have HK8 : Hid (Boxed w8 w.heap.size 5 (.int .u8 (k : Int)) ∧ Boxed w8 (w.heap.size + 1) 4 (.bool false) ∧ Below w.heap.size w w8 ∧ Boxed w8 bl 32 (.slice pv LS.length cv)) := ⟨Boxed.low HK7.out.1 hb8, Boxed.low HK7.out.2.1 hb8, HK7.out.2.2.1.trans (hb8.mono HK7.out.2.2.1.size), Boxed.low HK7.out.2.2.2 hb8⟩
  clear hc1 hc2 hcl hb8 HK7 HP7 HP13
  go_wp2_with fail
  refine (all_any p n c w8).mono ?_
  rintro e w9 ⟨rfl, rfl⟩
  have hb9 : Below w8.heap.size w8 (w8.alloc (.cells #[.slice p n c] 22)) := Below.allocs _ _
  have bC := Boxed.new w8 22 (.slice p n c)
  have hbl8 := HK8.out.2.2.2.lt
  obtain ⟨bc, hbc⟩ : ∃ bc, w8.heap.size = bc := ⟨_, rfl⟩
  have hs9 : (w8.alloc (.cells #[.slice p n c] 22)).heap.size = bc + 1 := by simp [hbc]
  rw [hbc] at bC hbl8
  have HP9 := Lib.hid (HP8.out.below hb9)
  have HK9 : Hid (Boxed (w8.alloc (.cells #[.slice p n c] 22)) w.heap.size 5 (.int .u8 (k : Int)) ∧ Boxed (w8.alloc (.cells #[.slice p n c] 22)) (w.heap.size + 1) 4 (.bool false) ∧ Below w.heap.size w (w8.alloc (.cells #[.slice p n c] 22)) ∧ Boxed (w8.alloc (.cells #[.slice p n c] 22)) bl 32 (.slice pv LS.length cv) ∧ Boxed (w8.alloc (.cells #[.slice p n c] 22)) bc 22 (.slice p n c)) := ⟨Boxed.low HK8.out.1 hb9, Boxed.low HK8.out.2.1 hb9, HK8.out.2.2.1.trans (hb9.mono HK8.out.2.2.1.size), Boxed.low HK8.out.2.2.2 hb9, bC⟩
  generalize w8.alloc (.cells #[.slice p n c] 22) = w9 at *
  clear bC hb9 HK8 HP8
  have hfn := fn_nil bc w9
  go_upto_region 13 with fail
  have hb0 := below2 w9 (.cells #[.int .i64 0] 3) (.cells #[.int .i64 0] 3)
  have bA := (Boxed.new w9 3 (.int .i64 0)).alloc (.cells #[.int .i64 0] 3)
  have bI := Boxed.new (w9.alloc (.cells #[.int .i64 0] 3)) 3 (.int .i64 0)
  have hs0 : ((w9.alloc (.cells #[.int .i64 0] 3)).alloc (.cells #[.int .i64 0] 3)).heap.size = bc + 3 := by simp [hs9]
  rw [World.size_alloc, hs9] at bI
  rw [hs9] at bA
  generalize (w9.alloc (.cells #[.int .i64 0] 3)).alloc (.cells #[.int .i64 0] 3) = W0 at *
  have hRI : RI w k LS pv cv bl bc [] W0 := ⟨⟨Boxed.low HK9.out.1 hb0, Boxed.low HK9.out.2.1 hb0, Boxed.low HK9.out.2.2.2.1 hb0, HK9.out.2.2.1.trans (hb0.mono HK9.out.2.2.1.size)⟩, bA, bI, HP9.out.below hb0, by simp⟩
  have bN := Boxed.low HK9.out.2.2.2.2 hb0
  have HRI := Lib.hid hRI
  have HSZ := Lib.hid hs0
  have hseq := all1_seq 8 (by omega) bc w.heap.size w.heap.size p n c l W0 (HE.out.below hRI.rb.low HE.out.lt) HE.out.lt hRI.rb.low.size bN.cell (fun W' ht => bs_touch (HB.out.below hRI.rb.low) ht (fun h0 a ha h => by have := HPB.out h0 a ha; have := h.1; omega)) (by omega)
  have HSEQ := Lib.hid hseq
  have hwbc : w.heap.size + 2 ≤ bc := by omega
  clear hb0 bA bI hs0 hRI bN hseq HK9 HP9 hfn hs9 hbc
  go_wp2_with fail
  refine (wpIn_wide (n := 9)).1 ?_
  refine rangeS (by omega) rfl (enters_of Tryd.func30 (by kernel_rfl) rfl) HSEQ.out (fun k hk => ⟨by have := HSZ.out; omega, by have := HSZ.out; omega⟩) (Below.refl _ _) (fun _ => rfl) (fg_own l _ _) (RI w k LS pv cv bl bc) (RX w k LS pv cv bl bc) (ri_own w k LS pv cv bl bc _ (by have := HSZ.out; omega)) (rx_own w k LS pv cv bl bc _ (by have := HSZ.out; omega)) HRI.out
    (fun x => [(77, .int .i64 (x.at_ : Int)), (78, .slice x.p x.body.length x.c), (18, .int .i64 (x.at_ : Int)), (19, .slice x.p x.body.length x.c)]) ?assign ?body ?done ?stop
  case assign =>
    intro L x W K hK
    unfold FX.enc
    simp only [setAll, List.foldl_cons, List.foldl_nil, List.setIfInBounds_toArray, List.set_cons_zero, List.set_cons_succ] at hK
    gi_wp2
    exact hK
  case body =>
    rintro L pre x W hRI ⟨⟨g1, g2, g3⟩, g4⟩
    simp only [setAll, List.foldl_cons, List.foldl_nil, List.setIfInBounds_toArray, List.set_cons_zero, List.set_cons_succ]
    have HRI1 := Lib.hid hRI
    have c3 := hRI.rb.most.cell
    have c11 := hRI.rb.lbx.cell
    have c16 := hRI.atb.cell
    have c17 := hRI.ib.cell
    have hkw : IntKind.i64.wrap (k : Int) = (k : Int) := by rw [IntWalk.i64_in _ (by omega)]
    have hnx := at_next g1 g2
    rw [HSC.out, ← g3] at hnx
    dsimp only at hnx
    have hbl : (bodies pre).length = pre.length := by simp [bodies]
    rw [hbl] at hnx
    have hat := g1.2.1.2
    have hle := hRI.le
    have HG4 := Lib.hid g4
    have HNX := Lib.hid hnx
    have hn1 := hnx.1
    have hAd : ((x.at_ : Int) != ((sumF (bodies pre) : Nat) : Int)) = false := by rw [hat, bne_eq_false_iff_eq]
    have HAT := Lib.hid hat
    have hatl : x.at_ ≤ 2000 := by have := g1.1; rw [HN.out] at this; omega
    have hok := one_ok g2
    rw [← g3, List.length_drop, HN.out] at hok
    have hxbl : x.body.length ≤ 2000 := by omega
    clear hRI g4 hbl g1 g2 g3 hat hok
    by_cases hbrk : pre.length < k
    · have e1 : decide ((k : Int) ≤ (pre.length : Int)) = false := decide_eq_false (by omega)
      have e2 : decide (k ≤ pre.length) = false := decide_eq_false (by omega)
      obtain ⟨b, o, hpv⟩ := HRI1.out.pts.addr (by omega)
      obtain ⟨q, m2, d2, hq, hbq⟩ := HRI1.out.pts.cell _ hpv pre.length hn1
      rw [add_none] at hq
      have hxb : LS[pre.length]'hn1 = x.body := by have := HNX.out.2; rw [List.getElem?_eq_getElem hn1] at this; exact Option.some.inj this
      rw [hxb] at hbq
      have e3 : decide ((LS.length : Int) ≤ (pre.length : Int)) = false := decide_eq_false (by omega)
      have e4 : decide (LS.length ≤ pre.length) = false := decide_eq_false (by omega)
      have HC17 : Hid (∀ w', Below W.heap.size W w' → w'.cell? ⟨bc + 1 + 1, 0, none⟩ = some (.int .i64 (pre.length : Int))) := fun w' hb => cell_below c17 hb
      have HC16 : Hid (∀ w', Below W.heap.size W w' → w'.cell? ⟨bc + 1, 0, none⟩ = some (.int .i64 ((sumF (bodies pre) : Nat) : Int))) := fun w' hb => cell_below c16 hb
      have HC11 : Hid (∀ w', Below W.heap.size W w' → w'.cell? ⟨bl, 0, none⟩ = some (.slice pv LS.length cv)) := fun w' hb => cell_below c11 hb
      have HCQ : Hid (∀ w', Below W.heap.size W w' → w'.cell? ⟨b, o + pre.length, none⟩ = some (.slice q m2 d2)) := fun w' hb => cell_below hq hb
      have HV1 : Hid (∀ w', Below W.heap.size W w' → (convert 22 9 (.slice q m2 d2)).run Tryd.prog w' = .ok (.string (S x.body)) w') := fun w' hb => bconv (hbq.below hb)
      have HV2 : Hid (∀ w', Below W.heap.size W w' → (convert 22 9 (.slice x.p x.body.length x.c)).run Tryd.prog w' = .ok (.string (S x.body)) w') := fun w' hb => bconv ((own_bs HG4.out).below hb)
      subst hpv
      clear hq hbq hxb hnx
      gi_wp2
      clear c3 c11 c16 c17
      refine wpIn_region_eager_in (Below W.heap.size W) [(0, true), (1, true), (2, true), (3, true), (4, true), (5, true), (6, true), (7, true), (8, true), (9, true), (10, true), (11, true), (12, true), (13, true), (14, true), (15, true), (16, true), (17, true), (18, true)] (by kernel_rfl) (by kernel_rfl) (by kernel_rfl) (fun _ _ h => h) (fun _ _ _ _ _ h => h) (below_drew1 _ _) (eagerOpen rfl ?_)
      repeat (first
        | (first | (apply wpEager_take; (· rfl); (· (intro w' hb'; go_simp; try with_reducible rfl)); (try simp only [Act.put, List.setIfInBounds_toArray, List.set_cons_zero, List.set_cons_succ]); (try refine eagerOpen rfl ?_)) | (refine wpEager_skip (by rfl) ?_; (try simp only [Act.put, List.setIfInBounds_toArray, List.set_cons_zero, List.set_cons_succ]); (try refine eagerOpen rfl ?_)) | (refine wpEager_off (by rfl) ?_; (try simp only [Act.put, List.setIfInBounds_toArray, List.set_cons_zero, List.set_cons_succ]); (try refine eagerOpen rfl ?_)))
        | (apply wpEager_take; (· rfl); (· (intro w' hb'; have hk' := (fun w' hb => HC17.out w' hb) w' hb'; go_split_ands; go_simp; try with_reducible rfl)); (try simp only [Act.put, List.setIfInBounds_toArray, List.set_cons_zero, List.set_cons_succ]); (try refine eagerOpen rfl ?_))
        | (apply wpEager_take; (· rfl); (· (intro w' hb'; have hk' := (fun w' hb => HC16.out w' hb) w' hb'; go_split_ands; go_simp; try with_reducible rfl)); (try simp only [Act.put, List.setIfInBounds_toArray, List.set_cons_zero, List.set_cons_succ]); (try refine eagerOpen rfl ?_))
        | (apply wpEager_take; (· rfl); (· (intro w' hb'; have hk' := (fun w' hb => HC11.out w' hb) w' hb'; go_split_ands; go_simp; try with_reducible rfl)); (try simp only [Act.put, List.setIfInBounds_toArray, List.set_cons_zero, List.set_cons_succ]); (try refine eagerOpen rfl ?_))
        | (apply wpEager_take; (· rfl); (· (intro w' hb'; have hk' := (fun w' hb => HCQ.out w' hb) w' hb'; go_split_ands; go_simp; try with_reducible rfl)); (try simp only [Act.put, List.setIfInBounds_toArray, List.set_cons_zero, List.set_cons_succ]); (try refine eagerOpen rfl ?_))
        | (apply wpEager_take; (· rfl); (· (intro w' hb'; have hk' := (fun w' hb => HV1.out w' hb) w' hb'; go_split_ands; go_simp; try with_reducible rfl)); (try simp only [Act.put, List.setIfInBounds_toArray, List.set_cons_zero, List.set_cons_succ]); (try refine eagerOpen rfl ?_))
        | (apply wpEager_take; (· rfl); (· (intro w' hb'; have hk' := (fun w' hb => HV2.out w' hb) w' hb'; go_split_ands; go_simp; try with_reducible rfl)); (try simp only [Act.put, List.setIfInBounds_toArray, List.set_cons_zero, List.set_cons_succ]); (try refine eagerOpen rfl ?_)))
      refine eagerDone ?_
      clear HC11 HCQ HV1 HV2
      have hsum : sumF (bodies pre) ≤ 2000 := by have := HAT.out; omega
      have hnb : sumF (bodies (pre ++ [x])) = sumF (bodies pre) + (8 + x.body.length) := by rw [bodies_snoc, sumF_snoc]
      have HNB := Lib.hid hnb
      clear hnb
      have HA16 := HRI1.out.atb
      generalize sumF (bodies pre) = A at *
      generalize hxl : x.body.length = XL at *
      have HXL := Lib.hid hxl
      clear hxl
      have r1 : IntKind.i64.wrap ((A : Int) + (XL : Int)) = (A : Int) + (XL : Int) := by rw [IntWalk.i64_in _ (by omega)]
      have r2 : IntKind.i64.wrap ((A : Int) + (XL : Int) + 8) = (A : Int) + (XL : Int) + 8 := by rw [IntWalk.i64_in _ (by omega)]
      have r3 : IntKind.i64.wrap ((pre.length : Int) + 1) = (pre.length : Int) + 1 := by rw [IntWalk.i64_in _ (by omega)]
      gi_wp2
      have c16 := HA16.cell
      have c17 := HRI1.out.ib.cell
      have f16 := HA16.frozen
      have f17 := HRI1.out.ib.frozen
      have hFIN : ∀ a, roundEnd W0.heap.size (FT w.heap.size bc) (RI w k LS (some ⟨b, o, none⟩) cv bl bc) (RX w k LS (some ⟨b, o, none⟩) cv bl bc) (pre ++ [x]) W .normal a
          ((W.setCell ⟨bc + 1, 0, none⟩ (.int .i64 ((A : Int) + (XL : Int) + 8))).setCell ⟨bc + 1 + 1, 0, none⟩ (.int .i64 ((pre.length : Int) + 1))).drew.drew := fun a => by
        have o1 := HRI1.out.rb
        have hI2 := HRI1.out.ib.other (show bc + 1 + 1 ≠ bc + 1 by omega) (.int .i64 ((A : Int) + (XL : Int) + 8))
        have n1 : w.heap.size ≠ bc + 1 := by omega
        have n2 : w.heap.size + 1 ≠ bc + 1 := by omega
        have n3 : bl ≠ bc + 1 := by omega
        have n4 : w.heap.size ≠ bc + 1 + 1 := by omega
        have n5 : w.heap.size + 1 ≠ bc + 1 + 1 := by omega
        have n6 : bl ≠ bc + 1 + 1 := by omega
        refine ⟨((((KeepsOthers.setCell _ _ _).trans (KeepsOthers.setCell _ _ _)).trans (KeepsOthers.drew _)).trans (KeepsOthers.drew _)).from _, ?_, ⟨⟨(o1.most.other n1 _).other n4 _, (o1.res.other n2 _).other n5 _, (o1.lbx.other n3 _).other n6 _, (((o1.low.setCell (p := ⟨bc + 1, 0, none⟩) (by show w.heap.size ≤ bc + 1; omega) _).setCell (p := ⟨bc + 1 + 1, 0, none⟩) (by show w.heap.size ≤ bc + 1 + 1; omega) _).drew).drew⟩, ?_, ?_, ?_, by rw [List.length_append, List.length_singleton]; omega⟩⟩
        · exact ((((Turns.refl (FT w.heap.size bc) W).setCell (p := ⟨bc + 1, 0, none⟩) (fun _ => ⟨by show w.heap.size ≤ bc + 1; omega, by show ¬ bc + 1 = bc; omega⟩) _).setCell (p := ⟨bc + 1 + 1, 0, none⟩) (fun _ => ⟨by show w.heap.size ≤ bc + 1 + 1; omega, by show ¬ bc + 1 + 1 = bc; omega⟩) _).drew).drew
        · rw [HNB.out, show ((A + (8 + XL) : Nat) : Int) = (A : Int) + (XL : Int) + 8 by omega]
          exact (HA16.set _).other (by omega) _
        · rw [List.length_append, List.length_singleton, show ((pre.length + 1 : Nat) : Int) = (pre.length : Int) + 1 by omega]
          exact hI2.set _
        · exact (pts_set (pts_set HRI1.out.pts HA16) hI2).below (((below_drew1 _ _)).drew)
      have HFIN := Lib.hid hFIN
      clear hFIN
      refine wpIn_region_tree (fun _ => True) (.take 1 (.take 2 (.two 0 5 (.take 3 (.take 4 (.two 5 7 (.take 6 (.one 7 (.one 8 .nil))) (.one 5 (.take 6 (.one 8 .nil)))))) (.take 6 (.one 0 (.take 3 (.take 4 (.one 7 (.one 8 .nil))))))))) (by kernel_rfl) (by kernel_rfl) (by kernel_rfl) (fun _ _ h => h) (fun _ _ _ _ _ h => h) trivial ?_
      (apply tree_take; (· rfl); (· rfl); (· (intro w' hb'; go_simp; try with_reducible rfl)); try simp only [Act.put, List.setIfInBounds_toArray, List.set_cons_zero, List.set_cons_succ])
      (apply tree_take; (· rfl); (· rfl); (· (intro w' hb'; go_simp; try with_reducible rfl)); try simp only [Act.put, List.setIfInBounds_toArray, List.set_cons_zero, List.set_cons_succ])
      refine tree_two ?_ ?_
      · skip
        (refine tree_one rfl (by rfl) (fun K hK => ?_); go_simp; refine Shut.out hK _ _ trivial ?_; clear hK K; try simp only [Act.put, List.setIfInBounds_toArray, List.set_cons_zero, List.set_cons_succ])
        (apply tree_take; (· rfl); (· rfl); (· (intro w' hb'; go_simp; try with_reducible rfl)); try simp only [Act.put, List.setIfInBounds_toArray, List.set_cons_zero, List.set_cons_succ])
        (apply tree_take; (· rfl); (· rfl); (· (intro w' hb'; go_simp; try with_reducible rfl)); try simp only [Act.put, List.setIfInBounds_toArray, List.set_cons_zero, List.set_cons_succ])
        refine tree_two ?_ ?_
        · skip
          (refine tree_one rfl (by rfl) (fun K hK => ?_); go_simp; refine Shut.out hK _ _ trivial ?_; clear hK K; try simp only [Act.put, List.setIfInBounds_toArray, List.set_cons_zero, List.set_cons_succ])
          (apply tree_take; (· rfl); (· rfl); (· (intro w' hb'; go_simp; try with_reducible rfl)); try simp only [Act.put, List.setIfInBounds_toArray, List.set_cons_zero, List.set_cons_succ])
          (refine tree_one rfl (by rfl) (fun K hK => ?_); go_simp; refine Shut.out hK _ _ trivial ?_; clear hK K; try simp only [Act.put, List.setIfInBounds_toArray, List.set_cons_zero, List.set_cons_succ])
          (refine tree_one rfl (by rfl) (fun K hK => ?_); go_simp; refine Shut.out hK _ _ trivial ?_; clear hK K; try simp only [Act.put, List.setIfInBounds_toArray, List.set_cons_zero, List.set_cons_succ])
          exact treeDone (HFIN.out ⟨#[], []⟩)
        · skip
          (refine tree_one rfl (by rfl) (fun K hK => ?_); go_simp; refine Shut.out hK _ _ trivial ?_; clear hK K; try simp only [Act.put, List.setIfInBounds_toArray, List.set_cons_zero, List.set_cons_succ])
          (refine tree_one rfl (by rfl) (fun K hK => ?_); go_simp; refine Shut.out hK _ _ trivial ?_; clear hK K; try simp only [Act.put, List.setIfInBounds_toArray, List.set_cons_zero, List.set_cons_succ])
          (apply tree_take; (· rfl); (· rfl); (· (intro w' hb'; go_simp; try with_reducible rfl)); try simp only [Act.put, List.setIfInBounds_toArray, List.set_cons_zero, List.set_cons_succ])
          (refine tree_one rfl (by rfl) (fun K hK => ?_); go_simp; refine Shut.out hK _ _ trivial ?_; clear hK K; try simp only [Act.put, List.setIfInBounds_toArray, List.set_cons_zero, List.set_cons_succ])
          exact treeDone (HFIN.out ⟨#[], []⟩)
      · skip
        (refine tree_one rfl (by rfl) (fun K hK => ?_); go_simp; refine Shut.out hK _ _ trivial ?_; clear hK K; try simp only [Act.put, List.setIfInBounds_toArray, List.set_cons_zero, List.set_cons_succ])
        (apply tree_take; (· rfl); (· rfl); (· (intro w' hb'; go_simp; try with_reducible rfl)); try simp only [Act.put, List.setIfInBounds_toArray, List.set_cons_zero, List.set_cons_succ])
        (refine tree_one rfl (by rfl) (fun K hK => ?_); go_simp; refine Shut.out hK _ _ trivial ?_; clear hK K; try simp only [Act.put, List.setIfInBounds_toArray, List.set_cons_zero, List.set_cons_succ])
        (apply tree_take; (· rfl); (· rfl); (· (intro w' hb'; go_simp; try with_reducible rfl)); try simp only [Act.put, List.setIfInBounds_toArray, List.set_cons_zero, List.set_cons_succ])
        (apply tree_take; (· rfl); (· rfl); (· (intro w' hb'; go_simp; try with_reducible rfl)); try simp only [Act.put, List.setIfInBounds_toArray, List.set_cons_zero, List.set_cons_succ])
        (refine tree_one rfl (by rfl) (fun K hK => ?_); go_simp; refine Shut.out hK _ _ trivial ?_; clear hK K; try simp only [Act.put, List.setIfInBounds_toArray, List.set_cons_zero, List.set_cons_succ])
        (refine tree_one rfl (by rfl) (fun K hK => ?_); go_simp; refine Shut.out hK _ _ trivial ?_; clear hK K; try simp only [Act.put, List.setIfInBounds_toArray, List.set_cons_zero, List.set_cons_succ])
        exact treeDone (HFIN.out ⟨#[], []⟩)
    · have hkp : k = pre.length := by omega
      have e1 : decide ((k : Int) ≤ (pre.length : Int)) = true := decide_eq_true (by omega)
      have e2 : decide (k ≤ pre.length) = true := decide_eq_true (by omega)
      have HX : Hid (RX w k LS pv cv bl bc (.exit 0) (pre ++ [x]) W) := ⟨rfl, HRI1.out.rb, by rw [hkp]; exact HRI1.out.ib, by omega⟩
      clear hkp hbrk hnx
      gi_wp2
      exact ⟨KeepsFrom.refl _ _, HX.out⟩
  case done =>
    rintro D xs W hD ⟨kk, hkk, hkk2⟩ hRI hK
    have he := hkk.end hkk2
    rw [HSC.out] at he
    have hLS : LS = bodies xs := congrArg Prod.fst he
    have hll : LS.length = xs.length := by rw [hLS]; simp [bodies]
    have hle := hRI.le
    have hR := hRI.rb
    have hib := hRI.ib
    have hmi : (if (k : Int) < (LS.length : Int) then (k : Int) else (LS.length : Int)) = (xs.length : Int) := by split <;> omega
    have hmi2 : (if k < LS.length then (k : Int) else (LS.length : Int)) = (xs.length : Int) := by split <;> omega
    generalize xs.length = I at *
    clear he hLS hll hkk hkk2 hRI hle
    skip
    have c3 := hR.most.cell
    have c11 := hR.lbx.cell
    have c17 := hib.cell
    have hkw : IntKind.i64.wrap (k : Int) = (k : Int) := by rw [IntWalk.i64_in _ (by omega)]
    have HR := Lib.hid hR
    have HKD := Lib.hid hK
    have HDD := Lib.hid (show w.heap.size + 3 ≤ D by have := HSZ.out; omega)
    have HEW := Lib.hid (HE.out.below hR.low HE.out.lt)
    clear hR hib hK hD
    go_wp2_with fail
    refine (alive19_any _ HEW.out).mono ?_
    rintro e y9 ⟨rfl, hb9⟩
    clear c3 c11 c17
    have b9 := Boxed.low HR.out.res hb9
    have hc := b9.cell
    have hf := b9.frozen
    have hk9 : y9.heap[D]? = some (.deferred (some [])) := Below.keepOld hb9 HKD.out
    have hk10 := (KeepsOthers.setCell y9 ⟨w.heap.size + 1, 0, none⟩ (.bool true)).same D _ hk9 rfl
    have hbw := (HR.out.low.trans (hb9.mono HR.out.low.size)).setCell (p := ⟨w.heap.size + 1, 0, none⟩) (by simp) (.bool true)
    have hbx := hbw.trans (belowK_b (w := w) (Nat.le_refl _) _ D _ (.deferred none) (by have := HDD.out; omega) hk10 rfl rfl)
    have HC9 := Lib.hid (boxed_kept (b9.set (.bool true)) (grownBy_putObj' _ D (.deferred none)) (fun r e => by cases e; exact ⟨_, hk10, rfl⟩)).cell
    have HBX := Lib.hid hbx
    have HK10 := Lib.hid hk10
    clear hb9 b9 hbw hbx hk9 hk10
    go_wp2_with fail
    refine ⟨by simp, .inl ⟨_, _, rfl, run_takeDeferred HK10.out, ?_⟩⟩
    refine ⟨_, ?_, rfl, HBX.out⟩
    have hcc := HC9.out
    simp [results, Tryd.f4, go_sem, hcc]
  case stop =>
    rintro D c pre W hD _ ⟨rfl, hR, hib, hle⟩ hK
    have hmi : (if (k : Int) < (LS.length : Int) then (k : Int) else (LS.length : Int)) = (k : Int) := by split <;> omega
    have hmi2 : (if k < LS.length then (k : Int) else (LS.length : Int)) = (k : Int) := by split <;> omega
    clear hle
    refine wpIn_wide.2 ?_
    have c3 := hR.most.cell
    have c11 := hR.lbx.cell
    have c17 := hib.cell
    have hkw : IntKind.i64.wrap (k : Int) = (k : Int) := by rw [IntWalk.i64_in _ (by omega)]
    have HR := Lib.hid hR
    have HKD := Lib.hid hK
    have HDD := Lib.hid (show w.heap.size + 3 ≤ D by have := HSZ.out; omega)
    have HEW := Lib.hid (HE.out.below hR.low HE.out.lt)
    clear hR hib hK hD
    go_wp2_with fail
    refine (alive19_any _ HEW.out).mono ?_
    rintro e y9 ⟨rfl, hb9⟩
    clear c3 c11 c17
    have b9 := Boxed.low HR.out.res hb9
    have hc := b9.cell
    have hf := b9.frozen
    have hk9 : y9.heap[D]? = some (.deferred (some [])) := Below.keepOld hb9 HKD.out
    have hk10 := (KeepsOthers.setCell y9 ⟨w.heap.size + 1, 0, none⟩ (.bool true)).same D _ hk9 rfl
    have hbw := (HR.out.low.trans (hb9.mono HR.out.low.size)).setCell (p := ⟨w.heap.size + 1, 0, none⟩) (by simp) (.bool true)
    have hbx := hbw.trans (belowK_b (w := w) (Nat.le_refl _) _ D _ (.deferred none) (by have := HDD.out; omega) hk10 rfl rfl)
    have HC9 := Lib.hid (boxed_kept (b9.set (.bool true)) (grownBy_putObj' _ D (.deferred none)) (fun r e => by cases e; exact ⟨_, hk10, rfl⟩)).cell
    have HBX := Lib.hid hbx
    have HK10 := Lib.hid hk10
    clear hb9 b9 hbw hbx hk9 hk10
    go_wp2_with fail
    refine ⟨by simp, .inl ⟨_, _, rfl, run_takeDeferred HK10.out, ?_⟩⟩
    refine ⟨_, ?_, rfl, HBX.out⟩
    have hcc := HC9.out
    simp [results, Tryd.f4, go_sem, hcc]
end Go.Proofs.YtjbjlmdfgpoadaaDoor.Frm
