/- PARTS, JOINED: VAULTS: fill (the snapshot, and the records behind it). Conditions: the laid cell of errors.errorType. VAULTS: fill, walked. Conditions: the laid cell of errors.errorType. VAULTS: Open; what is told. Conditions: the laid cell of errors.errorType. errors.Is AND errors.As AT AN ODD BODY OF THE VAULT's, by their contracts: Go's own text walked. Conditions: for errors.As the laid cell of errors.errorType. VAULTS: Open of whatever files hold. Conditions: the laid cell of errors.errorType. VAULTS: what is told. Conditions: none. A REGION THAT DRAWS ITS ORDER, WALKED IN ONE ORDER AS LONG AS WHAT IS READ EARLY STANDS, THEN BY A TREE. No program is named. Conditions: none. VAULTS: Records; plain: Put and Compact. Conditions: at most 65536 records. A REGION THAT DRAWS ITS ORDER: some operations that read no memory are taken first; then the eager walk with a tree behind it. No program is named. Conditions: none. VAULTS: Put. Conditions: at most 3000 bytes in a record; bytes that stay where a disk turns. VAULTS: Compact. Conditions: at most 2900 bytes in a snapshot. -/
import Derived.Test.YtnejjfglkindjaaGreatDoorVo1
import Derived.Test.YtnejjfglkindjaaGreatDoorVo2
import Derived.Test.YtnejjfglkindjaaGreatDoorVo3
import Derived.Test.YtnejjfglkindjaaGreatDoorVo4
import Derived.Test.YtnejjfglkindjaaGreatDoorVo5
import Derived.Test.YtnejjfglkindjaaGreatDoorVo6
import Derived.Test.YtnejjfglkindjaaGreatDoorProg
import Derived.WalkKit
import Derived.LaidEql
import Derived.Stop.Asserts
import Derived.RowKitTokens
namespace Go.Proofs.YtnejjfglkindjaaGreatDoor.Vlt
open Go.RowKit Go.Mir Go.Mir.Parts Dk Rol Wr Slt Cut
open Frm (frame scan)
theorem n8_lt (b : List UInt8) : Rdr.beN (b.take 8) < 18446744073709551616 := by
 have h1 := Rdr.beN_lt_pow (b.take 8)
 have h2 : (b.take 8).length ≤ 8 := by rw [List.length_take]; omega
 have h3 : 256 ^ (b.take 8).length ≤ 256 ^ 8 := Nat.pow_le_pow_right (by omega) h2
 have h4 : (256 : Nat) ^ 8 = 18446744073709551616 := by decide
 omega
theorem scan_count (l : List UInt8) : (scan l).1.length ≤ l.length := by
 obtain ⟨h1, h2, h3⟩ := scan_len _ l (Nat.le_refl _)
 have h4 : ((scan l).1.flatMap frame).length ≤ l.length := by rw [← h2, List.length_take]; omega
 have h5 : ∀ ls : List (List UInt8), ls.length ≤ (ls.flatMap frame).length := fun ls => by
  induction ls with
  | nil => exact Nat.le_refl _
  | cons x r ih =>
   rw [List.flatMap_cons, List.length_append, List.length_cons, Frm.frame_length]
   omega
 have := h5 (scan l).1
 omega
def FillP (base rb sb db vb : Nat) (d : DD) (s : SS) (w : World) (e : Ending) (w' : World) : Prop := KV base w w' ∧ Turns (fun k => k = vb) w w' ∧
 ((∃ v, fillV s (scan (fD d 0).now).1 = some v ∧ e = .returned .nilIface ∧ XV base rb sb db vb d s v w') ∨
  (fillV s (scan (fD d 0).now).1 = none ∧ ∃ ob, e = .returned (.iface 94 (.pointer (some ⟨ob, 0, none⟩))) ∧ w.heap.size ≤ ob ∧ OddAt w' ob ∧ ∃ v, XV base rb sb db vb d s v w'))
theorem built_oddI : Tryz.prog.built 140 [(0, .iface 25 (.int .i64 4))] = some #[.iface 25 (.int .i64 4)] := by kernel_rfl
structure FL (base rb sb db vb : Nat) (d : DD) (s : SS) (v0 v : VS) (pb : Option Addr) (cb : Nat) (pa : Option Addr) (ca : Nat) (L : List (List UInt8)) (V : Value) (B5 i : Nat) (w wr : World) : Prop where
 xw : XW base rb sb db vb d s v pb cb pa ca wr
 run : runV v0 (L.take i) = some v
 ls : LsO wr B5 V L
 off : ∀ k, V.ownBlock = some k → ¬ (Value.slice pa v.after.length ca).ownBlock = some k
 len : v.after.length ≤ i
 kv : KV base w wr
 low : w.heap.size ≤ wr.heap.size
 tv : Turns (fun k => k = vb) w wr
 own : ∀ k, (Value.slice pa v.after.length ca).ownBlock = some k → w.heap.size ≤ k
variable {base rb sb db vb : Nat} {d : DD} {s : SS} {v0 v : VS} {pb pa : Option Addr} {cb ca : Nat} {L : List (List UInt8)} {V : Value} {B5 i : Nat} {w wr : World}
theorem FL.below {w' : World} (h : FL base rb sb db vb d s v0 v pb cb pa ca L V B5 i w wr) (hb : Below wr.heap.size wr w') : FL base rb sb db vb d s v0 v pb cb pa ca L V B5 i w w' :=
 ⟨h.xw.below hb, h.run, h.ls.below hb, h.off, h.len, h.kv.next hb, Nat.le_trans h.low hb.size, h.tv.trans (Turns.of_below (S := fun k => k = vb) hb) (fun _ _ hS => hS), h.own⟩
theorem FL.same {b : List UInt8} (h : FL base rb sb db vb d s v0 v pb cb pa ca L V B5 i w wr) (hi : i < L.length) (hb : L[i] = b) (hs : stepV v b = some v) : FL base rb sb db vb d s v0 v pb cb pa ca L V B5 (i + 1) w wr :=
 ⟨h.xw, by rw [List.take_succ_eq_append_getElem hi, hb, runV_snoc, h.run]; exact hs, h.ls, h.off, by have := h.len; omega, h.kv, h.low, h.tv, h.own⟩
theorem FL.bad {b : List UInt8} (h : FL base rb sb db vb d s v0 v pb cb pa ca L V B5 i w wr) (hi : i < L.length) (hb : L[i] = b) (hs : stepV v b = none) : runV v0 L = none := by
 have h1 : runV v0 (L.take (i + 1)) = none := by rw [List.take_succ_eq_append_getElem hi, hb, runV_snoc, h.run]; exact hs
 rw [← List.take_append_drop (i + 1) L]
 exact runV_none _ _ _ h1
theorem FL.push {w2 w3 : World} {q p9 : Option Addr} {k c9 n : Nat} {b x : List UInt8} (h : FL base rb sb db vb d s v0 v pb cb pa ca L V B5 i w wr) (hi : i < L.length) (hb : L[i] = b) (hs : stepV v b = some ⟨n, v.some, v.body, v.after ++ [x]⟩) (hn : n < 18446744073709551616)
  (hx : wr.ownsRow base 5 1 (.slice q x.length k) x.length (bytesV x)) {hs' : List Value}
  (hl : wr.ownsRow base 22 1 (.slice pa v.after.length ca) v.after.length hs') (hl2 : ∀ j (h : j < v.after.length), ∃ q k, hs'[j]? = some (.slice q v.after[j].length k) ∧ wr.ownsRow base 5 1 (.slice q v.after[j].length k) v.after[j].length (bytesV v.after[j]))
  {tmp : Obj} (ho : w3.ownsRow base 22 1 (.slice p9 (v.after.length + 1) c9) (v.after.length + 1) (hs' ++ [.slice q x.length k])) (hg : (wr.alloc tmp).grownBy w3 (Value.slice pa v.after.length ca).ownBlock)
  (hnx : ∀ k, (Value.slice p9 (v.after.length + 1) c9).ownBlock = some k → (Value.slice pa v.after.length ca).ownBlock = some k ∨ k = (wr.alloc tmp).heap.size) (hw2 : w2 = (w3.setCell ⟨vb, 2, none⟩ (.int .u64 (n : Int))).setCell ⟨vb, 5, none⟩ (.slice p9 (v.after.length + 1) c9)) :
  FL base rb sb db vb d s v0 ⟨n, v.some, v.body, v.after ++ [x]⟩ pb cb p9 c9 L V B5 (i + 1) w w2 ∧ w3.heap[vb]? = some (.cells (vA rb sb v pb cb pa ca) 33 (0, 0)) ∧ (w3.setCell ⟨vb, 2, none⟩ (.int .u64 (n : Int))).heap[vb]? = some (.cells (vA rb sb ⟨n, v.some, v.body, v.after⟩ pb cb pa ca) 33 (0, 0)) := by
 subst hw2
 have hlen : (v.after ++ [x]).length = v.after.length + 1 := by rw [List.length_append]; rfl
 have hva : ¬ (Value.slice pa v.after.length ca).ownBlock = some vb := fun hk => by
  rcases hl.2 with ⟨e, _⟩ | ⟨g, cap, cur, e, _, hgg, _⟩
  ·rw [e] at hk; cases hk
  ·rw [e] at hk
   simp only [Value.ownBlock, Option.some.injEq] at hk
   subst hk
   have := h.xw.row
   rw [hgg] at this
   injection this with e1
   injection e1 with _ e2
   exact absurd e2 (by decide)
 have ht3 : Turns (fun k => (Value.slice pa v.after.length ca).ownBlock = some k) wr w3 := (Turns.of_below (S := fun k => (Value.slice pa v.after.length ca).ownBlock = some k) (Below.allocs wr tmp)).trans (Turns.grown hg (fun k h => h)) (fun _ _ h => h)
 have hr3 := ht3.keep h.xw.row hva
 have hr4 := Dk.cell_put (off := 2) (.int .u64 (n : Int)) hr3
 have hr5 := Dk.cell_put (off := 5) (.slice p9 (v.after.length + 1) c9) hr4
 have ht3' : Turns (fun k => k = vb ∨ (Value.slice pa v.after.length ca).ownBlock = some k) wr w3 := ht3.imp (fun k _ hk => Or.inr hk)
 have ht5 : Turns (fun k => k = vb ∨ (Value.slice pa v.after.length ca).ownBlock = some k) wr ((w3.setCell ⟨vb, 2, none⟩ (.int .u64 (n : Int))).setCell ⟨vb, 5, none⟩ (.slice p9 (v.after.length + 1) c9)) :=
  (ht3'.setCell (p := ⟨vb, 2, none⟩) (fun _ => .inl rfl) _).setCell (p := ⟨vb, 5, none⟩) (fun _ => .inl rfl) _
 have htv : Turns (fun k => k = vb) w3 ((w3.setCell ⟨vb, 2, none⟩ (.int .u64 (n : Int))).setCell ⟨vb, 5, none⟩ (.slice p9 (v.after.length + 1) c9)) :=
  ((Turns.refl (fun k => k = vb) w3).setCell (p := ⟨vb, 2, none⟩) (fun _ => rfl) _).setCell (p := ⟨vb, 5, none⟩) (fun _ => rfl) _
 have hls3 : LsO w3 base (.slice p9 (v.after.length + 1) c9) (v.after ++ [x]) := LsO.push hl hl2 hx ho hg
 have hvr : ∀ k M t fr, k = vb → w3.heap[k]? = some (.cells M t fr) → t ≠ 22 ∧ t ≠ 5 := fun k M t fr hk hm => by
  subst hk
  rw [hr3] at hm
  injection hm with e1
  injection e1 with _ e2
  subst e2
  exact ⟨by decide, by decide⟩
 have hls5 := lsO_turn hls3 htv hvr
 have hV3 : ∀ k, V.ownBlock = some k → ¬ (k = vb ∨ (Value.slice pa v.after.length ca).ownBlock = some k) := fun k hk hh => by
  rcases hh with rfl | hh
  ·obtain ⟨hs9, g1, _⟩ := h.ls.all
   rcases g1.2 with ⟨e, _⟩ | ⟨g, cap, cur, e, _, hgg, _⟩
   ·rw [e] at hk; cases hk
   ·rw [e] at hk
    simp only [Value.ownBlock, Option.some.injEq] at hk
    subst hk
    have := h.xw.row
    rw [hgg] at this
    injection this with e1
    injection e1 with _ e2
    exact absurd e2 (by decide)
  ·exact h.off k hk hh
 have hLV : LsO ((w3.setCell ⟨vb, 2, none⟩ (.int .u64 (n : Int))).setCell ⟨vb, 5, none⟩ (.slice p9 (v.after.length + 1) c9)) B5 V L := by
  obtain ⟨hs9, g1, g2⟩ := h.ls.all
  refine ⟨hs9, own_touch g1 ht5 hV3, fun j hj => ?_⟩
  obtain ⟨q2, k2, e1, e2⟩ := g2 j hj
  refine ⟨q2, k2, e1, own_touch e2 ht5 (fun k hk hh => ?_)⟩
  rcases e2.2 with ⟨e, _⟩ | ⟨g, cap, cur, e, _, hgg, _⟩
  ·rw [e] at hk; cases hk
  ·rw [e] at hk
   simp only [Value.ownBlock, Option.some.injEq] at hk
   subst hk
   rcases hh with rfl | hh
   ·have := h.xw.row
    rw [hgg] at this
    injection this with e1
    injection e1 with _ e2
    exact absurd e2 (by decide)
   ·exact own_apart hl e2 (by decide) _ hh (by rw [e]; rfl)
 have hrow : ((w3.setCell ⟨vb, 2, none⟩ (.int .u64 (n : Int))).setCell ⟨vb, 5, none⟩ (.slice p9 (v.after.length + 1) c9)).heap[vb]? = some (.cells (vA rb sb ⟨n, v.some, v.body, v.after ++ [x]⟩ pb cb p9 c9) 33 (0, 0)) := by
  unfold vA
  rw [hlen]
  exact hr5
 have hls6 : LsO ((w3.setCell ⟨vb, 2, none⟩ (.int .u64 (n : Int))).setCell ⟨vb, 5, none⟩ (.slice p9 (v.after.length + 1) c9)) base (.slice p9 (v.after ++ [x]).length c9) (v.after ++ [x]) := by rw [hlen]; exact hls5
 refine ⟨⟨h.xw.put ht5 (fun k hk => hk) hn hrow ?_ hls6, ?_, hLV, ?_, ?_, h.kv.trans (h.xw.kv ht5 (fun k hk => hk)), Nat.le_trans h.low ht5.size, h.tv.trans ht5 (fun k hk hS => hS.elim id (fun ho => absurd (h.own k ho) (by omega))), fun k hk => ?_⟩, hr3, hr4⟩
 ·refine h.xw.rd.touch ht5 (fun k M fr hm hh => ?_)
  rcases hh with rfl | hh
  ·have := h.xw.row
   rw [hm] at this
   injection this with e1
   injection e1 with _ e2
   exact absurd e2 (by decide)
  ·rcases hl.2 with ⟨e, _⟩ | ⟨g, cap, cur, e, _, hgg, _⟩
   ·rw [e] at hh; cases hh
   ·rw [e] at hh
    simp only [Value.ownBlock, Option.some.injEq] at hh
    subst hh
    rw [hm] at hgg
    injection hgg with e1
    injection e1 with _ e2
    exact absurd e2 (by decide)
 ·rw [List.take_succ_eq_append_getElem hi, hb, runV_snoc, h.run]; exact hs
 ·intro k hk hh
  rw [hlen] at hh
  rcases hnx k hh with e | e
  ·exact h.off k hk e
  ·obtain ⟨hs9, g1, _⟩ := h.ls.all
   have := (g1.lt k hk).2
   rw [World.size_alloc] at e
   omega
 ·rw [hlen]
  have := h.len
  omega
 ·rw [hlen] at hk
  rcases hnx k hk with e | e
  ·exact h.own k e
  ·have := h.low
   rw [World.size_alloc] at e
   omega
end Go.Proofs.YtnejjfglkindjaaGreatDoor.Vlt
namespace Go.Proofs.YtnejjfglkindjaaGreatDoor.Vlt
open Go.RowKit Go.Mir Go.Mir.Parts Dk Rol Wr Slt Cut
open Frm (frame scan)
set_option maxRecDepth 100000 in
set_option maxHeartbeats 3200000 in
theorem fill_any {base rb sb db vb : Nat} {d : DD} {s : SS} (w : World) (hE : Rdr.EType w) (hg : 0 < base) (h : XW base rb sb db vb d s VS.zero none 0 none 0 w) (h0 : s.turn = 0 → s.body = []) (hl : s.body.length ≤ 100000) :
  Calls Tryz.prog 35 #[.pointer (some ⟨vb, 0, none⟩)] w (FillP base rb sb db vb d s w) := by
 have HE := Lib.hid hE
 have HG := Lib.hid hg
 have HSL := Lib.hid hl
 obtain ⟨-, hc1, -⟩ := vA_cells h.row
 have HGT := Lib.hid (get_any w h.sx h0 (by omega))
 have HW := Lib.hid h
 clear hE hg h hl h0
 go_enter Tryz.func35, Tryz.ntmps35
 go_wp2_with fail
 refine HGT.out.mono ?_
 rintro e w1 ⟨p1, c1, rfl, ho1, hb1⟩
 have HXW := Lib.hid (HW.out.below hb1)
 have HKV := Lib.hid (KV.of_below (base := base) hb1)
 have HTV : Hid (Turns (fun k => k = vb) w w1) := Turns.of_below hb1
 have HBS := Lib.hid (own_bs ho1)
 clear ho1 hb1 HGT HW hc1
 by_cases ht : s.turn = 0
 ·have hd : decide (0 < s.turn) = false := decide_eq_false (by omega)
  have HSTART : Hid (startV s = some VS.zero) := by show _ = _; unfold startV; rw [if_pos ht]
  have HAF : Hid (VS.zero.after.length = 0) := rfl
  rw [hd]
  clear ht hd
  obtain ⟨v0, hv0⟩ : ∃ v0, VS.zero = v0 := ⟨_, rfl⟩
  rw [hv0] at HSTART HXW HAF
  clear hv0
  skip
  obtain ⟨hc0, -, hc2, -, -, hc5⟩ := vA_cells HXW.out.row
  have hbo := bodies_any w1 (HKV.out.etype HE.out HG.out) HXW.out.sx.dx HXW.out.rol (by omega)
  obtain ⟨L, hL⟩ : ∃ L, (scan (fD d 0).now).1 = L := ⟨_, rfl⟩
  have HLC := Lib.hid (scan_count (fD d 0).now)
  have HLB := Lib.hid (fun x (hx : x ∈ (scan (fD d 0).now).1) => ((scan_len _ (fD d 0).now (Nat.le_refl _)).2.2 x hx).2)
  have HFV : Hid (fillV s (scan (fD d 0).now).1 = runV v0 (scan (fD d 0).now).1) := by show _ = _; unfold fillV; rw [HSTART.out]; rfl
  have HNW := Lib.hid (HXW.out.sx.dx.le (i := 0) (by omega))
  unfold BodP at hbo
  rw [hL] at hbo HLC HLB HFV
  have HBO := Lib.hid hbo
  have HFP : Hid (∀ (v : VS) (w' : World), runV v0 L = some v → KV base w w' ∧ Turns (fun k => k = vb) w w' → XV base rb sb db vb d s v w' → FillP base rb sb db vb d s w (.returned .nilIface) w') := fun v w' h1 h2 h3 => ⟨h2.1, h2.2, .inl ⟨v, by rw [hL, HFV.out]; exact h1, rfl, h3⟩⟩
  have HFN : Hid (∀ (v : VS) (ob : Nat) (w' : World), runV v0 L = none → KV base w w' ∧ Turns (fun k => k = vb) w w' → XV base rb sb db vb d s v w' → w.heap.size ≤ ob → OddAt w' ob → FillP base rb sb db vb d s w (.returned (.iface 94 (.pointer (some ⟨ob, 0, none⟩)))) w') := fun v ob w' h1 h2 h3 h4 h5 => ⟨h2.1, h2.2, .inr ⟨by rw [hL, HFV.out]; exact h1, ob, rfl, h4, h5, v, h3⟩⟩
  clear hbo hL
  go_wp2_with fail
  refine HBO.out.mono ?_
  rintro e w5 ⟨p5, c5, rfl, hls, hb5⟩
  have HLN : Hid (L.length ≤ 65536) := by show _ ≤ _; have := HLC.out; have := HNW.out; omega
  have HFL0 : Hid (FL base rb sb db vb d s v0 v0 none 0 none 0 L (.slice p5 L.length c5) w1.heap.size 0 w w5) :=
   ⟨HXW.out.below hb5, rfl, hls, (fun k _ hh => by cases hh), (by have := HAF.out; omega), HKV.out.next hb5, Nat.le_trans HKV.out.size hb5.size, HTV.out.trans (Turns.of_below (S := fun k => k = vb) hb5) (fun _ _ hS => hS), (fun k hh => by cases hh)⟩
  have hlb : L.length ≤ 65536 := HLN.out
  have hlc : L.length ≤ c5 := by
   obtain ⟨hs9, g1, _⟩ := hls.all
   obtain ⟨p1, c1, he, hs⟩ := own_sl g1
   cases he
   exact hs.le
  clear hls hb5 HBO hc0 hc2 hc5
  generalize w1.heap.size = B5 at *
  go_wp2_with fail
  go_loopw [9, 10, 11, 12, 48, 58, 62, 69] (fun _ _ _ _ j _ _ _ wr => ∃ (i : Nat) (v : VS) (pb : Option Addr) (cb : Nat) (pa : Option Addr) (ca : Nat), i ≤ L.length ∧ j = .int .i64 i ∧ FL base rb sb db vb d s v0 v pb cb pa ca L (.slice p5 L.length c5) B5 i w wr) (fun _ _ _ _ j _ _ _ _ => L.length - (intOf j).toNat)
  case atStart => exact ⟨0, v0, none, 0, none, 0, Nat.zero_le _, rfl, by have h1 := HFL0.out; have h2 := HAF.out; exact h1⟩
  case round =>
   clear HFL0 HXW HKV HTV
   obtain ⟨i, v, pb, cb, pa, ca, hi, rfl, hfl⟩ := hrel
   have HFL := Lib.hid hfl
   clear hfl
   by_cases hlt : i < L.length
   ·have hd1 : decide ((i : Int) < (L.length : Int)) = true := decide_eq_true (by omega)
    have hd2 : decide (i < L.length) = true := decide_eq_true hlt
    have hi1 : (i : Int) < (L.length : Int) := by omega
    obtain ⟨pq, cq, hv, hpt⟩ := HFL.out.ls.ls.sl
    cases hv
    obtain ⟨b, o, rfl⟩ := hpt.addr (by omega)
    obtain ⟨q, m, k, hcl, hbs⟩ := hpt.cell _ rfl i hlt
    rw [add_none] at hcl
    obtain rfl := hbs.length
    have HX65 := Lib.hid (HLB.out _ (List.getElem_mem hlt))
    have HSP := Lib.hid (split_any q k L[i] 1 (Nat.le_refl _) wr (HFL.out.kv.etype HE.out HG.out) hbs (by have := HX65.out; omega))
    have HLI : Hid (∀ b, L[i] = b → L[i] = b) := fun _ h => h
    obtain ⟨X, hX⟩ : ∃ X, L[i] = X := ⟨_, rfl⟩
    have HIX := Lib.hid (And.intro hlt hX)
    rw [hX] at HSP hcl HX65
    clear hbs HLI hX hpt
    go_wp2_with fail
    refine HSP.out.mono ?_
    rintro e w6 ⟨hb6, hcase⟩
    have HF6 := Lib.hid (HFL.out.below hb6)
    have HSZ := Lib.hid hb6.size
    have HLW := Lib.hid HFL.out.low
    have HBW : Hid (base ≤ wr.heap.size) := HFL.out.xw.sx.dx.1
    obtain ⟨-, -, hv2, -, -, hv5⟩ := vA_cells HF6.out.xw.row
    clear hb6 hcl HSP HFL
    rcases hcase with ⟨h9, pr, cr, rfl, hor⟩ | ⟨h9, ob, rfl, hob, hodd⟩
    rotate_left
    ·have HST : Hid (stepV v X = none) := by show _ = _; unfold stepV; rw [if_pos (by omega)]
     have HEND := Lib.hid (HFN.out v ob w6 (HF6.out.bad HIX.out.1 HIX.out.2 HST.out) ⟨HF6.out.kv, HF6.out.tv⟩ ⟨_, _, _, _, HF6.out.xw⟩ (by have := HLW.out; omega) hodd)
     clear h9 hob hodd
     go_wp2_with fail
     go_ret
     exact HEND.out
    have hnl := n8_lt X
    have hvl := HF6.out.xw.last
    have HXL : Hid (¬ X.length < 9) := by show ¬ _; omega
    have HOR := Lib.hid hor
    clear hor h9
    obtain ⟨NN, hNN⟩ : ∃ NN, Rdr.beN (X.take 8) = NN := ⟨_, rfl⟩
    have HNN := Lib.hid hNN
    rw [hNN] at hnl ⊢
    clear hNN
    by_cases hle : NN ≤ v.last
    ·have hd3 : decide ((NN : Int) ≤ (v.last : Int)) = true := decide_eq_true (by omega)
     have hd4 : decide (NN ≤ v.last) = true := decide_eq_true hle
     have HST : Hid (stepV v X = some v) := by show _ = _; unfold stepV; rw [if_neg HXL.out, HNN.out, if_pos hle]
     have HFZ := Lib.hid (HF6.out.same HIX.out.1 HIX.out.2 HST.out)
     clear hle HOR
     go_wp2_with fail
     go_roundw
     case rel => exact ⟨i + 1, v, pb, cb, pa, ca, HIX.out.1, by go_num, HFZ.out⟩
     case measure => have := HIX.out.1; simp [intOf]; omega
    ·have hd3 : decide ((NN : Int) ≤ (v.last : Int)) = false := decide_eq_false (by omega)
     have hd4 : decide (NN ≤ v.last) = false := decide_eq_false hle
     have hw1 : IntKind.u64.wrap ((v.last : Int) + 1) = (v.last : Int) + 1 := by rw [IntKind.wrap_u64]; omega
     by_cases heq : NN = v.last + 1
     rotate_left
     ·have q1 : ((NN : Int) == (v.last : Int) + 1) = false := beq_eq_false_iff_ne.2 (by omega)
      have q2 : ((NN : Int) != (v.last : Int) + 1) = true := bne_iff_ne.2 (by omega)
      have HST : Hid (stepV v X = none) := by show _ = _; unfold stepV; rw [if_neg HXL.out, HNN.out, if_neg hle, if_neg heq]
      have HBA := Lib.hid (HF6.out.bad HIX.out.1 HIX.out.2 HST.out)
      have hal := Below.allocs w6 (.cells #[.iface 25 (.int .i64 4)] 140)
      have hod : OddAt (w6.alloc (.cells #[.iface 25 (.int .i64 4)] 140)) w6.heap.size := heap_alloc_last w6 _
      have HEND := Lib.hid (HFN.out v w6.heap.size _ HBA.out ⟨HF6.out.kv.next hal, HF6.out.tv.trans (Turns.of_below (S := fun k => k = vb) hal) (fun _ _ hS => hS)⟩ ⟨_, _, _, _, HF6.out.xw.below hal⟩ HF6.out.low hod)
      have hBU := built_oddI
      clear hle heq hal hod HOR
      go_wp2_with (refine Rdr.wpList_build rfl 140 _ rfl [(0, .iface 25 (.int .i64 4))] rfl _ hBU ?_)
      go_ret
      exact HEND.out
     have q1 : ((NN : Int) == (v.last : Int) + 1) = true := beq_iff_eq.2 (by omega)
     have q2 : ((NN : Int) != (v.last : Int) + 1) = false := by rw [bne_eq_false_iff_eq]; omega
     have HST : Hid (stepV v X = some ⟨NN, v.some, v.body, v.after ++ [X.drop 8]⟩) := by show _ = _; unfold stepV; rw [if_neg HXL.out, HNN.out, if_neg hle, if_pos heq]
     clear hle heq
     obtain ⟨RB, hRB⟩ : ∃ RB, X.drop 8 = RB := ⟨_, rfl⟩
     rw [hRB] at HST HOR ⊢
     clear hRB
     obtain ⟨hs', hl1, hl2⟩ := HF6.out.xw.ls.all
     have hal := Below.allocs w6 (.cells #[.slice pr RB.length cr] 22)
     have HO8 := Lib.hid (own_touch hl1 (Turns.of_below (S := fun _ => False) hal) (fun _ _ h => h))
     have HX8 := Lib.hid (hdr_sl w6 (.slice pr RB.length cr) 22 w6.heap.size rfl)
     have HS8 : Hid (base ≤ (w6.alloc (.cells #[.slice pr RB.length cr] 22)).heap.size) := Nat.le_trans HF6.out.xw.sx.dx.1 hal.size
     have hva : v.after.length ≤ 65536 := by have := HF6.out.len; have := HIX.out.1; omega
     have HOX := Lib.hid (own_base (base' := base) HOR.out (fun k hk => Nat.le_trans HBW.out (own_ge HOR.out k hk)))
     clear hal
     go_wp2_with (first
      | (at_builtin; refine wpList_append_nx rfl _ _ 31 rfl (base := base) Tryz.underlying31 infoS rfl (by omega) rfl HO8.out rfl HX8.out (fun u hu => by rw [List.mem_singleton] at hu; subst hu; rfl) ⟨by omega, by omega⟩ HS8.out ?_))
     intro p9 c9 w9 ho9 hgr hnx _
     obtain ⟨hpu, hr3, hr4⟩ := HF6.out.push HIX.out.1 HIX.out.2 HST.out hnl HOX.out hl1 hl2 ho9 hgr (fun k hk => by rw [World.size_alloc]; exact hnx k hk) rfl
     have HFZ := Lib.hid hpu
     obtain ⟨-, -, hy2, -, -, -⟩ := vA_cells hr3
     have hz2 := frozen_of_row _ _ 2 _ _ hr3
     obtain ⟨-, -, -, -, -, hy5⟩ := vA_cells hr4
     have hz5 := frozen_of_row _ _ 5 _ _ hr4
     clear ho9 hgr hnx hpu hr3 hr4 hv2 hv5 hl1 hl2 HO8 HX8 HS8 HOX
     go_wp2_with fail
     go_roundw
     case rel => exact ⟨i + 1, ⟨NN, v.some, v.body, v.after ++ [RB]⟩, pb, cb, p9, c9, HIX.out.1, by go_num, HFZ.out⟩
     case measure => have := HIX.out.1; simp [intOf]; omega
   ·have hd1 : decide ((i : Int) < (L.length : Int)) = false := decide_eq_false (by omega)
    have hd2 : decide (i < L.length) = false := decide_eq_false hlt
    have hrn := HFL.out.run
    rw [List.take_of_length_le (by omega)] at hrn
    have HEND := Lib.hid (HFP.out v wr hrn ⟨HFL.out.kv, HFL.out.tv⟩ ⟨_, _, _, _, HFL.out.xw⟩)
    clear hrn hlt
    go_wp2_with fail
    go_ret
    exact HEND.out
 ·have hd : decide (0 < s.turn) = true := decide_eq_true (by omega)
  have HSP := Lib.hid (split_any p1 c1 s.body 0 (by omega) w1 (HKV.out.etype HE.out HG.out) HBS.out (by have := HSL.out; omega))
  have HLW := Lib.hid HKV.out.size
  rw [hd]
  have HT0 : Hid (¬ s.turn = 0) := ht
  clear ht hd
  go_wp2_with fail
  refine HSP.out.mono ?_
  rintro e w2 ⟨hb2, hcase⟩
  have HX2 := Lib.hid (HXW.out.below hb2)
  have HK2 := Lib.hid (HKV.out.next hb2)
  have HT2 : Hid (Turns (fun k => k = vb) w w2) := HTV.out.trans (Turns.of_below (S := fun k => k = vb) hb2) (fun _ _ hS => hS)
  clear HTV
  have HBW : Hid (base ≤ w1.heap.size) := HXW.out.sx.dx.1
  clear hb2 HSP HXW HKV
  rcases hcase with ⟨h9, pr, cr, rfl, hor⟩ | ⟨h9, ob, rfl, hob, hodd⟩
  rotate_left
  ·have hst : startV s = none := by unfold startV; rw [if_neg HT0.out, if_pos (by omega)]
   have HEND : Hid (FillP base rb sb db vb d s w (.returned (.iface 94 (.pointer (some ⟨ob, 0, none⟩)))) w2) := ⟨HK2.out, HT2.out, .inr ⟨by unfold fillV; rw [hst]; rfl, ob, rfl, Nat.le_trans HLW.out hob, hodd, VS.zero, _, _, _, _, HX2.out⟩⟩
   clear h9 hob hodd hst
   go_wp2_with fail
   go_ret
   exact HEND.out
  have hnl := n8_lt s.body
  have HSTART0 : Hid (startV s = some ⟨Rdr.beN (s.body.take 8), true, s.body.drop 8, []⟩) := by show _ = _; unfold startV; rw [if_neg HT0.out, if_neg (by omega)]
  obtain ⟨NN, hNN⟩ : ∃ NN, Rdr.beN (s.body.take 8) = NN := ⟨_, rfl⟩
  obtain ⟨RB, hRB⟩ : ∃ RB, s.body.drop 8 = RB := ⟨_, rfl⟩
  rw [hNN, hRB] at HSTART0
  rw [hNN] at hnl
  rw [hRB] at hor
  rw [hNN, hRB]
  have HRD := Lib.hid (Rd.of_own (own_base (base' := base) hor (fun k hk => Nat.le_trans HBW.out (own_ge hor k hk))))
  clear hor h9 hNN hRB
  have r1 := HX2.out.row
  have r2 : (w2.setCell ⟨vb, 2, none⟩ (.int .u64 (NN : Int))).heap[vb]? = some (.cells (vA rb sb ⟨NN, false, [], []⟩ none 0 none 0) 33 (0, 0)) := Dk.cell_put (off := 2) (.int .u64 (NN : Int)) r1
  have r3 : ((w2.setCell ⟨vb, 2, none⟩ (.int .u64 (NN : Int))).setCell ⟨vb, 3, none⟩ (.bool true)).heap[vb]? = some (.cells (vA rb sb ⟨NN, true, [], []⟩ none 0 none 0) 33 (0, 0)) := Dk.cell_put (off := 3) (.bool true) r2
  have r4 : (((w2.setCell ⟨vb, 2, none⟩ (.int .u64 (NN : Int))).setCell ⟨vb, 3, none⟩ (.bool true)).setCell ⟨vb, 4, none⟩ (.slice pr RB.length cr)).heap[vb]? = some (.cells (vA rb sb ⟨NN, true, RB, []⟩ pr cr none 0) 33 (0, 0)) := Dk.cell_put (off := 4) (.slice pr RB.length cr) r3
  obtain ⟨-, -, hy2, -, -, -⟩ := vA_cells r1
  have hz2 := frozen_of_row _ _ 2 _ _ r1
  obtain ⟨-, -, -, hy3, -, -⟩ := vA_cells r2
  have hz3 := frozen_of_row _ _ 3 _ _ r2
  obtain ⟨-, -, -, -, hy4, -⟩ := vA_cells r3
  have hz4 := frozen_of_row _ _ 4 _ _ r3
  have hT : Turns (fun k => k = vb) w2 (((w2.setCell ⟨vb, 2, none⟩ (.int .u64 (NN : Int))).setCell ⟨vb, 3, none⟩ (.bool true)).setCell ⟨vb, 4, none⟩ (.slice pr RB.length cr)) :=
   (((Turns.refl (fun k => k = vb) w2).setCell (p := ⟨vb, 2, none⟩) (fun _ => rfl) _).setCell (p := ⟨vb, 3, none⟩) (fun _ => rfl) _).setCell (p := ⟨vb, 4, none⟩) (fun _ => rfl) _
  have hv8 : ∀ k M fr, w2.heap[k]? = some (.cells M 5 fr) → ¬ k = vb := fun k M fr hm e => by
   rw [e, r1] at hm
   injection hm with e1
   injection e1 with _ e2
   exact absurd e2 (by decide)
  have HXW : Hid (XW base rb sb db vb d s ⟨NN, true, RB, []⟩ pr cr none 0 (((w2.setCell ⟨vb, 2, none⟩ (.int .u64 (NN : Int))).setCell ⟨vb, 3, none⟩ (.bool true)).setCell ⟨vb, 4, none⟩ (.slice pr RB.length cr))) :=
   HX2.out.put hT (fun k hk => .inl hk) hnl r4 (HRD.out.touch hT hv8) (LsO.nil _ _)
  have HKV : Hid (KV base w (((w2.setCell ⟨vb, 2, none⟩ (.int .u64 (NN : Int))).setCell ⟨vb, 3, none⟩ (.bool true)).setCell ⟨vb, 4, none⟩ (.slice pr RB.length cr))) := HK2.out.trans (HX2.out.kv hT (fun k hk => .inl hk))
  have HTV : Hid (Turns (fun k => k = vb) w (((w2.setCell ⟨vb, 2, none⟩ (.int .u64 (NN : Int))).setCell ⟨vb, 3, none⟩ (.bool true)).setCell ⟨vb, 4, none⟩ (.slice pr RB.length cr))) := HT2.out.trans hT (fun _ _ hS => hS)
  clear r1 r2 r3 r4 hT hv8 HRD HX2 HK2 HT2
  go_upto_region 7 with fail
  generalize ((w2.setCell ⟨vb, 2, none⟩ (.int .u64 (NN : Int))).setCell ⟨vb, 3, none⟩ (.bool true)).setCell ⟨vb, 4, none⟩ (.slice pr RB.length cr) = w3 at *
  clear hy2 hy3 hy4 hz2 hz3 hz4
  obtain ⟨v0, hv0⟩ : ∃ v0 : VS, v0 = ⟨NN, true, RB, []⟩ := ⟨_, rfl⟩
  have HAF : Hid (v0.after.length = 0) := by rw [hv0]; exact rfl
  have HSTART : Hid (startV s = some v0) := by rw [hv0]; exact HSTART0.out
  rw [← hv0] at HXW
  clear hv0 HSTART0
  skip
  obtain ⟨hc0, -, hc2, -, -, hc5⟩ := vA_cells HXW.out.row
  have hbo := bodies_any w3 (HKV.out.etype HE.out HG.out) HXW.out.sx.dx HXW.out.rol (by omega)
  obtain ⟨L, hL⟩ : ∃ L, (scan (fD d 0).now).1 = L := ⟨_, rfl⟩
  have HLC := Lib.hid (scan_count (fD d 0).now)
  have HLB := Lib.hid (fun x (hx : x ∈ (scan (fD d 0).now).1) => ((scan_len _ (fD d 0).now (Nat.le_refl _)).2.2 x hx).2)
  have HFV : Hid (fillV s (scan (fD d 0).now).1 = runV v0 (scan (fD d 0).now).1) := by show _ = _; unfold fillV; rw [HSTART.out]; rfl
  have HNW := Lib.hid (HXW.out.sx.dx.le (i := 0) (by omega))
  unfold BodP at hbo
  rw [hL] at hbo HLC HLB HFV
  have HBO := Lib.hid hbo
  have HFP : Hid (∀ (v : VS) (w' : World), runV v0 L = some v → KV base w w' ∧ Turns (fun k => k = vb) w w' → XV base rb sb db vb d s v w' → FillP base rb sb db vb d s w (.returned .nilIface) w') := fun v w' h1 h2 h3 => ⟨h2.1, h2.2, .inl ⟨v, by rw [hL, HFV.out]; exact h1, rfl, h3⟩⟩
  have HFN : Hid (∀ (v : VS) (ob : Nat) (w' : World), runV v0 L = none → KV base w w' ∧ Turns (fun k => k = vb) w w' → XV base rb sb db vb d s v w' → w.heap.size ≤ ob → OddAt w' ob → FillP base rb sb db vb d s w (.returned (.iface 94 (.pointer (some ⟨ob, 0, none⟩)))) w') := fun v ob w' h1 h2 h3 h4 h5 => ⟨h2.1, h2.2, .inr ⟨by rw [hL, HFV.out]; exact h1, ob, rfl, h4, h5, v, h3⟩⟩
  clear hbo hL
  go_wp2_with fail
  refine HBO.out.mono ?_
  rintro e w5 ⟨p5, c5, rfl, hls, hb5⟩
  have HLN : Hid (L.length ≤ 65536) := by show _ ≤ _; have := HLC.out; have := HNW.out; omega
  have HFL0 : Hid (FL base rb sb db vb d s v0 v0 pr cr none 0 L (.slice p5 L.length c5) w3.heap.size 0 w w5) :=
   ⟨HXW.out.below hb5, rfl, hls, (fun k _ hh => by cases hh), (by have := HAF.out; omega), HKV.out.next hb5, Nat.le_trans HKV.out.size hb5.size, HTV.out.trans (Turns.of_below (S := fun k => k = vb) hb5) (fun _ _ hS => hS), (fun k hh => by cases hh)⟩
  have hlb : L.length ≤ 65536 := HLN.out
  have hlc : L.length ≤ c5 := by
   obtain ⟨hs9, g1, _⟩ := hls.all
   obtain ⟨p1, c1, he, hs⟩ := own_sl g1
   cases he
   exact hs.le
  clear hls hb5 HBO hc0 hc2 hc5
  generalize w3.heap.size = B5 at *
  go_wp2_with fail
  go_loopw [9, 10, 11, 12, 48, 58, 62, 69] (fun _ _ _ _ j _ _ _ wr => ∃ (i : Nat) (v : VS) (pb : Option Addr) (cb : Nat) (pa : Option Addr) (ca : Nat), i ≤ L.length ∧ j = .int .i64 i ∧ FL base rb sb db vb d s v0 v pb cb pa ca L (.slice p5 L.length c5) B5 i w wr) (fun _ _ _ _ j _ _ _ _ => L.length - (intOf j).toNat)
  case atStart => exact ⟨0, v0, pr, cr, none, 0, Nat.zero_le _, rfl, by have h1 := HFL0.out; have h2 := HAF.out; exact h1⟩
  case round =>
   clear HFL0 HXW HKV HTV
   obtain ⟨i, v, pb, cb, pa, ca, hi, rfl, hfl⟩ := hrel
   have HFL := Lib.hid hfl
   clear hfl
   by_cases hlt : i < L.length
   ·have hd1 : decide ((i : Int) < (L.length : Int)) = true := decide_eq_true (by omega)
    have hd2 : decide (i < L.length) = true := decide_eq_true hlt
    have hi1 : (i : Int) < (L.length : Int) := by omega
    obtain ⟨pq, cq, hv, hpt⟩ := HFL.out.ls.ls.sl
    cases hv
    obtain ⟨b, o, rfl⟩ := hpt.addr (by omega)
    obtain ⟨q, m, k, hcl, hbs⟩ := hpt.cell _ rfl i hlt
    rw [add_none] at hcl
    obtain rfl := hbs.length
    have HX65 := Lib.hid (HLB.out _ (List.getElem_mem hlt))
    have HSP := Lib.hid (split_any q k L[i] 1 (Nat.le_refl _) wr (HFL.out.kv.etype HE.out HG.out) hbs (by have := HX65.out; omega))
    have HLI : Hid (∀ b, L[i] = b → L[i] = b) := fun _ h => h
    obtain ⟨X, hX⟩ : ∃ X, L[i] = X := ⟨_, rfl⟩
    have HIX := Lib.hid (And.intro hlt hX)
    rw [hX] at HSP hcl HX65
    clear hbs HLI hX hpt
    go_wp2_with fail
    refine HSP.out.mono ?_
    rintro e w6 ⟨hb6, hcase⟩
    have HF6 := Lib.hid (HFL.out.below hb6)
    have HSZ := Lib.hid hb6.size
    have HLW := Lib.hid HFL.out.low
    have HBW : Hid (base ≤ wr.heap.size) := HFL.out.xw.sx.dx.1
    obtain ⟨-, -, hv2, -, -, hv5⟩ := vA_cells HF6.out.xw.row
    clear hb6 hcl HSP HFL
    rcases hcase with ⟨h9, pr, cr, rfl, hor⟩ | ⟨h9, ob, rfl, hob, hodd⟩
    rotate_left
    ·have HST : Hid (stepV v X = none) := by show _ = _; unfold stepV; rw [if_pos (by omega)]
     have HEND := Lib.hid (HFN.out v ob w6 (HF6.out.bad HIX.out.1 HIX.out.2 HST.out) ⟨HF6.out.kv, HF6.out.tv⟩ ⟨_, _, _, _, HF6.out.xw⟩ (by have := HLW.out; omega) hodd)
     clear h9 hob hodd
     go_wp2_with fail
     go_ret
     exact HEND.out
    have hnl := n8_lt X
    have hvl := HF6.out.xw.last
    have HXL : Hid (¬ X.length < 9) := by show ¬ _; omega
    have HOR := Lib.hid hor
    clear hor h9
    obtain ⟨NN, hNN⟩ : ∃ NN, Rdr.beN (X.take 8) = NN := ⟨_, rfl⟩
    have HNN := Lib.hid hNN
    rw [hNN] at hnl ⊢
    clear hNN
    by_cases hle : NN ≤ v.last
    ·have hd3 : decide ((NN : Int) ≤ (v.last : Int)) = true := decide_eq_true (by omega)
     have hd4 : decide (NN ≤ v.last) = true := decide_eq_true hle
     have HST : Hid (stepV v X = some v) := by show _ = _; unfold stepV; rw [if_neg HXL.out, HNN.out, if_pos hle]
     have HFZ := Lib.hid (HF6.out.same HIX.out.1 HIX.out.2 HST.out)
     clear hle HOR
     go_wp2_with fail
     go_roundw
     case rel => exact ⟨i + 1, v, pb, cb, pa, ca, HIX.out.1, by go_num, HFZ.out⟩
     case measure => have := HIX.out.1; simp [intOf]; omega
    ·have hd3 : decide ((NN : Int) ≤ (v.last : Int)) = false := decide_eq_false (by omega)
     have hd4 : decide (NN ≤ v.last) = false := decide_eq_false hle
     have hw1 : IntKind.u64.wrap ((v.last : Int) + 1) = (v.last : Int) + 1 := by rw [IntKind.wrap_u64]; omega
     by_cases heq : NN = v.last + 1
     rotate_left
     ·have q1 : ((NN : Int) == (v.last : Int) + 1) = false := beq_eq_false_iff_ne.2 (by omega)
      have q2 : ((NN : Int) != (v.last : Int) + 1) = true := bne_iff_ne.2 (by omega)
      have HST : Hid (stepV v X = none) := by show _ = _; unfold stepV; rw [if_neg HXL.out, HNN.out, if_neg hle, if_neg heq]
      have HBA := Lib.hid (HF6.out.bad HIX.out.1 HIX.out.2 HST.out)
      have hal := Below.allocs w6 (.cells #[.iface 25 (.int .i64 4)] 140)
      have hod : OddAt (w6.alloc (.cells #[.iface 25 (.int .i64 4)] 140)) w6.heap.size := heap_alloc_last w6 _
      have HEND := Lib.hid (HFN.out v w6.heap.size _ HBA.out ⟨HF6.out.kv.next hal, HF6.out.tv.trans (Turns.of_below (S := fun k => k = vb) hal) (fun _ _ hS => hS)⟩ ⟨_, _, _, _, HF6.out.xw.below hal⟩ HF6.out.low hod)
      have hBU := built_oddI
      clear hle heq hal hod HOR
      go_wp2_with (refine Rdr.wpList_build rfl 140 _ rfl [(0, .iface 25 (.int .i64 4))] rfl _ hBU ?_)
      go_ret
      exact HEND.out
     have q1 : ((NN : Int) == (v.last : Int) + 1) = true := beq_iff_eq.2 (by omega)
     have q2 : ((NN : Int) != (v.last : Int) + 1) = false := by rw [bne_eq_false_iff_eq]; omega
     have HST : Hid (stepV v X = some ⟨NN, v.some, v.body, v.after ++ [X.drop 8]⟩) := by show _ = _; unfold stepV; rw [if_neg HXL.out, HNN.out, if_neg hle, if_pos heq]
     clear hle heq
     obtain ⟨RB, hRB⟩ : ∃ RB, X.drop 8 = RB := ⟨_, rfl⟩
     rw [hRB] at HST HOR ⊢
     clear hRB
     obtain ⟨hs', hl1, hl2⟩ := HF6.out.xw.ls.all
     have hal := Below.allocs w6 (.cells #[.slice pr RB.length cr] 22)
     have HO8 := Lib.hid (own_touch hl1 (Turns.of_below (S := fun _ => False) hal) (fun _ _ h => h))
     have HX8 := Lib.hid (hdr_sl w6 (.slice pr RB.length cr) 22 w6.heap.size rfl)
     have HS8 : Hid (base ≤ (w6.alloc (.cells #[.slice pr RB.length cr] 22)).heap.size) := Nat.le_trans HF6.out.xw.sx.dx.1 hal.size
     have hva : v.after.length ≤ 65536 := by have := HF6.out.len; have := HIX.out.1; omega
     have HOX := Lib.hid (own_base (base' := base) HOR.out (fun k hk => Nat.le_trans HBW.out (own_ge HOR.out k hk)))
     clear hal
     go_wp2_with (first
      | (at_builtin; refine wpList_append_nx rfl _ _ 31 rfl (base := base) Tryz.underlying31 infoS rfl (by omega) rfl HO8.out rfl HX8.out (fun u hu => by rw [List.mem_singleton] at hu; subst hu; rfl) ⟨by omega, by omega⟩ HS8.out ?_))
     intro p9 c9 w9 ho9 hgr hnx _
     obtain ⟨hpu, hr3, hr4⟩ := HF6.out.push HIX.out.1 HIX.out.2 HST.out hnl HOX.out hl1 hl2 ho9 hgr (fun k hk => by rw [World.size_alloc]; exact hnx k hk) rfl
     have HFZ := Lib.hid hpu
     obtain ⟨-, -, hy2, -, -, -⟩ := vA_cells hr3
     have hz2 := frozen_of_row _ _ 2 _ _ hr3
     obtain ⟨-, -, -, -, -, hy5⟩ := vA_cells hr4
     have hz5 := frozen_of_row _ _ 5 _ _ hr4
     clear ho9 hgr hnx hpu hr3 hr4 hv2 hv5 hl1 hl2 HO8 HX8 HS8 HOX
     go_wp2_with fail
     go_roundw
     case rel => exact ⟨i + 1, ⟨NN, v.some, v.body, v.after ++ [RB]⟩, pb, cb, p9, c9, HIX.out.1, by go_num, HFZ.out⟩
     case measure => have := HIX.out.1; simp [intOf]; omega
   ·have hd1 : decide ((i : Int) < (L.length : Int)) = false := decide_eq_false (by omega)
    have hd2 : decide (i < L.length) = false := decide_eq_false hlt
    have hrn := HFL.out.run
    rw [List.take_of_length_le (by omega)] at hrn
    have HEND := Lib.hid (HFP.out v wr hrn ⟨HFL.out.kv, HFL.out.tv⟩ ⟨_, _, _, _, HFL.out.xw⟩)
    clear hrn hlt
    go_wp2_with fail
    go_ret
    exact HEND.out
end Go.Proofs.YtnejjfglkindjaaGreatDoor.Vlt
namespace Go.Proofs.YtnejjfglkindjaaGreatDoor.Vlt
open Go.RowKit Go.Mir Go.Mir.Parts Dk Rol Wr Slt Cut
open Frm (frame scan)
theorem load_len (l : List UInt8) : (loadP l).2.length ≤ 65536 := by
 unfold loadP
 split
 ·have := one_len l
  show (List.drop _ _).length ≤ _
  rw [List.length_drop]; omega
 ·exact Nat.zero_le _
theorem bet_len {s : SS} {f : Nat} {l : List UInt8} (h : s.body.length ≤ 65536) : (bet s f l).body.length ≤ 65536 := by
 unfold bet
 split
 ·exact load_len l
 ·exact h
theorem opn_len (d : DD) (a b : Nat) : (opnS d a b).body.length ≤ 65536 := bet_len (bet_len (Nat.zero_le _))
def vopF (d : DD) : Option VS := fillV (opnS d 1 2) (scan (fD (opnD d 0) 0).now).1
structure VOpenP (base db : Nat) (d : DD) (w : World) (e : Ending) (w' : World) : Prop where
 kt : KT base w w'
 say : (opnE d 0 ≠ 0 ∧ e = .returned (.tuple #[.pointer none, .int .i64 (opnE d 0)]) ∧ DX base db (opnD d 0) w') ∨
  (opnE d 0 = 0 ∧ ∃ v rb sb vb, vopF d = some v ∧ e = .returned (.tuple #[.pointer (some ⟨vb, 0, none⟩), .int .i64 0]) ∧ XV base rb sb db vb (opnD d 0) (opnS d 1 2) v w')
set_option maxRecDepth 100000 in
set_option maxHeartbeats 3200000 in
theorem vopen_any {base db : Nat} {d : DD} (w : World) (hE : Rdr.EType w) (hg : 0 < base) (hX : DX base db d w) (hdn : d.down = false) (hfew : (fD d 0).steps.length + 1 ≤ 4398046511104) (hf : opnE d 0 = 0 → vopF d ≠ none) :
  Calls Tryz.prog 7 #[.pointer (some ⟨db, 0, none⟩)] w (VOpenP base db d w) := by
 have HE := Lib.hid hE
 have HG := Lib.hid hg
 have HFN := Lib.hid hf
 have HFW := Lib.hid hfew
 have HSO := Lib.hid (sopen_any w hE hX 1 2 (by omega) (by omega) (by omega) hdn)
 clear hE hg hX hdn hf hfew
 go_enter Tryz.func7, Tryz.ntmps7
 go_wp2_with fail
 refine HSO.out.mono ?_
 rintro e w1 ⟨sb, rfl, hs1, hb1⟩
 have HS1 := Lib.hid hs1
 have HB1 := Lib.hid hb1
 have HRO := Lib.hid (open_any w1 (HE.out.below hb1 HE.out.lt) hs1.dx (i := 0) (by omega) HFW.out)
 clear hs1 hb1 HSO
 go_wp2_with fail
 refine HRO.out.mono ?_
 rintro e w2 ⟨hdx, hkt, hsay⟩
 have HS2 := Lib.hid (HS1.out.kt hkt hdx)
 have HK2 : Hid (KT base w w2) := (KT.of_below HB1.out).trans hkt
 have HD2 := Lib.hid hdx
 clear hkt hdx HRO HS1
 rcases hsay with ⟨h0, rb, rfl, hrol⟩ | ⟨h0, rfl⟩
 rotate_left
 ·have q1 : (opnE d 0 == 0) = false := beq_eq_false_iff_ne.2 h0
  have q2 : (opnE d 0 != 0) = true := bne_iff_ne.2 h0
  have HV : Hid (VOpenP base db d w (.returned (.tuple #[.pointer none, .int .i64 (opnE d 0)])) w2) := ⟨HK2.out, .inl ⟨h0, rfl, HD2.out⟩⟩
  clear h0
  generalize opnE d 0 = EE at *
  go_wp2_with fail
  go_ret2
  exact HV.out
 have HV : Hid (∀ (v : VS) (vb : Nat) (w' : World), KT base w w' → vopF d = some v → XV base rb sb db vb (opnD d 0) (opnS d 1 2) v w' → VOpenP base db d w (.returned (.tuple #[.pointer (some ⟨vb, 0, none⟩), .int .i64 0])) w') := fun v vb w' h1 h2 h3 => ⟨h1, .inr ⟨h0, v, rb, sb, vb, h2, rfl, h3⟩⟩
 have HNN := Lib.hid (HFN.out h0)
 have HBO := Lib.hid (opn_body d 1 2)
 have HLN := Lib.hid (opn_len d 1 2)
 have HVF : Hid (vopF d = fillV (opnS d 1 2) (scan (fD (opnD d 0) 0).now).1) := rfl
 have hal := Below.allocs w2 (.cells (vA rb sb VS.zero none 0 none 0) 33)
 have HXW : Hid (XW base rb sb db w2.heap.size (opnD d 0) (opnS d 1 2) VS.zero none 0 none 0 (w2.alloc (.cells (vA rb sb VS.zero none 0 none 0) 33))) :=
  ⟨HS2.out.below hal, hrol.below hal, HD2.out.1, by show 0 < _; omega, heap_alloc_last w2 _, .inl ⟨rfl, rfl⟩, LsO.nil _ _⟩
 have HK3 := Lib.hid (HK2.out.next hal)
 have HSZ2 : Hid (w.heap.size ≤ w2.heap.size) := HK2.out.size
 have hbv := built_v rb sb
 clear h0 hal hrol HS2 HK2 HD2 HFN HFW HB1
 go_upto_region 8 with (refine Rdr.wpList_build rfl 33 _ rfl [(0, .pointer (some ⟨rb, 0, none⟩)), (1, .pointer (some ⟨sb, 0, none⟩))] rfl _ hbv ?_)
 generalize w2.alloc (.cells (vA rb sb VS.zero none 0 none 0) 33) = w3 at *
 generalize w2.heap.size = vb at *
 have HFI := Lib.hid (fill_any w3 (HK3.out.etype HE.out HG.out) HG.out HXW.out HBO.out (by have := HLN.out; omega))
 clear hbv HXW
 go_wp2_with fail
 refine HFI.out.mono ?_
 rintro e w4 ⟨-, hk4, hcase⟩
 rw [← HVF.out] at hcase
 rcases hcase with ⟨v, hv, rfl, hxv⟩ | ⟨hv, _⟩
 rotate_left
 ·exact absurd hv HNN.out
 have hal := Below.allocs w4 (.cells #[.pointer none] 94)
 obtain ⟨pb, cb, pa, ca, hx⟩ := hxv
 have HEND := Lib.hid (HV.out v vb _ (KT.next (Turns.trans HK3.out hk4 (fun k hk hS => by have := HSZ2.out; have hS : k = vb := hS; omega)) hal) hv ⟨pb, cb, pa, ca, hx.below hal⟩)
 clear hk4 hv hx hal HFI HV
 go_wp2_with fail
 refine (Er.as_nil _ _).mono ?_
 rintro e w' ⟨rfl, rfl⟩
 go_wp2_with fail
 go_ret2
 exact HEND.out
end Go.Proofs.YtnejjfglkindjaaGreatDoor.Vlt
namespace Go.Proofs.YtnejjfglkindjaaGreatDoor.Eo
open Go.RowKit Go.Mir Go.Extern.Stop Go.Stop Go.Extern
theorem run_equalIn_iface_int {P : Program} (w : World) (d : Nat) {ti tn : TypeId} {ms : Array (String × TypeId)} {i : TypeInfo} {k : IntKind} (a b : Int)
  (hi : P.underlying ti = some (.interface ms)) (hn : P.underlying tn = some (.int k)) (hinfo : P.info? tn = some i) (hcomp : i.comparable = true) :
  (Op.equalIn (d + 2) ti (.iface tn (.int k a)) (.iface tn (.int k b))).run P w = .ok (a == b) w := by
 simp [Op.equalIn, run_underlying hi, run_underlying hn, typeInfo, hinfo, hcomp]
theorem run_eql_iface_int {P : Program} (w : World) {ti tn : TypeId} {ms : Array (String × TypeId)} {i : TypeInfo} {k : IntKind} (a b : Int)
  (hi : P.underlying ti = some (.interface ms)) (hn : P.underlying tn = some (.int k)) (hinfo : P.info? tn = some i) (hcomp : i.comparable = true) :
  (binOp .eql ti (.iface tn (.int k a)) (.iface tn (.int k b))).run P w = .ok (.bool (a == b)) w := by
 simp only [binOp]
 simp [Op.equal, Op.maxDepth, run_equalIn_iface_int w 9998 a b hi hn hinfo hcomp]
theorem isTypeOf (v : Value) (w : World) : (Extern.ReflectliteType.typeOf #[.iface 25 v]).run Tryz.prog w = .ok (.iface 187 (.agg #[.pointer (some ⟨1, 25, none⟩)])) w := by kernel_rfl
def compF : Array Value → Sem Value := Extern.ReflectliteType.method fun t => do Rtype.noPackHeld "Comparable" t; pure (.bool (← typeInfo t).comparable)
theorem isComparable (w : World) : (compF #[.agg #[.pointer (some ⟨1, 25, none⟩)]]).run Tryz.prog w = .ok (.bool true) w := by kernel_rfl
theorem isMethodComparable (v : Value) (w : World) : (Go.method 355 187 v "Comparable").run Tryz.prog w = .ok (166, v) w := by kernel_rfl
theorem isComp : (Tryz.prog.info? 25).map (·.comparable) = some true := by kernel_rfl
theorem noIsF (v : Value) (xT : TypeId) (w : World) : (Instr.typeAssert (.iface 94 v) xT 198 true).run Tryz.prog w = .ok (.tuple #[.nilIface, .bool false]) w := run_typeAssert_lacksB Tryz.underlying198 (by kernel_rfl) (by kernel_rfl) v xT w
theorem hasUnwrapF (v : Value) (xT : TypeId) (w : World) : (Instr.typeAssert (.iface 94 v) xT 194 true).run Tryz.prog w = .ok (.tuple #[.iface 94 v, .bool true]) w := run_typeAssert_hasB Tryz.underlying194 (by kernel_rfl) v xT w
theorem noIsE (v : Value) (xT : TypeId) (w : World) : (Instr.typeAssert (.iface 25 v) xT 198 true).run Tryz.prog w = .ok (.tuple #[.nilIface, .bool false]) w := run_typeAssert_lacksB Tryz.underlying198 (by kernel_rfl) (by kernel_rfl) v xT w
theorem noUnwrapE (v : Value) (xT : TypeId) (w : World) : (Instr.typeAssert (.iface 25 v) xT 194 true).run Tryz.prog w = .ok (.tuple #[.nilIface, .bool false]) w := run_typeAssert_lacksB Tryz.underlying194 (by kernel_rfl) (by kernel_rfl) v xT w
theorem noUnwrapsE (v : Value) (xT : TypeId) (w : World) : (Instr.typeAssert (.iface 25 v) xT 195 true).run Tryz.prog w = .ok (.tuple #[.nilIface, .bool false]) w := run_typeAssert_lacksB Tryz.underlying195 (by kernel_rfl) (by kernel_rfl) v xT w
theorem methodUnwrap (v : Value) (w : World) : (Go.method 355 94 v "Unwrap").run Tryz.prog w = .ok (154, v) w := by kernel_rfl
theorem is_odd (fb : Nat) (e z : Int) (w : World) (hc : w.cell? ⟨fb, 0, none⟩ = some (.iface 25 (.int .i64 e))) :
  Calls Tryz.prog 37 #[.iface 94 (.pointer (some ⟨fb, 0, none⟩)), .iface 25 (.int .i64 z)] w fun ev w' => ev = .returned (.bool (e == z)) ∧ w = w' := by
 obtain ⟨i, hi, hcmp⟩ := Option.map_eq_some_iff.1 isComp
 have h8 := @run_callFunc_extern Tryz.prog 75 _ Extern.ReflectliteType.typeOf Tryz.func75 (by kernel_rfl) (by kernel_rfl) (by kernel_rfl) (by kernel_rfl)
 have h32 := @run_callFunc_extern Tryz.prog 166 _ compF Tryz.func166 (by kernel_rfl) (by kernel_rfl) (by kernel_rfl) (by kernel_rfl)
 have tT := isTypeOf
 have cT := isComparable
 have mR := isMethodComparable
 have nF := noIsF
 have uF := hasUnwrapF
 have nE := noIsE
 have uE := noUnwrapE
 have vE := noUnwrapsE
 have mU := methodUnwrap
 have heq := run_eql_iface_int (P := Tryz.prog) w e z Tryz.underlying92 Tryz.underlying25 hi hcmp
 have hty := run_eql_iface_types (P := Tryz.prog) 94 25 (.pointer (some ⟨fb, 0, none⟩)) (.int .i64 z) Tryz.underlying92 (by decide) w
 cases hez : e == z with
 | true =>
  rw [hez] at heq
  clear hez
  go_enter Tryz.func37, Tryz.ntmps37
  go_wp2
  refine wp_loop_rounds 2 ?_
  rw [rounds_succ]
  go_wp2
  rw [rounds_succ]
  go_wp2
  go_ret
  exact ⟨rfl, rfl⟩
 | false =>
  rw [hez] at heq
  clear hez
  go_enter Tryz.func37, Tryz.ntmps37
  go_wp2
  refine wp_loop_rounds 2 ?_
  rw [rounds_succ]
  go_wp2
  rw [rounds_succ]
  go_wp2
  go_ret
  exact ⟨rfl, rfl⟩
theorem as_nil (t : Value) (w : World) : Calls Tryz.prog 36 #[.nilIface, t] w fun e w' => e = .returned (.bool false) ∧ w = w' := by
 go_enter Tryz.func36, Tryz.ntmps36
 go_wp2
 go_ret
 exact ⟨rfl, rfl⟩
theorem valueOf27 (t : Addr) (w : World) : (ReflectliteValue.unpack (.iface 96 (.pointer (some t)))).run Tryz.prog w
  = .ok (.agg #[.pointer (some ⟨1, 96, none⟩), .pointer (some ⟨w.heap.size, 0, none⟩), .int .u64 150]) (w.alloc (.cells #[.pointer (some t)] 96)) := by kernel_rfl
theorem type27 (a : Addr) (w : World) : (ReflectliteValue.methodAny (ReflectliteValue.valueError "reflectlite.Value.Type" 0) (fun t _ _ _ => ReflectliteType.toType t) #[.agg #[.pointer (some ⟨1, 96, none⟩), .pointer (some a), .int .u64 150]]).run Tryz.prog w
  = .ok (.iface 187 (.agg #[.pointer (some ⟨1, 96, none⟩)])) w := by kernel_rfl
theorem methodKind (h : Value) (w : World) : (Go.method 355 187 (.agg #[h]) "Kind").run Tryz.prog w = .ok (148, h) w := by kernel_rfl
theorem kind27 (w : World) : ((ReflectliteType.abiMethod fun t => (fun a : Nat => Value.int IntKind.u8 (a : Int)) <$> Rtype.kind t) #[.pointer (some ⟨1, 96, none⟩)]).run Tryz.prog w = .ok (.int .u8 22) w := by kernel_rfl
theorem kind25 (w : World) : ((ReflectliteType.abiMethod fun t => (fun a : Nat => Value.int IntKind.u8 (a : Int)) <$> Rtype.kind t) #[.pointer (some ⟨1, 94, none⟩)]).run Tryz.prog w = .ok (.int .u8 22) w := by kernel_rfl
theorem rlm (z : Sem Value) (f : TypeId → Addr → Nat → Nat → Sem Value) (v : Value) :
  ReflectliteValue.method z f #[v] = (do match ← ReflectliteValue.parts v with | none => z | some (t, a, fl) => f t a fl (fl % 32)) := rfl
theorem parts27 (a : Addr) (w : World) : (ReflectliteValue.parts (.agg #[.pointer (some ⟨1, 96, none⟩), .pointer (some a), .int .u64 150])).run Tryz.prog w = .ok (some (96, a, 150)) w := by kernel_rfl
theorem isNil27 (a p : Addr) (W : World) (ha : W.cell? a = some (.pointer (some p))) :
  (ReflectliteValue.method (ReflectliteValue.valueError "reflectlite.Value.IsNil" 0) ReflectliteValue.isNil #[.agg #[.pointer (some ⟨1, 96, none⟩), .pointer (some a), .int .u64 150]]).run Tryz.prog W = .ok (.bool false) W := by
 rw [rlm]
 simp only [Sem.run_bind, parts27, Result.andThen]
 simp [ReflectliteValue.isNil, loadVar, isAgg, underlying, Tryz.underlying96, ha, Result.andThen]
theorem methodElem (h : Value) (w : World) : (Go.method 355 187 (.agg #[h]) "Elem").run Tryz.prog w = .ok (167, .agg #[h]) w := by kernel_rfl
theorem methodImplements (h : Value) (w : World) : (Go.method 355 187 (.agg #[h]) "Implements").run Tryz.prog w = .ok (168, .agg #[h]) w := by kernel_rfl
theorem methodAssignableTo (h : Value) (w : World) : (Go.method 355 187 (.agg #[h]) "AssignableTo").run Tryz.prog w = .ok (165, .agg #[h]) w := by kernel_rfl
theorem elem27 (w : World) : (ReflectliteType.method ReflectliteType.elem #[.agg #[.pointer (some ⟨1, 96, none⟩)]]).run Tryz.prog w = .ok (.iface 187 (.agg #[.pointer (some ⟨1, 94, none⟩)])) w := by kernel_rfl
theorem implements25 (w : World) : (ReflectliteType.relation "Implements" ReflectliteType.implements_ #[.agg #[.pointer (some ⟨1, 94, none⟩)], .iface 187 (.agg #[.pointer (some ⟨1, 92, none⟩)])]).run Tryz.prog w = .ok (.bool true) w := by kernel_rfl
theorem typeOf25 (v : Value) (w : World) : (ReflectliteType.typeOf #[.iface 94 v]).run Tryz.prog w = .ok (.iface 187 (.agg #[.pointer (some ⟨1, 94, none⟩)])) w := by kernel_rfl
theorem assignable25 (w : World) : (ReflectliteType.relation "AssignableTo" ReflectliteType.assignableTo #[.agg #[.pointer (some ⟨1, 94, none⟩)], .iface 187 (.agg #[.pointer (some ⟨1, 94, none⟩)])]).run Tryz.prog w = .ok (.bool true) w := by kernel_rfl
theorem valueOf25 (e : Addr) (w : World) : (ReflectliteValue.unpack (.iface 94 (.pointer (some e)))).run Tryz.prog w
  = .ok (.agg #[.pointer (some ⟨1, 94, none⟩), .pointer (some ⟨w.heap.size, 0, none⟩), .int .u64 150]) (w.alloc (.cells #[.pointer (some e)] 94)) := by kernel_rfl
theorem elemOf27 (w : World) : (Rtype.elem? 96).run Tryz.prog w = .ok (some 94) w := by kernel_rfl
theorem mk25 (p : Addr) (w : World) : (ReflectliteValue.mk 94 p ReflectliteValue.flagAddr).run Tryz.prog w = .ok (.agg #[.pointer (some ⟨1, 94, none⟩), .pointer (some p), .int .u64 406]) w := by kernel_rfl
theorem elemV27 (a p : Addr) (W : World) (ha : W.cell? a = some (.pointer (some p))) :
  (ReflectliteValue.method (ReflectliteValue.valueError "reflectlite.Value.Elem" 0) ReflectliteValue.elem #[.agg #[.pointer (some ⟨1, 96, none⟩), .pointer (some a), .int .u64 150]]).run Tryz.prog W
   = .ok (.agg #[.pointer (some ⟨1, 94, none⟩), .pointer (some p), .int .u64 406]) W := by
 rw [rlm]
 simp only [Sem.run_bind, parts27, Result.andThen]
 simp [ReflectliteValue.elem, loadVar, isAgg, underlying, Tryz.underlying96, ha, Result.andThen, elemOf27, mk25]
theorem rls (v x : Value) : ReflectliteValue.set #[v, x] = (do
  let (some (dst, a, fl), some (src, b, _)) := (← ReflectliteValue.parts v, ← ReflectliteValue.parts x)
   | unsupported (.noEntry "extern/(internal/reflectlite.Value).Set.zeroValue")
  if fl / ReflectliteValue.flagAddr % 2 == 0 then unsupported (.noEntry "extern/(internal/reflectlite.Value).Set.unaddressable")
  let val ← loadVar src b
  if ← Rtype.directlyAssignable dst src then storeVar dst a val
  else if ← Rtype.implements dst src then
   if (← Rtype.kind src) == 20 then
    match val with
    | .nilIface => unsupported (.noEntry "extern/reflectlite: a nil value of one interface type handed on as a value of another")
    | _ => storeVar dst a val
   else storeVar dst a (.iface src val)
  else panicString ("reflectlite.Set: value of type " ++ (← Rtype.spelt src) ++ " is not assignable to type " ++ (← Rtype.spelt dst))
  pure (.tuple #[])) := rfl
theorem parts25a (a : Addr) (w : World) : (ReflectliteValue.parts (.agg #[.pointer (some ⟨1, 94, none⟩), .pointer (some a), .int .u64 406])).run Tryz.prog w = .ok (some (94, a, 406)) w := by kernel_rfl
theorem parts25 (a : Addr) (w : World) : (ReflectliteValue.parts (.agg #[.pointer (some ⟨1, 94, none⟩), .pointer (some a), .int .u64 150])).run Tryz.prog w = .ok (some (94, a, 150)) w := by kernel_rfl
theorem direct25 (w : World) : (Rtype.directlyAssignable 94 94).run Tryz.prog w = .ok true w := by kernel_rfl
theorem set25 (ta b e : Addr) (old : Value) (W : World) (hb : W.cell? b = some (.pointer (some e))) (ht : W.cell? ta = some old) (hf : W.frozen? ta = false) :
  (ReflectliteValue.set #[.agg #[.pointer (some ⟨1, 94, none⟩), .pointer (some ta), .int .u64 406], .agg #[.pointer (some ⟨1, 94, none⟩), .pointer (some b), .int .u64 150]]).run Tryz.prog W
   = .ok (.tuple #[]) (W.setCell ta (.pointer (some e))) := by
 rw [rls]
 simp only [Sem.run_bind, parts25a, parts25, Result.andThen]
 simp [ReflectliteValue.flagAddr, loadVar, isAgg, underlying, Tryz.underlying94, hb, Result.andThen, direct25, storeVar, Value.cells, storeCells, Addr.add]
 rw [run_store Tryz.prog W ta _ _ (by rfl)]
 simp [ht, hf]
set_option maxHeartbeats 4000000 in
theorem as_hit (e t : Addr) (old : Value) (w : World) (hg : w.cell? ⟨0, 0, none⟩ = some (.iface 187 (.agg #[.pointer (some ⟨1, 92, none⟩)]))) (ht0 : w.cell? t = some old) (hf0 : w.frozen? t = false) :
  Calls Tryz.prog 36 #[.iface 94 (.pointer (some e)), .iface 96 (.pointer (some t))] w fun ev w' => ev = .returned (.bool true) ∧ w' = ((((w.alloc (.cells #[.pointer (some t)] 96)).alloc (.cells #[.pointer (some ⟨1, 96, none⟩), .pointer (some ⟨w.heap.size, 0, none⟩), .int .u64 150] 144)).alloc (.cells #[.pointer (some ⟨1, 96, none⟩), .pointer (some ⟨w.heap.size, 0, none⟩), .int .u64 150] 144)).alloc (.cells #[.pointer (some e)] 94)).setCell t (.pointer (some e)) := by
 have h6 := @run_callFunc_extern Tryz.prog 71 _ (fun args => ReflectliteValue.unpack (args.getD 0 (.tuple #[]))) Tryz.func71 (by kernel_rfl) (by kernel_rfl) (by kernel_rfl) (by kernel_rfl)
 have h7 := @run_callFunc_extern Tryz.prog 72 _ (ReflectliteValue.methodAny (ReflectliteValue.valueError "reflectlite.Value.Type" 0) (fun t _ _ _ => ReflectliteType.toType t)) Tryz.func72 (by kernel_rfl) (by kernel_rfl) (by kernel_rfl) (by kernel_rfl)
 have h8 := @run_callFunc_extern Tryz.prog 73 _ (ReflectliteValue.method (ReflectliteValue.valueError "reflectlite.Value.IsNil" 0) ReflectliteValue.isNil) Tryz.func73 (by kernel_rfl) (by kernel_rfl) (by kernel_rfl) (by kernel_rfl)
 have h27 := @run_callFunc_extern Tryz.prog 148 _ (ReflectliteType.abiMethod fun t => do pure (.int .u8 (← Rtype.kind t))) Tryz.func148 (by kernel_rfl) (by kernel_rfl) (by kernel_rfl) (by kernel_rfl)
 have h37 := @run_callFunc_extern Tryz.prog 167 _ (ReflectliteType.method ReflectliteType.elem) Tryz.func167 (by kernel_rfl) (by kernel_rfl) (by kernel_rfl) (by kernel_rfl)
 have h38 := @run_callFunc_extern Tryz.prog 168 _ (ReflectliteType.relation "Implements" ReflectliteType.implements_) Tryz.func168 (by kernel_rfl) (by kernel_rfl) (by kernel_rfl) (by kernel_rfl)
 have h10 := @run_callFunc_extern Tryz.prog 75 _ ReflectliteType.typeOf Tryz.func75 (by kernel_rfl) (by kernel_rfl) (by kernel_rfl) (by kernel_rfl)
 have h35 := @run_callFunc_extern Tryz.prog 165 _ (ReflectliteType.relation "AssignableTo" ReflectliteType.assignableTo) Tryz.func165 (by kernel_rfl) (by kernel_rfl) (by kernel_rfl) (by kernel_rfl)
 have h11 := @run_callFunc_extern Tryz.prog 113 _ (ReflectliteValue.method (ReflectliteValue.valueError "reflectlite.Value.Elem" 0) ReflectliteValue.elem) Tryz.func113 (by kernel_rfl) (by kernel_rfl) (by kernel_rfl) (by kernel_rfl)
 have h12 := @run_callFunc_extern Tryz.prog 114 _ ReflectliteValue.set Tryz.func114 (by kernel_rfl) (by kernel_rfl) (by kernel_rfl) (by kernel_rfl)
 have tO := typeOf25
 have mA := methodAssignableTo
 have a25 := assignable25
 have v25 := valueOf25
 have f6 := valueOf27
 have f7 := type27
 have mK := methodKind
 have mE := methodElem
 have mI := methodImplements
 have k27 := kind27
 have k25 := kind25
 have e27 := elem27
 have i25 := implements25
 have n8 := isNil27 ⟨w.heap.size, 0, none⟩ t ((w.alloc (.cells #[.pointer (some t)] 96)).alloc (.cells #[.pointer (some ⟨1, 96, none⟩), .pointer (some ⟨w.heap.size, 0, none⟩), .int .u64 150] 144)) (by simp)
 have hlt : 0 < w.heap.size := by
  rcases Nat.eq_zero_or_pos w.heap.size with h0 | h
  ·simp [World.cell?, h0] at hg
  ·exact h
 have hg2 : ((w.alloc (.cells #[.pointer (some t)] 96)).alloc (.cells #[.pointer (some ⟨1, 96, none⟩), .pointer (some ⟨w.heap.size, 0, none⟩), .int .u64 150] 144)).cell? ⟨0, 0, none⟩ = some (.iface 187 (.agg #[.pointer (some ⟨1, 92, none⟩)])) := by
  rw [World.cell?_alloc_lt _ _ ⟨0, 0, none⟩ (by simp), World.cell?_alloc_lt _ _ ⟨0, 0, none⟩ hlt]; exact hg
 have htl : t.block < w.heap.size := by
  rcases Nat.lt_or_ge t.block w.heap.size with h | h
  ·exact h
  ·simp [World.cell?, Array.getElem?_eq_none h] at ht0
 have el := elemV27 ⟨w.heap.size, 0, none⟩ t (((w.alloc (.cells #[.pointer (some t)] 96)).alloc (.cells #[.pointer (some ⟨1, 96, none⟩), .pointer (some ⟨w.heap.size, 0, none⟩), .int .u64 150] 144)).alloc (.cells #[.pointer (some ⟨1, 96, none⟩), .pointer (some ⟨w.heap.size, 0, none⟩), .int .u64 150] 144)) (by rw [World.cell?_alloc_lt _ _ ⟨w.heap.size, 0, none⟩ (by simp; omega)]; simp)
 have st := set25 t ⟨w.heap.size + 1 + 1 + 1, 0, none⟩ e old ((((w.alloc (.cells #[.pointer (some t)] 96)).alloc (.cells #[.pointer (some ⟨1, 96, none⟩), .pointer (some ⟨w.heap.size, 0, none⟩), .int .u64 150] 144)).alloc (.cells #[.pointer (some ⟨1, 96, none⟩), .pointer (some ⟨w.heap.size, 0, none⟩), .int .u64 150] 144)).alloc (.cells #[.pointer (some e)] 94))
  (by rw [World.cell?_alloc_at _ _ _ _ (by simp)]; rfl)
  (by rw [World.cell?_alloc_lt _ _ t (by simp; omega), World.cell?_alloc_lt _ _ t (by simp; omega), World.cell?_alloc_lt _ _ t (by simp; omega), World.cell?_alloc_lt _ _ t htl]; exact ht0)
  (by rw [World.frozen?_alloc_old _ _ t (by simp; omega), World.frozen?_alloc_old _ _ t (by simp; omega), World.frozen?_alloc_old _ _ t (by simp; omega), World.frozen?_alloc_old _ _ t (Nat.ne_of_lt htl)]; exact hf0)
 go_enter Tryz.func36, Tryz.ntmps36
 go_wp2
 refine wp_loop_rounds 1 ?_
 rw [rounds_succ]
 go_wp2
 go_ret
 exact ⟨rfl, rfl⟩
end Go.Proofs.YtnejjfglkindjaaGreatDoor.Eo
namespace Go.Proofs.YtnejjfglkindjaaGreatDoor.Vlt
open Go.RowKit Go.Mir Go.Mir.Parts Dk Rol Wr Slt Cut
open Frm (frame scan)
structure VOpenG (base db : Nat) (d : DD) (w : World) (e : Ending) (w' : World) : Prop where
 kt : KT base w w'
 say : (opnE d 0 = 0 ∧ vopF d = none ∧ e = .returned (.tuple #[.pointer none, .int .i64 4]) ∧ DX base db (opnD d 0) w') ∨ (opnE d 0 ≠ 0 ∧ e = .returned (.tuple #[.pointer none, .int .i64 (opnE d 0)]) ∧ DX base db (opnD d 0) w') ∨
  (opnE d 0 = 0 ∧ ∃ v rb sb vb, vopF d = some v ∧ e = .returned (.tuple #[.pointer (some ⟨vb, 0, none⟩), .int .i64 0]) ∧ XV base rb sb db vb (opnD d 0) (opnS d 1 2) v w')
set_option maxRecDepth 100000 in
set_option maxHeartbeats 3200000 in
theorem vopeng_any {base db : Nat} {d : DD} (w : World) (hE : Rdr.EType w) (hg : 0 < base) (hX : DX base db d w) (hdn : d.down = false) (hfew : (fD d 0).steps.length + 1 ≤ 4398046511104) :
  Calls Tryz.prog 7 #[.pointer (some ⟨db, 0, none⟩)] w (VOpenG base db d w) := by
 have HE := Lib.hid hE
 have HG := Lib.hid hg
 have HFW := Lib.hid hfew
 have HSO := Lib.hid (sopen_any w hE hX 1 2 (by omega) (by omega) (by omega) hdn)
 clear hE hg hX hdn hfew
 go_enter Tryz.func7, Tryz.ntmps7
 go_wp2_with fail
 refine HSO.out.mono ?_
 rintro e w1 ⟨sb, rfl, hs1, hb1⟩
 have HS1 := Lib.hid hs1
 have HB1 := Lib.hid hb1
 have HRO := Lib.hid (open_any w1 (HE.out.below hb1 HE.out.lt) hs1.dx (i := 0) (by omega) HFW.out)
 clear hs1 hb1 HSO
 go_wp2_with fail
 refine HRO.out.mono ?_
 rintro e w2 ⟨hdx, hkt, hsay⟩
 have HS2 := Lib.hid (HS1.out.kt hkt hdx)
 have HK2 : Hid (KT base w w2) := (KT.of_below HB1.out).trans hkt
 have HD2 := Lib.hid hdx
 clear hkt hdx HRO HS1
 rcases hsay with ⟨h0, rb, rfl, hrol⟩ | ⟨h0, rfl⟩
 rotate_left
 ·have q1 : (opnE d 0 == 0) = false := beq_eq_false_iff_ne.2 h0
  have q2 : (opnE d 0 != 0) = true := bne_iff_ne.2 h0
  have HV : Hid (VOpenG base db d w (.returned (.tuple #[.pointer none, .int .i64 (opnE d 0)])) w2) := ⟨HK2.out, .inr (.inl ⟨h0, rfl, HD2.out⟩)⟩
  clear h0
  generalize opnE d 0 = EE at *
  go_wp2_with fail
  go_ret2
  exact HV.out
 have HV : Hid (∀ (v : VS) (vb : Nat) (w' : World), KT base w w' → vopF d = some v → XV base rb sb db vb (opnD d 0) (opnS d 1 2) v w' → VOpenG base db d w (.returned (.tuple #[.pointer (some ⟨vb, 0, none⟩), .int .i64 0])) w') := fun v vb w' h1 h2 h3 => ⟨h1, .inr (.inr ⟨h0, v, rb, sb, vb, h2, rfl, h3⟩)⟩
 have HVN : Hid (∀ w', KT base w w' → vopF d = none → DX base db (opnD d 0) w' → VOpenG base db d w (.returned (.tuple #[.pointer none, .int .i64 4])) w') := fun w' h1 h2 h3 => ⟨h1, .inl ⟨h0, h2, rfl, h3⟩⟩
 have HBO := Lib.hid (opn_body d 1 2)
 have HLN := Lib.hid (opn_len d 1 2)
 have HVF : Hid (vopF d = fillV (opnS d 1 2) (scan (fD (opnD d 0) 0).now).1) := rfl
 have hal := Below.allocs w2 (.cells (vA rb sb VS.zero none 0 none 0) 33)
 have HXW : Hid (XW base rb sb db w2.heap.size (opnD d 0) (opnS d 1 2) VS.zero none 0 none 0 (w2.alloc (.cells (vA rb sb VS.zero none 0 none 0) 33))) :=
  ⟨HS2.out.below hal, hrol.below hal, HD2.out.1, by show 0 < _; omega, heap_alloc_last w2 _, .inl ⟨rfl, rfl⟩, LsO.nil _ _⟩
 have HK3 := Lib.hid (HK2.out.next hal)
 have HSZ2 : Hid (w.heap.size ≤ w2.heap.size) := HK2.out.size
 have hbv := built_v rb sb
 clear h0 hal hrol HS2 HK2 HD2 HFW HB1
 go_upto_region 8 with (refine Rdr.wpList_build rfl 33 _ rfl [(0, .pointer (some ⟨rb, 0, none⟩)), (1, .pointer (some ⟨sb, 0, none⟩))] rfl _ hbv ?_)
 generalize w2.alloc (.cells (vA rb sb VS.zero none 0 none 0) 33) = w3 at *
 generalize w2.heap.size = vb at *
 have HFI := Lib.hid (fill_any w3 (HK3.out.etype HE.out HG.out) HG.out HXW.out HBO.out (by have := HLN.out; omega))
 clear hbv HXW
 go_wp2_with fail
 refine HFI.out.mono ?_
 rintro e w4 ⟨-, hk4, hcase⟩
 rw [← HVF.out] at hcase
 rcases hcase with ⟨v, hv, rfl, hxv⟩ | ⟨hv, ob, rfl, hob, hodd, v9, pb9, cb9, pa9, ca9, hx9⟩
 rotate_left
 ·have hk5 : KT base w w4 := Turns.trans HK3.out hk4 (fun k hk hS => by have := HSZ2.out; have hS : k = vb := hS; omega)
  have HK5 := Lib.hid hk5
  have HD5 := Lib.hid hx9.sx.dx
  have HV5 := Lib.hid hv
  have HOD := Lib.hid hodd
  have HB : Hid (Below w4.heap.size w4 (w4.alloc (.cells #[.pointer none] 94))) := Below.allocs _ _
  have HEY : Hid (Rdr.EType (w4.alloc (.cells #[.pointer none] 94))) := (hk5.etype HE.out HG.out).below HB.out (hk5.etype HE.out HG.out).lt
  have HRN : Hid ((w4.alloc (.cells #[.pointer none] 94)).heap[w4.heap.size]? = some (.cells #[.pointer none] 94 (0, 0))) := heap_alloc_last _ _
  have HT0 : Hid ((w4.alloc (.cells #[.pointer none] 94)).cell? ⟨w4.heap.size, 0, none⟩ = some (.pointer none)) := by show _ = _; rw [cell_of_row _ _ _ _ _ _ HRN.out]; rfl
  have HF0 : Hid ((w4.alloc (.cells #[.pointer none] 94)).frozen? ⟨w4.heap.size, 0, none⟩ = false) := frozen_of_row _ _ 0 _ _ HRN.out
  clear hk4 hk5 hv hob hodd hx9 HFI HV HRN
  go_wp2_with fail
  refine (Eo.as_hit ⟨ob, 0, none⟩ ⟨w4.heap.size, 0, none⟩ (.pointer none) _ HEY.out HT0.out HF0.out).mono ?_
  rintro e wz ⟨rfl, hw⟩
  have HBZ : Hid (Below w4.heap.size w4 wz) := by
   subst hw
   have b1 := HB.out
   generalize w4.alloc (.cells #[.pointer none] 94) = v1 at *
   have b2 := b1.alloc b1.size (.cells #[.pointer (some ⟨w4.heap.size, 0, none⟩)] 96)
   generalize v1.alloc (.cells #[.pointer (some ⟨w4.heap.size, 0, none⟩)] 96) = v2 at *
   have b3 := b2.alloc b2.size (.cells #[.pointer (some ⟨1, 96, none⟩), .pointer (some ⟨v1.heap.size, 0, none⟩), .int .u64 150] 144)
   have b4 := b3.alloc b3.size (.cells #[.pointer (some ⟨1, 96, none⟩), .pointer (some ⟨v1.heap.size, 0, none⟩), .int .u64 150] 144)
   have b5 := b4.alloc b4.size (.cells #[.pointer (some ⟨ob, 0, none⟩)] 94)
   exact b5.setCell (Nat.le_refl _) _
  have hco : wz.cell? ⟨ob, 0, none⟩ = some (.iface 25 (.int .i64 4)) := cell_below (by rw [cell_of_row _ _ _ _ _ _ HOD.out]; rfl) HBZ.out
  have HIS := Lib.hid (Eo.is_odd ob 4 4 wz hco)
  clear hw hco HB HEY HT0 HF0
  go_wp2_with fail
  refine HIS.out.mono ?_
  rintro e w' ⟨rfl, rfl⟩
  have HEND := Lib.hid (HVN.out wz (KT.next HK5.out HBZ.out) HV5.out (HD5.out.below HBZ.out))
  go_wp2_with fail
  go_ret2
  exact HEND.out
 have hal := Below.allocs w4 (.cells #[.pointer none] 94)
 obtain ⟨pb, cb, pa, ca, hx⟩ := hxv
 have HEND := Lib.hid (HV.out v vb _ (KT.next (Turns.trans HK3.out hk4 (fun k hk hS => by have := HSZ2.out; have hS : k = vb := hS; omega)) hal) hv ⟨pb, cb, pa, ca, hx.below hal⟩)
 clear hk4 hv hx hal HFI HV
 go_wp2_with fail
 refine (Er.as_nil _ _).mono ?_
 rintro e w' ⟨rfl, rfl⟩
 go_wp2_with fail
 go_ret2
 exact HEND.out
end Go.Proofs.YtnejjfglkindjaaGreatDoor.Vlt
namespace Go.Proofs.YtnejjfglkindjaaGreatDoor.Vlt
open Go.RowKit Go.Mir Go.Mir.Parts Dk Rol Wr Slt Cut
open Frm (frame scan)
theorem vnone_any {base rb sb db vb : Nat} {d : DD} {s : SS} {v : VS} (w : World) (h : XV base rb sb db vb d s v w) :
  Calls Tryz.prog 38 #[.pointer (some ⟨vb, 0, none⟩)] w fun e w' => e = .returned (.bool false) ∧ w = w' := by
 obtain ⟨pb, cb, pa, ca, h⟩ := h
 obtain ⟨hc0, -⟩ := vA_cells h.row
 clear h
 go_enter Tryz.func38, Tryz.ntmps38
 go_wp2_with fail
 go_ret
 exact ⟨rfl, rfl⟩
theorem vnext_any {base rb sb db vb : Nat} {d : DD} {s : SS} {v : VS} (w : World) (h : XV base rb sb db vb d s v w) (hl : v.last + 1 < 18446744073709551616) :
  Calls Tryz.prog 11 #[.pointer (some ⟨vb, 0, none⟩)] w fun e w' => e = .returned (.int .u64 ((v.last : Int) + 1)) ∧ w = w' := by
 have HN := Lib.hid (vnone_any w h)
 obtain ⟨pb, cb, pa, ca, h⟩ := h
 obtain ⟨-, -, hc2, -⟩ := vA_cells h.row
 clear h
 go_enter Tryz.func11, Tryz.ntmps11
 go_wp2_with fail
 refine HN.out.mono ?_
 rintro e w' ⟨rfl, rfl⟩
 go_wp2_with fail
 go_ret
 exact ⟨rfl, rfl⟩
theorem vsize_any {base rb sb db vb : Nat} {d : DD} {s : SS} {v : VS} (w : World) (h : XV base rb sb db vb d s v w) :
  Calls Tryz.prog 10 #[.pointer (some ⟨vb, 0, none⟩)] w fun e w' => e = .returned (.int .i64 ((fD d 0).now.length : Int)) ∧ Below w.heap.size w w' := by
 have HN := Lib.hid (vnone_any w h)
 obtain ⟨pb, cb, pa, ca, h⟩ := h
 obtain ⟨hc0, -⟩ := vA_cells h.row
 have HSZ := Lib.hid (size_any w h.sx.dx h.rol (by omega))
 clear h
 go_enter Tryz.func10, Tryz.ntmps10
 go_wp2_with fail
 refine HN.out.mono ?_
 rintro e w' ⟨rfl, rfl⟩
 go_wp2_with fail
 refine HSZ.out.mono ?_
 rintro e w' ⟨rfl, hb⟩
 go_wp2_with fail
 go_ret
 exact ⟨rfl, hb⟩
def SnapP (v : VS) (w : World) (e : Ending) (w' : World) : Prop := ∃ p c, e = .returned (.tuple #[.slice p v.body.length c, .bool v.some]) ∧ w'.ownsRow w.heap.size 5 1 (.slice p v.body.length c) v.body.length (bytesV v.body) ∧ Below w.heap.size w w'
set_option maxRecDepth 100000 in
set_option maxHeartbeats 1600000 in
theorem vsnap_any {base rb sb db vb : Nat} {d : DD} {s : SS} {v : VS} (w : World) (h : XV base rb sb db vb d s v w) (hl : v.body.length ≤ 140737488355328) :
  Calls Tryz.prog 8 #[.pointer (some ⟨vb, 0, none⟩)] w (SnapP v w) := by
 have HN := Lib.hid (vnone_any w h)
 obtain ⟨pb, cb, pa, ca, h⟩ := h
 have HC3 : Hid (∀ w', Below w.heap.size w w' → w'.cell? ⟨vb, 3, none⟩ = some (.bool v.some)) := fun w' hb => cell_below (vA_cells h.row).2.2.2.1 hb
 have HC4 : Hid (∀ w', Below w.heap.size w w' → w'.cell? ⟨vb, 4, none⟩ = some (.slice pb v.body.length cb)) := fun w' hb => cell_below (vA_cells h.row).2.2.2.2.1 hb
 obtain ⟨p', c', e1, hbs⟩ := h.rd.bs
 cases e1
 have HBS := Lib.hid hbs
 have hle := hbs.le
 have hmax := hbs.max
 have HSN : Hid (∀ p c w', w'.ownsRow w.heap.size 5 1 (.slice p v.body.length c) v.body.length (bytesV v.body) → Below w.heap.size w w' → SnapP v w (.returned (.tuple #[.slice p v.body.length c, .bool v.some])) w') := fun p c w' h1 h2 => ⟨p, c, rfl, h1, h2⟩
 clear h hbs
 generalize v.some = vs at *
 generalize v.body = B at *
 generalize hm : B.length = m at *
 clear hm
 go_enter Tryz.func8, Tryz.ntmps8
 go_wp2_with fail
 refine HN.out.mono ?_
 rintro e w' ⟨rfl, rfl⟩
 go_upto_region 3 with fail
 refine wp_region_tree (Below w.heap.size w) (.take 0 (.take 1 (.take 2 (.take 3 (.take 5 (.take 6 (.take 7 (.take 8 (.one 4 (.take 9 (.take 10 .nil))))))))))) (by kernel_rfl) (by kernel_rfl) (below_drew1 _ _) ?_
 have hy0 : Below w.heap.size w w.drew := below_drew1 _ _
 repeat (first
  | (apply tree_take; (· rfl); (· rfl); (· (intro w' hb'; go_simp; try with_reducible rfl)); try simp only [Act.put, zA, zB, zC])
  | (apply tree_take; (· rfl); (· rfl); (· (intro w' hb'; have hk' := (HC3.out) w' hb'; go_simp; try with_reducible rfl)); try simp only [Act.put, zA, zB, zC])
  | (apply tree_take; (· rfl); (· rfl); (· (intro w' hb'; have hk' := (HC4.out) w' hb'; go_simp; try with_reducible rfl)); try simp only [Act.put, zA, zB, zC]))
 have HBD := Lib.hid (HBS.out.below hy0)
 have HY := Lib.hid hy0
 clear hy0
 refine tree_one rfl (by rfl) (fun K hK => oper_of_list rfl ?_)
 refine wpList_append_nx rfl _ _ 22 rfl (base := w.heap.size) Tryz.underlying22 info8 rfl (by omega) (v := .slice none 0 0) rfl (World.ownsRow_nil _ _ _ _) rfl HBD.out (bytesV_one _) ⟨by omega, by omega⟩ (Nat.le_refl _) ?_
 intro p9 c9 w9 ho9 hg9 _ _
 have hb9 : Below w.heap.size w w9 := HY.out.grown hg9 (Nat.le_refl _) (fun k hk => by simp [Value.ownBlock] at hk)
 have HX := Lib.hid (HSN.out p9 c9 w9 (by simpa using ho9) hb9)
 refine only_end (Shut.out hK _ _ hb9 ?_)
 clear hK K ho9 hg9 hb9
 try simp only [Act.put, zA, zB, zC]
 repeat (apply tree_take; (· rfl); (· rfl); (· (intro w' hb'; go_simp; try with_reducible rfl)); try simp only [Act.put, zA, zB, zC])
 refine tree_nil ?_
 go_wp2_with fail
 go_ret2
 simpa using HX.out
end Go.Proofs.YtnejjfglkindjaaGreatDoor.Vlt
namespace Go.Mir
open Go.RowKit
section
variable {P : Program} {ops : Array Oper} {S : World → Prop} {Q : Exit → Act → World → Prop} {marks : List Nat}
def allLate (ops : Array Oper) (marks : List Nat) (l : Array Bool) : Bool := (List.range ops.size).all fun j => l.getD j false || lateB ops marks j
theorem allLate_spec {l : Array Bool} (h : allLate ops marks l = true) {j : Nat} {o : Oper} (ho : ops[j]? = some o) (hl : l.getD j false = false) : lateB ops marks j = true := by
 have hj : j < ops.size := (Array.getElem?_eq_some_iff.1 ho).1
 have := (List.all_eq_true.1 h) j (List.mem_range.2 hj)
 rw [hl, Bool.false_or] at this
 exact this
theorem wpAnyG_of_late : ∀ (n : Nat) (listed : Array Bool) (a : Act) (w : World), (∀ (j : Nat) (o : Oper), ops[j]? = some o → listed.getD j false = false → lateB ops marks j = true) →
  wpAnyH P .any ops Q (fun _ => True) n listed a w → wpAnyG P ops Q S marks n listed a w
 | 0, _, _, _, _, h => h
 | n + 1, listed, a, w, hl, h => by
  refine ⟨h.1, fun i hi => ?_⟩
  obtain ⟨hun, o, ho, _⟩ := mem_ready.1 hi
  have hlate : lateB ops marks i = true := hl i o ho (by
   cases hg : listed.getD i false with
   | false => rfl
   | true =>
    exfalso
    rcases Nat.lt_or_ge i listed.size with h' | h'
    ·simp [h'] at hun hg; rw [hun] at hg; cases hg
    ·simp [Array.getElem?_eq_none h'] at hg)
  refine wpOp_mono (fun a' w' h3 => ⟨fun e => (by rw [hlate] at e; cases e), wpAnyG_of_late n _ a' w' (fun j oj hoj hj => ?_) h3.2⟩) (h.2 i hi)
  refine hl j oj hoj ?_
  by_cases hij : i = j
  ·subst hij
   cases hg : listed.getD i false with
   | false => rfl
   | true =>
    exfalso
    rcases Nat.lt_or_ge i listed.size with h' | h'
    ·simp [h'] at hun hg; rw [hun] at hg; cases hg
    ·simp [Array.getElem?_eq_none h'] at hg
  ·rw [getD_set_ne false hij] at hj; exact hj
def planU (ops : Array Oper) (marks : List Nat) (t : Tr) : List (Nat × Bool) → Array Bool → Bool
 | (i, true) :: r, l => (ops[i]?).isSome && marks.contains i && Region.free .any ops l i && (Region.ready .any ops l).contains i && planU ops marks t r (l.setIfInBounds i true)
 | (i, false) :: r, l => (ops[i]?).isSome && Region.ready .any ops l == [i] && planU ops marks t r (l.setIfInBounds i true)
 | [], l => allLate ops marks l && treeB ops t l
def wpEagerU (P : Program) (ops : Array Oper) (S : World → Prop) (Q : Exit → Act → World → Prop) (l : List Oper) (t : Tr) : List (Oper × Bool) → Act → World → Prop
 | [], a, w => wpTree P ops (fun _ => True) Q l t a w
 | (o, true) :: r, a, w => ∃ v, YieldsIf P ops S o v a ∧ wpEagerU P ops S Q l t r (a.put o.dst v) w
 | (o, false) :: r, a, w => if Region.wanted o (yielded ops a.tmps) then o.wp P a w (fun a' w' => S w' ∧ wpEagerU P ops S Q l t r a' w') Q else wpEagerU P ops S Q l t r (a.put o.dst undef) w
theorem wpAnyG_planU {l : List Oper} (hl : l.toArray = ops) (hs : Region.noSelect ops = true) (hQ : ∀ c a d v w, Q (.panic c) (a.put d v) w → Q (.panic c) a w) (t : Tr) :
  ∀ (π : List (Nat × Bool)) (listed : Array Bool) (a : Act) (w : World), planU ops marks t π listed = true → closedL ops listed → S w → wpEagerU P ops S Q l t (planOps l π) a w → wpAnyG P ops Q S marks (π.length + t.deep) listed a w
 | [], listed, a, w, hp, _, _, h => by
  rw [List.length_nil, Nat.zero_add]
  simp only [planU, Bool.and_eq_true] at hp
  exact wpAnyG_of_late _ _ _ _ (fun j o ho hj => allLate_spec hp.1 ho hj) (wpAnyH_tree hl hs hQ t listed a w hp.2 trivial h)
 | (i, true) :: r, listed, a, w, hp, hcl, hS, h => by
  simp only [planU, Bool.and_eq_true] at hp
  obtain ⟨⟨⟨⟨h1, hmk⟩, h2⟩, h3⟩, h4⟩ := hp
  obtain ⟨o, ho⟩ := Option.isSome_iff_exists.1 h1
  have hn : nthO l i = some o := by rw [← nthO_eq, hl]; exact ho
  simp only [planOps, hn, wpEagerU] at h
  obtain ⟨v, hy, h⟩ := h
  rw [List.length_cons, Nat.add_right_comm]
  exact wpAnyG_take ho (by simpa using hmk) (Region.noSelect_spec hs) (fun c a w => hQ c a _ _ w) _ _ _ _ (Region.free_spec ho h2) (by simpa using h3) hcl hy hS (wpAnyG_planU hl hs hQ t r _ _ _ h4 (hcl.set (by simpa using h3)) hS h)
 | (i, false) :: r, listed, a, w, hp, hcl, hS, h => by
  simp only [planU, Bool.and_eq_true, beq_iff_eq] at hp
  obtain ⟨⟨h1, h2⟩, h4⟩ := hp
  obtain ⟨o, ho⟩ := Option.isSome_iff_exists.1 h1
  have hn : nthO l i = some o := by rw [← nthO_eq, hl]; exact ho
  simp only [planOps, hn, wpEagerU] at h
  rw [List.length_cons, Nat.add_right_comm]
  refine ⟨fun e => (by rw [h2] at e; cases e), fun j hj => ?_⟩
  rw [h2, List.mem_singleton] at hj
  subst hj
  unfold wpOp
  simp only [ho]
  split at h
  ·rename_i hw
   rw [if_pos hw]
   exact .inl (Oper.wp_mono (fun a' w' ⟨h5, h6⟩ => ⟨fun _ => h5, wpAnyG_planU hl hs hQ t r _ _ _ h4 (hcl.set (by rw [h2]; exact List.mem_singleton.2 rfl)) h5 h6⟩) h)
  ·rename_i hw
   rw [if_neg hw]
   exact ⟨fun _ => hS, wpAnyG_planU hl hs hQ t r _ _ _ h4 (hcl.set (by rw [h2]; exact List.mem_singleton.2 rfl)) hS h⟩
theorem eagerUOpen {l : List Oper} {t : Tr} {i : Nat} {b : Bool} {r : List (Nat × Bool)} {a : Act} {w : World} {o : Oper} (ho : nthO l i = some o)
  (h : wpEagerU P ops S Q l t ((o, b) :: planOps l r) a w) : wpEagerU P ops S Q l t (planOps l ((i, b) :: r)) a w := by
 unfold planOps; rw [ho]; exact h
theorem eagerUEnd {l : List Oper} {t : Tr} {a : Act} {w : World} (h : wpTree P ops (fun _ => True) Q l t a w) : wpEagerU P ops S Q l t (planOps l []) a w := h
theorem wpEagerU_take {l : List Oper} {t : Tr} {o : Oper} {r : List (Oper × Bool)} {a : Act} {w : World} {v : Value} (hw : Region.wanted o (yielded ops a.tmps) = true)
  (hy : ∀ w', S w' → (execOp a.eval o).run P w' = .ok (.value v) w') (h : wpEagerU P ops S Q l t r (a.put o.dst v) w) : wpEagerU P ops S Q l t ((o, true) :: r) a w := ⟨v, .inl ⟨hw, hy⟩, h⟩
theorem wpEagerU_skip {l : List Oper} {t : Tr} {o : Oper} {r : List (Oper × Bool)} {a : Act} {w : World} (hw : Region.wanted o (yielded ops a.tmps) = false)
  (h : wpEagerU P ops S Q l t r (a.put o.dst undef) w) : wpEagerU P ops S Q l t ((o, true) :: r) a w := ⟨undef, .inr ⟨hw, rfl⟩, h⟩
theorem wpEagerU_op {l : List Oper} {t : Tr} {o : Oper} {r : List (Oper × Bool)} {a : Act} {w : World} (hw : Region.wanted o (yielded ops a.tmps) = true)
  (h : ∀ K : Act → World → Prop, Shut (∀ a w, S w → wpEagerU P ops S Q l t r a w → K a w) → Oper.wp P o a w K Q) : wpEagerU P ops S Q l t ((o, false) :: r) a w := by
 unfold wpEagerU; rw [if_pos hw]; exact h _ fun _ _ h1 h2 => ⟨h1, h2⟩
end
end Go.Mir
namespace Go.Proofs.YtnejjfglkindjaaGreatDoor.Vlt
open Go.RowKit Go.Mir Go.Mir.Parts Dk Rol Wr Slt Cut
open Frm (frame scan)
def RecsP (v : VS) (w : World) (e : Ending) (w' : World) : Prop := ∃ p c, e = .returned (.slice p v.after.length c) ∧ LsO w' w.heap.size (.slice p v.after.length c) v.after ∧ Below w.heap.size w w'
set_option maxRecDepth 100000 in
set_option maxHeartbeats 1600000 in
theorem vrecs_any {base rb sb db vb : Nat} {d : DD} {s : SS} {v : VS} (w : World) (h : XV base rb sb db vb d s v w) (hl : v.after.length ≤ 100000) (hx : ∀ x ∈ v.after, x.length ≤ 1000000) :
  Calls Tryz.prog 9 #[.pointer (some ⟨vb, 0, none⟩)] w (RecsP v w) := by
 have HN := Lib.hid (vnone_any w h)
 obtain ⟨pb, cb, pa, ca, h⟩ := h
 obtain ⟨-, -, -, -, -, hc5⟩ := vA_cells h.row
 have HLS := Lib.hid h.ls
 have HRP : Hid (∀ p c w', LsO w' w.heap.size (.slice p v.after.length c) v.after → Below w.heap.size w w' → RecsP v w (.returned (.slice p v.after.length c)) w') := fun p c w' h1 h2 => ⟨p, c, rfl, h1, h2⟩
 have HXX := Lib.hid hx
 clear h hx
 generalize v.after = L at *
 have hlc : L.length ≤ ca := by
  obtain ⟨hs9, g1, _⟩ := HLS.out.all
  obtain ⟨p1, c1, he, hs⟩ := own_sl g1
  cases he
  exact hs.le
 go_enter Tryz.func9, Tryz.ntmps9
 go_wp2_with fail
 refine HN.out.mono ?_
 rintro e w' ⟨rfl, rfl⟩
 go_wp2_with fail
 clear hc5
 go_loopw [3, 5, 13] (fun o _ j wr => ∃ (i : Nat) (p9 : Option Addr) (c9 : Nat), i ≤ L.length ∧ j = .int .i64 i ∧ o = .slice p9 i c9 ∧ LsO wr w.heap.size (.slice p9 i c9) (L.take i) ∧ Below w.heap.size w wr) (fun _ _ j _ => L.length - (intOf j).toNat)
 case atStart => exact ⟨0, none, 0, Nat.zero_le _, rfl, rfl, LsO.nil _ _, Below.refl _ _⟩
 case round =>
  obtain ⟨i, p9, c9, hi, rfl, rfl, ho, hb⟩ := hrel
  have HO := Lib.hid ho
  have HB := Lib.hid hb
  clear ho hb
  by_cases hlt : i < L.length
  ·have hd1 : decide ((i : Int) < (L.length : Int)) = true := decide_eq_true (by omega)
   have hd2 : decide (i < L.length) = true := decide_eq_true hlt
   have hi1 : (i : Int) < (L.length : Int) := by omega
   obtain ⟨pq, cq, hv, hpt⟩ := (HLS.out.below HB.out).ls.sl
   cases hv
   obtain ⟨b, o, rfl⟩ := hpt.addr (by omega)
   obtain ⟨q, m, k, hcl, hbs⟩ := hpt.cell _ rfl i hlt
   rw [add_none] at hcl
   obtain rfl := hbs.length
   have HXL := Lib.hid (HXX.out _ (List.getElem_mem hlt))
   have HTK : Hid (L.take (i + 1) = L.take i ++ [L[i]]) := List.take_succ_eq_append_getElem hlt
   have hkl := hbs.le
   have hkm := hbs.max
   have HBS := Lib.hid hbs
   clear hbs hpt
   generalize L[i] = X at *
   have hxm : X.length ≤ 1000000 := HXL.out
   have htl : (L.take i).length = i := by rw [List.length_take]; omega
   obtain ⟨hs', hl1, hl2⟩ := HO.out.all
   rw [htl] at hl1
   have HL1 := Lib.hid hl1
   have HL2 := Lib.hid hl2
   have HTL := Lib.hid htl
   clear hl1 hl2 htl
   have HB' := HB
   go_wp2_with (at_builtin; refine wpList_append_nx rfl _ _ 22 rfl (base := w.heap.size) Tryz.underlying22 info8 rfl (by omega) rfl (World.ownsRow_nil _ _ _ _) rfl HBS.out (bytesV_one _) ⟨by omega, by omega⟩ HB'.out.size ?_)
   intro p8 c8 w8 ho8 hg8 _ _
   have hb8 : Below w.heap.size w w8 := HB'.out.grown hg8 HB'.out.size (fun k hk => by simp [Value.ownBlock] at hk)
   have hbr : Below wr.heap.size wr w8 := (Below.refl _ wr).grown hg8 (Nat.le_refl _) (fun k hk => by simp [Value.ownBlock] at hk)
   have HX8 : Hid (w8.ownsRow w.heap.size 5 1 (.slice p8 X.length c8) X.length (bytesV X)) := by show World.ownsRow _ _ _ _ _ _ _; simpa using ho8
   have HL18 := Lib.hid (own_touch HL1.out (Turns.of_below (S := fun _ => False) hbr) (fun _ _ h => h))
   have HL28 : Hid (∀ j (h : j < (L.take i).length), ∃ q k, hs'[j]? = some (.slice q (L.take i)[j].length k) ∧ w8.ownsRow w.heap.size 5 1 (.slice q (L.take i)[j].length k) (L.take i)[j].length (bytesV (L.take i)[j])) := fun j hj => by
    obtain ⟨q, k, e1, e2⟩ := HL2.out j hj
    exact ⟨q, k, e1, own_touch e2 (Turns.of_below (S := fun _ => False) hbr) (fun _ _ h => h)⟩
   have hal := Below.allocs w8 (.cells #[.slice p8 X.length c8] 22)
   have HOA := Lib.hid (own_touch HL18.out (Turns.of_below (S := fun _ => False) hal) (fun _ _ h => h))
   have HXA := Lib.hid (hdr_sl w8 (.slice p8 X.length c8) 22 w8.heap.size rfl)
   have HBA := Lib.hid (hb8.trans (hal.mono hb8.size))
   have HB8 := Lib.hid hb8
   clear ho8 hg8 hb8 hbr hal HB' HO HL1 HL2
   go_wp2_with (first
    | (at_builtin; refine wpList_append_nx rfl _ _ 31 rfl (base := w.heap.size) Tryz.underlying31 infoS rfl (by omega) rfl HOA.out rfl HXA.out (fun u hu => by rw [List.mem_singleton] at hu; subst hu; rfl) ⟨by omega, by omega⟩ HBA.out.size ?_))
   intro p7 c7 w7 ho7 hg7 _ _
   have hpu : LsO w7 w.heap.size (.slice p7 (i + 1) c7) (L.take (i + 1)) := by
    rw [HTK.out]
    exact LsO.push (by rw [HTL.out]; exact HL18.out) HL28.out HX8.out (by rw [HTL.out]; exact ho7) hg7
   have HPU := Lib.hid hpu
   have HBZ := Lib.hid (HBA.out.trans (own_below HOA.out hg7 HBA.out.size))
   clear hpu ho7 hg7 HL18 HL28 HX8 HOA HXA HBA HB8
   go_wp2_with fail
   go_roundw
   case rel => exact ⟨i + 1, p7, c7, by omega, by go_num, rfl, HPU.out, HBZ.out⟩
   case measure => simp [intOf]; omega
  ·have hd1 : decide ((i : Int) < (L.length : Int)) = false := decide_eq_false (by omega)
   have hd2 : decide (i < L.length) = false := decide_eq_false hlt
   obtain rfl : i = L.length := by omega
   have hot := HO.out
   rw [List.take_length] at hot
   have HEND := Lib.hid (HRP.out p9 c9 wr hot HB.out)
   clear hot hlt
   go_wp2_with fail
   go_ret
   exact HEND.out
end Go.Proofs.YtnejjfglkindjaaGreatDoor.Vlt
namespace Go.Mir
open Go.RowKit
section
variable {P : Program} {ops : Array Oper} {S : World → Prop} {Q : Exit → Act → World → Prop} {marks : List Nat}
theorem wpAnyH_of_any {md : Region.Mode} : ∀ (n : Nat) (listed : Array Bool) (a : Act) (w : World), wpAny P md ops Q n listed a w → wpAnyH P md ops Q (fun _ => True) n listed a w
 | 0, _, _, _, h => h
 | n + 1, _, _, _, h => ⟨h.1, fun i hi => wpOp_mono (fun a' w' h' => ⟨trivial, wpAnyH_of_any n _ a' w' h'⟩) (h.2 i hi)⟩
def planV (ops : Array Oper) (marks : List Nat) (t : Tr) (π : List (Nat × Bool)) : List Nat → Array Bool → Bool
 | i :: r, l => (ops[i]?).isSome && Region.free .any ops l i && (Region.ready .any ops l).contains i && planV ops marks t π r (l.setIfInBounds i true)
 | [], l => planU ops marks t π l
def wpEagerV (P : Program) (ops : Array Oper) (S : World → Prop) (Q : Exit → Act → World → Prop) (l : List Oper) (t : Tr) (π : List (Nat × Bool)) : List Oper → Act → World → Prop
 | [], a, w => wpEagerU P ops S Q l t (planOps l π) a w
 | o :: r, a, w => ∃ v, YieldsIf P ops (fun _ => True) o v a ∧ wpEagerV P ops S Q l t π r (a.put o.dst v) w
theorem wpAnyH_planV {l : List Oper} (hl : l.toArray = ops) (hs : Region.noSelect ops = true) (hQ : ∀ c a d v w, Q (.panic c) (a.put d v) w → Q (.panic c) a w) (t : Tr) (π : List (Nat × Bool)) :
  ∀ (fr : List Nat) (listed : Array Bool) (a : Act) (w : World), planV ops marks t π fr listed = true → closedL ops listed → S w → wpEagerV P ops S Q l t π (tailOps l fr) a w → wpAnyH P .any ops Q (fun _ => True) (fr.length + (π.length + t.deep)) listed a w
 | [], listed, a, w, hp, hcl, hS, h => by
  rw [List.length_nil, Nat.zero_add]
  exact wpAnyH_of_any _ _ _ _ (wpAny_of_G _ _ _ _ (wpAnyG_planU hl hs hQ t π listed a w hp hcl hS h))
 | i :: r, listed, a, w, hp, hcl, hS, h => by
  simp only [planV, Bool.and_eq_true] at hp
  obtain ⟨⟨⟨h1, h2⟩, h3⟩, h4⟩ := hp
  obtain ⟨o, ho⟩ := Option.isSome_iff_exists.1 h1
  have hn : nthO l i = some o := by rw [← nthO_eq, hl]; exact ho
  simp only [tailOps, hn, wpEagerV] at h
  obtain ⟨v, hy, h⟩ := h
  rw [List.length_cons, Nat.add_right_comm]
  exact wpAnyH_take ho hs h2 h3 (fun c a w => hQ c a _ _ w) hy trivial (wpAnyH_planV hl hs hQ t π r _ _ _ h4 (hcl.set (by simpa using h3)) hS h)
theorem wp_region_eager_v {id : Nat} {a : Act} {w : World} {l : List Oper} (S : World → Prop) (fr : List Nat) (marks : List Nat) (π : List (Nat × Bool)) (t : Tr) (hm : P.follows .mixedOrders = true)
  (hp : (planV l.toArray marks t π fr (Array.replicate l.length false) && Region.noSelect l.toArray && fr.length + (π.length + t.deep) == l.length) = true) (hS : S w.drew)
  (h : wpEagerV P l.toArray S (NoPanic Q) l t π (tailOps l fr) a w.drew) : (Code.region id l.toArray true).wp P Q a w := by
 refine wp_region_noPanic ?_
 simp only [Bool.and_eq_true, beq_iff_eq] at hp
 obtain ⟨⟨h1, h2⟩, h3⟩ := hp
 have := wpAnyH_planV (P := P) (Q := NoPanic Q) (S := S) (marks := marks) (l := l) rfl h2 (fun _ _ _ _ _ h => h) t π fr (Array.replicate l.length false) a w.drew h1 (fun j o _ hj => by rw [Array.getD_eq_getD_getElem?, Array.getElem?_replicate] at hj; split at hj <;> cases hj) hS h
 refine wp_region_held hm (S := fun _ => True) ?_
 rw [h3] at this
 have hz : l.toArray.size = l.length := List.size_toArray ..
 rw [hz]
 exact this
theorem eagerVOpen {l : List Oper} {t : Tr} {π : List (Nat × Bool)} {i : Nat} {r : List Nat} {a : Act} {w : World} {o : Oper} (ho : nthO l i = some o)
  (h : wpEagerV P ops S Q l t π (o :: tailOps l r) a w) : wpEagerV P ops S Q l t π (tailOps l (i :: r)) a w := by
 unfold tailOps; rw [ho]; exact h
theorem eagerVTake {l : List Oper} {t : Tr} {π : List (Nat × Bool)} {o : Oper} {r : List Oper} {a : Act} {w : World} {v : Value} (hw : Region.wanted o (yielded ops a.tmps) = true)
  (hy : ∀ w', (execOp a.eval o).run P w' = .ok (.value v) w') (h : wpEagerV P ops S Q l t π r (a.put o.dst v) w) : wpEagerV P ops S Q l t π (o :: r) a w := ⟨v, .inl ⟨hw, fun w' _ => hy w'⟩, h⟩
theorem eagerVEnd {l : List Oper} {t : Tr} {π : List (Nat × Bool)} {a : Act} {w : World} (h : wpEagerU P ops S Q l t (planOps l π) a w) : wpEagerV P ops S Q l t π (tailOps l []) a w := h
end
end Go.Mir
namespace Go.Proofs.YtnejjfglkindjaaGreatDoor.Vlt
open Go.RowKit Go.Mir Go.Mir.Parts Dk Rol Wr Slt Cut
open Frm (frame scan)
def vputR (v : VS) (x : List UInt8) : List UInt8 := be (v.last + 1) 8 ++ x
def vputOk (v : VS) (x : List UInt8) : Prop := 1 ≤ x.length ∧ x.length ≤ 60000 ∧ v.last + 2 < 18446744073709551616
instance (v : VS) (x : List UInt8) : Decidable (vputOk v x) := by unfold vputOk; infer_instance
def vputE (d : DD) (v : VS) (x : List UInt8) : Int := if vputOk v x then appE d 0 (vputR v x) else 1
def vputD (d : DD) (v : VS) (x : List UInt8) : DD := if vputOk v x then appD d 0 (vputR v x) else d
def vputV (d : DD) (v : VS) (x : List UInt8) : VS := if vputOk v x ∧ appE d 0 (vputR v x) = 0 then ⟨v.last + 1, v.some, v.body, v.after ++ [x]⟩ else v
def VPutP (base rb sb db vb : Nat) (d : DD) (s : SS) (v : VS) (x : List UInt8) (w : World) (e : Ending) (w' : World) : Prop := e = .returned (.int .i64 (vputE d v x)) ∧ XV base rb sb db vb (vputD d v x) s (vputV d v x) w' ∧ KV base w w'
theorem own_n (p : Option Addr) (n m c c' : Nat) : (Value.slice p n c).ownBlock = (Value.slice p m c').ownBlock := by cases p <;> rfl
def VPutX (base rb sb db vb : Nat) (d : DD) (s : SS) (v : VS) (x : List UInt8) (pb : Option Addr) (cb : Nat) (pa : Option Addr) (ca : Nat) (w : World) (e : Ending) (w' : World) : Prop :=
 e = .returned (.int .i64 (vputE d v x)) ∧ ∃ pa' ca', XW base rb sb db vb (vputD d v x) s (vputV d v x) pb cb pa' ca' w' ∧ Turns (fun k => DTy base w k ∨ k = vb ∨ (Value.slice pa v.after.length ca).ownBlock = some k) w w' ∧ ∀ k, (Value.slice pa' (vputV d v x).after.length ca').ownBlock = some k → (Value.slice pa v.after.length ca).ownBlock = some k ∨ w.heap.size ≤ k
theorem XW.kvd {base rb sb db vb : Nat} {d : DD} {s : SS} {v : VS} {pb pa : Option Addr} {cb ca : Nat} {w w' : World} (h : XW base rb sb db vb d s v pb cb pa ca w) (ht : Turns (fun k => DTy base w k ∨ k = vb ∨ (Value.slice pa v.after.length ca).ownBlock = some k) w w') : KV base w w' :=
 Turns.imp ht (fun k _ hk => by
  obtain ⟨hs, h1, h2⟩ := h.ls.all
  rcases hk with ⟨a, M, t, fr, b, c⟩ | rfl | hk
  ·exact ⟨a, M, t, fr, b, c.imp id .inl⟩
  ·exact ⟨h.low, _, _, _, h.row, .inr (.inr (.inr (.inl rfl)))⟩
  ·refine ⟨(h1.lt k hk).1, ?_⟩
   rcases h1.2 with ⟨e, _⟩ | ⟨g, cap, cur, e, _, hg, _⟩
   ·rw [e] at hk; cases hk
   ·rw [e] at hk
    simp only [Value.ownBlock, Option.some.injEq] at hk
    subst hk
    exact ⟨_, _, _, hg, .inr (.inr (.inr (.inr rfl)))⟩)
theorem XW.push {base rb sb db vb : Nat} {d : DD} {s : SS} {v : VS} {pb pa : Option Addr} {cb ca : Nat} {wr w3 : World} {q p9 : Option Addr} {k c9 n : Nat} {x : List UInt8} (h : XW base rb sb db vb d s v pb cb pa ca wr) (hn : n < 18446744073709551616)
  (hx : wr.ownsRow base 5 1 (.slice q x.length k) x.length (bytesV x)) {hs' : List Value}
  (hl : wr.ownsRow base 22 1 (.slice pa v.after.length ca) v.after.length hs') (hl2 : ∀ j (h : j < v.after.length), ∃ q k, hs'[j]? = some (.slice q v.after[j].length k) ∧ wr.ownsRow base 5 1 (.slice q v.after[j].length k) v.after[j].length (bytesV v.after[j]))
  {tmp : Obj} (ho : w3.ownsRow base 22 1 (.slice p9 (v.after.length + 1) c9) (v.after.length + 1) (hs' ++ [.slice q x.length k])) (hg : (wr.alloc tmp).grownBy w3 (Value.slice pa v.after.length ca).ownBlock) :
  XW base rb sb db vb d s ⟨n, v.some, v.body, v.after ++ [x]⟩ pb cb p9 c9 ((w3.setCell ⟨vb, 2, none⟩ (.int .u64 (n : Int))).setCell ⟨vb, 5, none⟩ (.slice p9 (v.after.length + 1) c9)) ∧
  KV base wr ((w3.setCell ⟨vb, 2, none⟩ (.int .u64 (n : Int))).setCell ⟨vb, 5, none⟩ (.slice p9 (v.after.length + 1) c9)) ∧
  w3.heap[vb]? = some (.cells (vA rb sb v pb cb pa ca) 33 (0, 0)) ∧ (w3.setCell ⟨vb, 2, none⟩ (.int .u64 (n : Int))).heap[vb]? = some (.cells (vA rb sb ⟨n, v.some, v.body, v.after⟩ pb cb pa ca) 33 (0, 0)) ∧
  Turns (fun k => k = vb ∨ (Value.slice pa v.after.length ca).ownBlock = some k) wr ((w3.setCell ⟨vb, 2, none⟩ (.int .u64 (n : Int))).setCell ⟨vb, 5, none⟩ (.slice p9 (v.after.length + 1) c9)) := by
 have hlen : (v.after ++ [x]).length = v.after.length + 1 := by rw [List.length_append]; rfl
 have nv : ∀ k, (Value.slice pa v.after.length ca).ownBlock = some k → ∃ M fr, wr.heap[k]? = some (.cells M 22 fr) := fun k hk => by
  rcases hl.2 with ⟨e, _⟩ | ⟨g, cap, cur, e, _, hgg, _⟩
  ·rw [e] at hk; cases hk
  ·rw [e] at hk
   simp only [Value.ownBlock, Option.some.injEq] at hk
   subst hk
   exact ⟨_, _, hgg⟩
 have hva : ¬ (Value.slice pa v.after.length ca).ownBlock = some vb := fun hk => by
  obtain ⟨M, fr, e⟩ := nv vb hk
  have := h.row
  rw [e] at this
  injection this with e1
  injection e1 with _ e2
  exact absurd e2 (by decide)
 have ht3 : Turns (fun k => (Value.slice pa v.after.length ca).ownBlock = some k) wr w3 := (Turns.of_below (S := fun k => (Value.slice pa v.after.length ca).ownBlock = some k) (Below.allocs wr tmp)).trans (Turns.grown hg (fun k h => h)) (fun _ _ h => h)
 have hr3 := ht3.keep h.row hva
 have hr4 := Dk.cell_put (off := 2) (.int .u64 (n : Int)) hr3
 have hr5 := Dk.cell_put (off := 5) (.slice p9 (v.after.length + 1) c9) hr4
 have ht3' : Turns (fun k => k = vb ∨ (Value.slice pa v.after.length ca).ownBlock = some k) wr w3 := ht3.imp (fun k _ hk => Or.inr hk)
 have ht5 : Turns (fun k => k = vb ∨ (Value.slice pa v.after.length ca).ownBlock = some k) wr ((w3.setCell ⟨vb, 2, none⟩ (.int .u64 (n : Int))).setCell ⟨vb, 5, none⟩ (.slice p9 (v.after.length + 1) c9)) :=
  (ht3'.setCell (p := ⟨vb, 2, none⟩) (fun _ => .inl rfl) _).setCell (p := ⟨vb, 5, none⟩) (fun _ => .inl rfl) _
 have htv : Turns (fun k => k = vb) w3 ((w3.setCell ⟨vb, 2, none⟩ (.int .u64 (n : Int))).setCell ⟨vb, 5, none⟩ (.slice p9 (v.after.length + 1) c9)) :=
  ((Turns.refl (fun k => k = vb) w3).setCell (p := ⟨vb, 2, none⟩) (fun _ => rfl) _).setCell (p := ⟨vb, 5, none⟩) (fun _ => rfl) _
 have hls3 : LsO w3 base (.slice p9 (v.after.length + 1) c9) (v.after ++ [x]) := LsO.push hl hl2 hx ho hg
 have hls5 := lsO_turn hls3 htv (fun k M t fr hk hm => by
  subst hk
  rw [hr3] at hm
  injection hm with e1
  injection e1 with _ e2
  subst e2
  exact ⟨by decide, by decide⟩)
 have hrow : ((w3.setCell ⟨vb, 2, none⟩ (.int .u64 (n : Int))).setCell ⟨vb, 5, none⟩ (.slice p9 (v.after.length + 1) c9)).heap[vb]? = some (.cells (vA rb sb ⟨n, v.some, v.body, v.after ++ [x]⟩ pb cb p9 c9) 33 (0, 0)) := by
  unfold vA
  rw [hlen]
  exact hr5
 have hls6 : LsO ((w3.setCell ⟨vb, 2, none⟩ (.int .u64 (n : Int))).setCell ⟨vb, 5, none⟩ (.slice p9 (v.after.length + 1) c9)) base (.slice p9 (v.after ++ [x]).length c9) (v.after ++ [x]) := by rw [hlen]; exact hls5
 refine ⟨h.put ht5 (fun k hk => hk) hn hrow ?_ hls6, h.kv ht5 (fun k hk => hk), hr3, hr4, ht5⟩
 refine h.rd.touch ht5 (fun k M fr hm hh => ?_)
 rcases hh with rfl | hh
 ·have := h.row
  rw [hm] at this
  injection this with e1
  injection e1 with _ e2
  exact absurd e2 (by decide)
 ·obtain ⟨M', fr', e⟩ := nv k hh
  rw [hm] at e
  injection e with e1
  injection e1 with _ e2
  exact absurd e2 (by decide)
set_option maxRecDepth 100000 in
set_option maxHeartbeats 3200000 in
theorem vput_x {base rb sb db vb : Nat} {d : DD} {s : SS} {v : VS} {pb pa : Option Addr} {cb ca : Nat} (w : World) (h : XW base rb sb db vb d s v pb cb pa ca w) (p : Option Addr) (c : Nat) (x : List UInt8) (hB : ∀ w', KT base w w' → Bs w' p x.length c x) (hx : x.length ≤ 3000) (hal : v.after.length ≤ 100000) (hfew : (fD d 0).steps.length + 1 ≤ 4398046511104) :
  Calls Tryz.prog 12 #[.pointer (some ⟨vb, 0, none⟩), .slice p x.length c] w (VPutX base rb sb db vb d s v x pb cb pa ca w) := by
 have HN := Lib.hid (vnone_any w ⟨pb, cb, pa, ca, h⟩)
 obtain ⟨-, -, hc2, -, -, -⟩ := vA_cells h.row
 have hlast := h.last
 have HX := Lib.hid h
 have HB := Lib.hid hB
 have HFW := Lib.hid hfew
 have hle := (hB w (KT.refl _ _)).le
 have hmx := (hB w (KT.refl _ _)).max
 clear h hB hfew
 by_cases h1 : x.length < 1
 ·have d1 : decide ((x.length : Int) < 1) = true := decide_eq_true (by omega)
  have d1' : decide (x.length < 1) = true := decide_eq_true h1
  have hno : ¬ vputOk v x := fun hh => by unfold vputOk at hh; omega
  have HEND : Hid (VPutX base rb sb db vb d s v x pb cb pa ca w (.returned (.int .i64 1)) w) := ⟨by unfold vputE; rw [if_neg hno], pa, ca, by unfold vputD vputV; rw [if_neg hno, if_neg (fun hh => hno hh.1)]; exact HX.out, Turns.refl _ _, fun k hk => .inl (by unfold vputV at hk; rw [if_neg (fun hh => hno hh.1)] at hk; exact hk)⟩
  clear h1 hno
  go_enter Tryz.func12, Tryz.ntmps12
  go_wp2_with fail
  refine HN.out.mono ?_
  rintro e w' ⟨rfl, rfl⟩
  go_wp2_with fail
  go_ret
  exact HEND.out
 have d1 : decide ((x.length : Int) < 1) = false := decide_eq_false (by omega)
 have d1' : decide (x.length < 1) = false := decide_eq_false h1
 have d2 : decide ((60000 : Int) < (x.length : Int)) = false := decide_eq_false (by omega)
 have d2' : decide (60000 < x.length) = false := decide_eq_false (by omega)
 by_cases h2 : v.last + 2 < 18446744073709551616
 rotate_left
 ·have hw : IntKind.u64.wrap ((v.last : Int) + 2) = (v.last : Int) + 2 - 18446744073709551616 := by rw [IntKind.wrap_u64]; omega
  have d3 : decide ((v.last : Int) + 2 - 18446744073709551616 < 2) = true := decide_eq_true (by omega)
  have hno : ¬ vputOk v x := fun hh => by unfold vputOk at hh; omega
  have HEND : Hid (VPutX base rb sb db vb d s v x pb cb pa ca w (.returned (.int .i64 1)) w) := ⟨by unfold vputE; rw [if_neg hno], pa, ca, by unfold vputD vputV; rw [if_neg hno, if_neg (fun hh => hno hh.1)]; exact HX.out, Turns.refl _ _, fun k hk => .inl (by unfold vputV at hk; rw [if_neg (fun hh => hno hh.1)] at hk; exact hk)⟩
  clear h1 h2 hno
  go_enter Tryz.func12, Tryz.ntmps12
  go_wp2_with fail
  refine HN.out.mono ?_
  rintro e w' ⟨rfl, rfl⟩
  go_wp2_with fail
  go_ret
  exact HEND.out
 have hw : IntKind.u64.wrap ((v.last : Int) + 2) = (v.last : Int) + 2 := by rw [IntKind.wrap_u64]; omega
 have hw1 : IntKind.u64.wrap ((v.last : Int) + 1) = (v.last : Int) + 1 := by rw [IntKind.wrap_u64]; omega
 have d3 : decide ((v.last : Int) + 2 < 2) = false := decide_eq_false (by omega)
 have HOK : Hid (vputOk v x) := ⟨by omega, by omega, h2⟩
 have HL1 : Hid (v.last + 1 < 18446744073709551616) := by show _ < _; omega
 have HC0 : Hid (∀ w', KT base w w' → w'.cell? ⟨vb, 0, none⟩ = some (.pointer (some ⟨rb, 0, none⟩))) := fun w' hk => (vA_cells (hk.row HX.out.row (by decide) (by decide))).1
 have HC2 : Hid (∀ w', KT base w w' → w'.cell? ⟨vb, 2, none⟩ = some (.int .u64 (v.last : Int))) := fun w' hk => (vA_cells (hk.row HX.out.row (by decide) (by decide))).2.2.1
 have HJ := Lib.hid (fun (y : World) (hy : KT base w y) => join_any (v.last + 1) HL1.out p c x y (HB.out y hy) (by omega))
 have hcs : ((v.last + 1 : Nat) : Int) = (v.last : Int) + 1 := by omega
 rw [hcs] at HJ
 have hRL : (be (v.last + 1) 8 ++ x).length = 8 + x.length := by rw [List.length_append, be_length]
 obtain ⟨R, hR⟩ : ∃ R, be (v.last + 1) 8 ++ x = R := ⟨_, rfl⟩
 rw [hR] at HJ hRL
 have HRL : Hid (R.length ≤ 4000) := by show _ ≤ _; omega
 have HRR : Hid (vputR v x = R) := hR
 clear h1 h2 hcs hR hRL
 go_enter Tryz.func12, Tryz.ntmps12
 go_wp2_with fail
 refine HN.out.mono ?_
 rintro e w' ⟨rfl, rfl⟩
 go_upto_region 5 with fail
 clear hc2 d1 d1' d2 d2' d3 hw
 refine wp_region_eager_in (KT base w) [(0, true), (1, true), (2, true), (3, true), (4, true), (5, true), (6, true), (7, true), (8, true), (9, true), (10, false), (11, false), (12, true)] (by kernel_rfl) (by kernel_rfl) ?_ (eagerOpen rfl ?_)
 ·exact KT.of_below (below_drew1 _ _)
 have hy0 : KT base w w.drew := KT.of_below (below_drew1 _ _)
 repeat (first
  | ((first | (apply wpEager_take; (· rfl); (· (intro w' hb'; go_simp; try with_reducible rfl))) | refine wpEager_skip (by rfl) ?_ | refine wpEager_off (by rfl) ?_); (try simp only [Act.put, zA, zB, zC]); (try refine eagerOpen rfl ?_))
  | (apply wpEager_take; (· rfl); (· (intro w' hb'; have hk' := (HC0.out) w' hb'; go_split_ands; go_simp; try with_reducible rfl)); (try simp only [Act.put, zA, zB, zC]); (try refine eagerOpen rfl ?_))
  | (apply wpEager_take; (· rfl); (· (intro w' hb'; have hk' := (HC2.out) w' hb'; go_split_ands; go_simp; try with_reducible rfl)); (try simp only [Act.put, zA, zB, zC]); (try refine eagerOpen rfl ?_)))
 (refine wpEager_op (by rfl) (fun K hK => ?_); go_simp; (refine (HJ.out _ hy0).mono ?_; rintro e y1 ⟨p1, c1, rfl, ho1, hb1⟩; have hy1 : KT base w y1 := hy0.next hb1; have hx1 := (HX.out.kt hy0 (HX.out.sx.dx.below (below_drew1 _ _))).below hb1; have HO1 := Lib.hid (own_bs ho1); clear hb1 ho1); refine Shut.out hK _ _ (by assumption) ?_; clear hK K; (try simp only [Act.put, zA, zB, zC]); (try refine eagerOpen rfl ?_))
 (refine wpEager_op (by rfl) (fun K hK => ?_); go_simp; (refine (append_any y1 hx1.sx.dx hx1.rol (by omega) p1 R.length c1 R HO1.out HRL.out HFW.out).mono ?_; rintro e y2 ⟨rfl, hdx, hk2⟩; have hy2 : KT base w y2 := hy1.trans hk2); refine Shut.out hK _ _ (by assumption) ?_; clear hK K; (try simp only [Act.put, zA, zB, zC]); (try refine eagerOpen rfl ?_))
 repeat ((first | (apply wpEager_take; (· rfl); (· (intro w' hb'; go_simp; try with_reducible rfl))) | refine wpEager_skip (by rfl) ?_ | refine wpEager_off (by rfl) ?_); (try simp only [Act.put, zA, zB, zC]); (try refine eagerOpen rfl ?_))
 refine eagerEnd ?_
 have HX2 := Lib.hid (hx1.kt hk2 hdx)
 have HK2 := Lib.hid hy2
 have HPE : Hid (vputE d v x = appE d 0 R) := by show _ = _; unfold vputE; rw [if_pos HOK.out, HRR.out]
 have HPD : Hid (vputD d v x = appD d 0 R) := by show _ = _; unfold vputD; rw [if_pos HOK.out, HRR.out]
 have HPV : Hid (vputV d v x = if appE d 0 R = 0 then ⟨v.last + 1, v.some, v.body, v.after ++ [x]⟩ else v) := by
  show _ = _
  unfold vputV
  rw [HRR.out]
  by_cases he : appE d 0 R = 0
  ·rw [if_pos he, if_pos ⟨HOK.out, he⟩]
  ·rw [if_neg he, if_neg (fun hh => he hh.2)]
 clear hx1 hk2 hdx hy0 hy1 hy2 HC0 HC2 HJ HO1 HOK HX HN
 have HB2 := Lib.hid (HB.out y2 HK2.out)
 have HXL : Hid (x.length ≤ 3000) := hx
 generalize appE d 0 R = EE at *
 generalize appD d 0 R = DD2 at *
 by_cases he : EE = 0
 rotate_left
 ·have q1 : (EE == 0) = false := beq_eq_false_iff_ne.2 he
  have q2 : (EE != 0) = true := bne_iff_ne.2 he
  rw [if_neg he] at HPV
  have HEND : Hid (VPutX base rb sb db vb d s v x pb cb pa ca w (.returned (.int .i64 EE)) y2) := ⟨by rw [HPE.out], pa, ca, by rw [HPD.out, HPV.out]; exact HX2.out, Turns.imp HK2.out (fun k _ hk => .inl hk), fun k hk => .inl (by rw [HPV.out] at hk; exact hk)⟩
  clear he
  go_wp2_with fail
  go_ret
  exact HEND.out
 have q1 : (EE == 0) = true := beq_iff_eq.2 he
 have q2 : (EE != 0) = false := by rw [bne_eq_false_iff_eq]; exact he
 rw [if_pos he] at HPV
 rw [he] at HPE
 clear he
 obtain ⟨hs', hl1, hl2⟩ := HX2.out.ls.all
 have hnb : ¬ (Value.slice pa v.after.length ca).ownBlock = some vb := fun hk => by
  rcases hl1.2 with ⟨e, _⟩ | ⟨g, cap, cur, e, _, hgg, _⟩
  ·rw [e] at hk; cases hk
  ·rw [e] at hk
   simp only [Value.ownBlock, Option.some.injEq] at hk
   subst hk
   have := HX2.out.row
   rw [hgg] at this
   injection this with e1
   injection e1 with _ e2
   exact absurd e2 (by decide)
 have HC2 : Hid (∀ w', Turns (fun k => (Value.slice pa v.after.length ca).ownBlock = some k) y2 w' → w'.cell? ⟨vb, 2, none⟩ = some (.int .u64 (v.last : Int))) := fun w' ht => (vA_cells (ht.keep HX2.out.row hnb)).2.2.1
 have HC5 : Hid (∀ w', Turns (fun k => (Value.slice pa v.after.length ca).ownBlock = some k) y2 w' → w'.cell? ⟨vb, 5, none⟩ = some (.slice pa v.after.length ca)) := fun w' ht => (vA_cells (ht.keep HX2.out.row hnb)).2.2.2.2.2
 have HL1' := Lib.hid hl1
 have HL2 := Lib.hid hl2
 have HYB := Lib.hid (below_drew1 y2.heap.size y2)
 have HBS : Hid (base ≤ y2.heap.size) := HX2.out.sx.dx.1
 clear hl1 hl2 hnb
 go_upto_region 8 with fail
 refine wp_region_eager_v (Turns (fun k => (Value.slice pa v.after.length ca).ownBlock = some k) y2) [1] [0, 2, 3, 4, 5, 6, 7, 8, 9, 10, 11] [(0, true), (2, true), (3, true), (4, true), (5, true), (6, true), (7, true), (8, true), (9, true), (10, true), (11, true), (12, false), (13, false), (14, false)] (.take 15 (.take 16 (.one 17 (.take 18 (.take 19 (.one 20 .nil)))))) (by kernel_rfl) (by kernel_rfl) (Turns.of_below (below_drew1 _ _)) (eagerVOpen rfl ?_)
 (apply eagerVTake; (· rfl); (· (intro w'; go_simp; try with_reducible rfl)); try simp only [Act.put, zA, zB, zC])
 refine eagerVEnd (eagerUOpen rfl ?_)
 repeat (first
  | ((first | (apply wpEagerU_take; (· rfl); (· (intro w' hb'; go_simp; try with_reducible rfl))) | refine wpEagerU_skip (by rfl) ?_); (try simp only [Act.put, zA, zB, zC]); (try refine eagerUOpen rfl ?_))
  | (apply wpEagerU_take; (· rfl); (· (intro w' hb'; have hk' := (HC2.out) w' hb'; go_split_ands; go_simp; try with_reducible rfl)); (try simp only [Act.put, zA, zB, zC]); (try refine eagerUOpen rfl ?_))
  | (apply wpEagerU_take; (· rfl); (· (intro w' hb'; have hk' := (HC5.out) w' hb'; go_split_ands; go_simp; try with_reducible rfl)); (try simp only [Act.put, zA, zB, zC]); (try refine eagerUOpen rfl ?_)))
 clear HC2 HC5
 refine wpEagerU_op (by rfl) (fun K hK => oper_of_list rfl ?_)
 have hbd := HB2.out.below HYB.out
 refine wpList_append_nx rfl _ _ 22 rfl (base := base) Tryz.underlying22 info8 rfl (by omega) (v := .slice none 0 0) rfl (World.ownsRow_nil _ _ _ _) rfl hbd (bytesV_one _) ⟨by omega, by omega⟩ (Nat.le_trans HBS.out HYB.out.size) ?_
 intro p8 c8 y8 ho8 hg8 _ _
 have hb8 : Below y2.heap.size y2 y8 := HYB.out.grown hg8 HYB.out.size (fun k hk => by simp [Value.ownBlock] at hk)
 have HX8 : Hid (y8.ownsRow base 5 1 (.slice p8 x.length c8) x.length (bytesV x)) := by show World.ownsRow _ _ _ _ _ _ _; simpa using ho8
 refine only_end (Shut.out hK _ _ (Turns.of_below hb8) ?_)
 clear hK K ho8 hg8 hbd
 have z8 : 0 + x.length = x.length := Nat.zero_add _
 rw [z8]
 clear z8
 (try simp only [Act.put, zA, zB, zC]); (try refine eagerUOpen rfl ?_)
 have hal8 := Below.allocs y8 (.cells #[.slice p8 x.length c8] 22)
 have hbA : Below y2.heap.size y2 (y8.alloc (.cells #[.slice p8 x.length c8] 22)) := hb8.trans (hal8.mono hb8.size)
 refine wpEagerU_op (by rfl) (fun K hK => ?_)
 go_simp
 refine Shut.out hK _ _ (Turns.of_below hbA) ?_
 clear hK K
 (try simp only [Act.put, zA, zB, zC]); (try refine eagerUOpen rfl ?_)
 have HX28 := Lib.hid (HX2.out.below hb8)
 have HL18 := Lib.hid (own_touch HL1'.out (Turns.of_below (S := fun _ => False) hb8) (fun _ _ h => h))
 have HL28 : Hid (∀ j (h : j < v.after.length), ∃ q k, hs'[j]? = some (.slice q v.after[j].length k) ∧ y8.ownsRow base 5 1 (.slice q v.after[j].length k) v.after[j].length (bytesV v.after[j])) := fun j hj => by
  obtain ⟨q, k, e1, e2⟩ := HL2.out j hj
  exact ⟨q, k, e1, own_touch e2 (Turns.of_below (S := fun _ => False) hb8) (fun _ _ h => h)⟩
 have HOA := Lib.hid (own_touch HL18.out (Turns.of_below (S := fun _ => False) hal8) (fun _ _ h => h))
 have HXA := Lib.hid (hdr_sl y8 (.slice p8 x.length c8) 22 y8.heap.size rfl)
 have HSA : Hid (base ≤ (y8.alloc (.cells #[.slice p8 x.length c8] 22)).heap.size) := Nat.le_trans HBS.out hbA.size
 refine wpEagerU_op (by rfl) (fun K hK => oper_of_list rfl ?_)
 refine wpList_append_nx rfl _ _ 31 rfl (base := base) Tryz.underlying31 infoS rfl (by omega) (v := .slice pa v.after.length ca) rfl HOA.out rfl HXA.out (fun u hu => by rw [List.mem_singleton] at hu; subst hu; rfl) ⟨by omega, by omega⟩ HSA.out ?_
 intro p9 c9 w9 ho9 hg9 hnx9 _
 refine only_end (Shut.out hK _ _ ((Turns.of_below hbA).trans (Turns.grown hg9 (fun k h => h)) (fun _ _ h => h)) ?_)
 clear hK K
 have hpu := HX28.out.push HL1.out HX8.out HL18.out HL28.out ho9 hg9
 obtain ⟨hp1, hp2, hr3, hr4, hp5⟩ := hpu
 have hcN : ((v.last + 1 : Nat) : Int) = (v.last : Int) + 1 := by omega
 rw [hcN] at hp1 hp2 hr4 hp5
 have hq1 : w.heap.size ≤ y2.heap.size := HK2.out.size
 have hq2 : y2.heap.size ≤ y8.heap.size := hb8.size
 have HEND : Hid (VPutX base rb sb db vb d s v x pb cb pa ca w (.returned (.int .i64 0)) ((w9.setCell ⟨vb, 2, none⟩ (.int .u64 ((v.last : Int) + 1))).setCell ⟨vb, 5, none⟩ (.slice p9 (v.after.length + 1) c9))) :=
  ⟨by rw [HPE.out], p9, c9, by rw [HPD.out, HPV.out]; exact hp1,
   (Turns.imp HK2.out (fun k _ hk => Or.inl hk)).trans ((Turns.of_below (S := fun k => k = vb ∨ (Value.slice pa v.after.length ca).ownBlock = some k) hb8).trans hp5 (fun _ _ hh => hh)) (fun k _ hk => Or.inr hk),
   fun k hk => by
    rcases hnx9 k ((own_n p9 _ _ _ _).trans hk) with e | e
    ·exact .inl e
    ·refine .inr ?_
     try rw [World.size_alloc] at e
     omega⟩
 obtain ⟨-, -, hy2, -, -, -⟩ := vA_cells hr3
 have hz2 := frozen_of_row _ _ 2 _ _ hr3
 obtain ⟨-, -, -, -, -, hy5⟩ := vA_cells hr4
 have hz5 := frozen_of_row _ _ 5 _ _ hr4
 clear hp1 hp2 hp5 hq1 hq2 hnx9 hr3 hr4 ho9 hg9 hcN hb8 hbA hal8 HX28 HL18 HL28 HOA HXA HSA HX8
 try simp only [Act.put, zA, zB, zC]
 refine eagerUEnd ?_
 repeat (apply tree_take; (· rfl); (· rfl); (· (intro w' hb'; go_simp; try with_reducible rfl)); try simp only [Act.put, zA, zB, zC])
 refine tree_one rfl (by rfl) (fun K hK => ?_)
 go_simp
 refine Shut.out hK _ _ trivial ?_
 clear hK K
 try simp only [Act.put, zA, zB, zC]
 repeat (apply tree_take; (· rfl); (· rfl); (· (intro w' hb'; go_simp; try with_reducible rfl)); try simp only [Act.put, zA, zB, zC])
 refine tree_one rfl (by rfl) (fun K hK => ?_)
 go_simp
 refine Shut.out hK _ _ trivial ?_
 clear hK K
 try simp only [Act.put, zA, zB, zC]
 refine tree_nil ?_
 go_wp2_with fail
 go_ret
 exact HEND.out
theorem vput_any {base rb sb db vb : Nat} {d : DD} {s : SS} {v : VS} (w : World) (h : XV base rb sb db vb d s v w) (p : Option Addr) (c : Nat) (x : List UInt8) (hB : ∀ w', KT base w w' → Bs w' p x.length c x) (hx : x.length ≤ 3000) (hal : v.after.length ≤ 100000) (hfew : (fD d 0).steps.length + 1 ≤ 4398046511104) :
  Calls Tryz.prog 12 #[.pointer (some ⟨vb, 0, none⟩), .slice p x.length c] w (VPutP base rb sb db vb d s v x w) := by
 obtain ⟨pb, cb, pa, ca, h⟩ := h
 refine (vput_x w h p c x hB hx hal hfew).mono ?_
 rintro e w' ⟨he, pa', ca', hx', ht, _⟩
 exact ⟨he, ⟨_, _, _, _, hx'⟩, h.kvd ht⟩
end Go.Proofs.YtnejjfglkindjaaGreatDoor.Vlt
namespace Go.Proofs.YtnejjfglkindjaaGreatDoor.Vlt
open Go.RowKit Go.Mir Go.Mir.Parts Dk Rol Wr Slt Cut
open Frm (frame scan)
theorem fewj_lay : ∀ (i : Nat) (l : List LA) {d : DD} {N : Nat}, (∀ j, (fD d j).steps.length ≤ N) → ∀ j, (fD (layD i l d) j).steps.length ≤ N + l.length
 | _, [], _, _, h => h
 | i, a :: r, d, N, h => fun j => by
  unfold layD
  split
  ·have := fewj_lay i r (few_stp (i := i) (a := a) h) j
   simp only [List.length_cons]; omega
  ·have := few_stp (i := i) (a := a) h j
   simp only [List.length_cons]; omega
theorem fewj_put {d : DD} {s : SS} {x : List UInt8} {N : Nat} (h : ∀ j, (fD d j).steps.length ≤ N) : ∀ j, (fD (putSD d s 1 2 x) j).steps.length ≤ N + 4 := fun j => by
 unfold putSD
 split
 ·have h1 := fewj_lay (nxt s 1 2) (acts d (nxt s 1 2) (wrapB s x)) h j
  have h2 : (acts d (nxt s 1 2) (wrapB s x)).length ≤ 4 := by unfold acts; split <;> simp
  omega
 ·have := h j; omega
def vcR (v : VS) (x : List UInt8) : List UInt8 := be v.last 8 ++ x
def vcE (d : DD) (s : SS) (v : VS) (x : List UInt8) : Int := if x.length ≤ 60000 then (if putSE d s 1 2 (vcR v x) = 0 then clrE (putSD d s 1 2 (vcR v x)) 0 0 else putSE d s 1 2 (vcR v x)) else 1
def vcD (d : DD) (s : SS) (v : VS) (x : List UInt8) : DD := if x.length ≤ 60000 then (if putSE d s 1 2 (vcR v x) = 0 then clrD (putSD d s 1 2 (vcR v x)) 0 0 else putSD d s 1 2 (vcR v x)) else d
def vcS (d : DD) (s : SS) (v : VS) (x : List UInt8) : SS := if x.length ≤ 60000 then putSS d s 1 2 (vcR v x) else s
def vcV (d : DD) (s : SS) (v : VS) (x : List UInt8) : VS := if x.length ≤ 60000 ∧ putSE d s 1 2 (vcR v x) = 0 then ⟨v.last, true, x, []⟩ else v
def VCompP (base rb sb db vb : Nat) (d : DD) (s : SS) (v : VS) (x : List UInt8) (w : World) (e : Ending) (w' : World) : Prop := e = .returned (.int .i64 (vcE d s v x)) ∧ XV base rb sb db vb (vcD d s v x) (vcS d s v x) (vcV d s v x) w' ∧ KV base w w'
def VCompX (base rb sb db vb : Nat) (d : DD) (s : SS) (v : VS) (x : List UInt8) (pa : Option Addr) (ca : Nat) (w : World) (e : Ending) (w' : World) : Prop :=
 e = .returned (.int .i64 (vcE d s v x)) ∧ ∃ pb' cb' pa' ca', XW base rb sb db vb (vcD d s v x) (vcS d s v x) (vcV d s v x) pb' cb' pa' ca' w' ∧ Turns (fun k => STy base w k ∨ k = vb) w w' ∧ ∀ k, (Value.slice pa' (vcV d s v x).after.length ca').ownBlock = some k → (Value.slice pa v.after.length ca).ownBlock = some k
theorem XW.kvs {base rb sb db vb : Nat} {d : DD} {s : SS} {v : VS} {pb pa : Option Addr} {cb ca : Nat} {w w' : World} (h : XW base rb sb db vb d s v pb cb pa ca w) (ht : Turns (fun k => STy base w k ∨ k = vb) w w') : KV base w w' :=
 Turns.imp ht (fun k _ hk => by
  rcases hk with ⟨a, M, t, fr, b, c⟩ | rfl
  ·exact ⟨a, M, t, fr, b, c.imp id (fun h => h.imp id .inl)⟩
  ·exact ⟨h.low, _, _, _, h.row, .inr (.inr (.inr (.inl rfl)))⟩)
set_option maxRecDepth 100000 in
set_option maxHeartbeats 3200000 in
theorem vcomp_x {base rb sb db vb N : Nat} {d : DD} {s : SS} {v : VS} {pb pa : Option Addr} {cb ca : Nat} (w : World) (h : XW base rb sb db vb d s v pb cb pa ca w) (p : Option Addr) (c : Nat) (x : List UInt8) (hB : ∀ w', KS base w w' → Bs w' p x.length c x) (hx : x.length ≤ 2900) (hN : N ≤ 4398045900000) (hfew : ∀ j, (fD d j).steps.length ≤ N) :
  Calls Tryz.prog 13 #[.pointer (some ⟨vb, 0, none⟩), .slice p x.length c] w (VCompX base rb sb db vb d s v x pa ca w) := by
 have HN := Lib.hid (vnone_any w ⟨pb, cb, pa, ca, h⟩)
 have HLT := Lib.hid h.last
 have HX := Lib.hid h
 have HB := Lib.hid hB
 have HFW := Lib.hid hfew
 have hle := (hB w (KS.refl _ _)).le
 have hmx := (hB w (KS.refl _ _)).max
 clear h hB hfew
 have d2 : decide ((60000 : Int) < (x.length : Int)) = false := decide_eq_false (by omega)
 have d2' : decide (60000 < x.length) = false := decide_eq_false (by omega)
 have HOK : Hid (x.length ≤ 60000) := by show _ ≤ _; omega
 have HC1 : Hid (∀ w', KS base w w' → w'.cell? ⟨vb, 1, none⟩ = some (.pointer (some ⟨sb, 0, none⟩))) := fun w' hk => (vA_cells (hk.row HX.out.row (by decide) (by decide) (by decide))).2.1
 have HC2 : Hid (∀ w', KS base w w' → w'.cell? ⟨vb, 2, none⟩ = some (.int .u64 (v.last : Int))) := fun w' hk => (vA_cells (hk.row HX.out.row (by decide) (by decide) (by decide))).2.2.1
 have HJ := Lib.hid (fun (y : World) (hy : KS base w y) => join_any v.last HLT.out p c x y (HB.out y hy) (by omega))
 have hRL : (be v.last 8 ++ x).length = 8 + x.length := by rw [List.length_append, be_length]
 obtain ⟨R, hR⟩ : ∃ R, be v.last 8 ++ x = R := ⟨_, rfl⟩
 rw [hR] at HJ hRL
 have HRL : Hid (R.length ≤ 3000) := by show _ ≤ _; omega
 have HRR : Hid (vcR v x = R) := hR
 clear hR hRL
 go_enter Tryz.func13, Tryz.ntmps13
 go_wp2_with fail
 refine HN.out.mono ?_
 rintro e w' ⟨rfl, rfl⟩
 go_upto_region 5 with fail
 clear d2 d2'
 refine wp_region_eager_in (KS base w) [(0, true), (1, true), (2, true), (3, true), (4, true), (5, true), (6, true), (7, true), (8, true), (9, false), (10, false), (11, true)] (by kernel_rfl) (by kernel_rfl) ?_ (eagerOpen rfl ?_)
 ·exact KS.of_below (below_drew1 _ _)
 have hy0 : KS base w w.drew := KS.of_below (below_drew1 _ _)
 repeat (first
  | ((first | (apply wpEager_take; (· rfl); (· (intro w' hb'; go_simp; try with_reducible rfl))) | refine wpEager_skip (by rfl) ?_ | refine wpEager_off (by rfl) ?_); (try simp only [Act.put, zA, zB, zC]); (try refine eagerOpen rfl ?_))
  | (apply wpEager_take; (· rfl); (· (intro w' hb'; have hk' := (HC1.out) w' hb'; go_split_ands; go_simp; try with_reducible rfl)); (try simp only [Act.put, zA, zB, zC]); (try refine eagerOpen rfl ?_))
  | (apply wpEager_take; (· rfl); (· (intro w' hb'; have hk' := (HC2.out) w' hb'; go_split_ands; go_simp; try with_reducible rfl)); (try simp only [Act.put, zA, zB, zC]); (try refine eagerOpen rfl ?_)))
 (refine wpEager_op (by rfl) (fun K hK => ?_); go_simp; (refine (HJ.out _ hy0).mono ?_; rintro e y1 ⟨p1, c1, rfl, ho1, hb1⟩; have hy1 : KS base w y1 := hy0.next hb1; have hx1 := (HX.out.below (below_drew1 _ _)).below hb1; have HO1 := Lib.hid (fun w' (hk : KT base y1 w') => own_bs (hk.own ho1 (by decide) (by decide))); clear hb1 ho1); refine Shut.out hK _ _ (by assumption) ?_; clear hK K; (try simp only [Act.put, zA, zB, zC]); (try refine eagerOpen rfl ?_))
 (refine wpEager_op (by rfl) (fun K hK => ?_); go_simp; (refine (sput_any y1 hx1.sx (by omega) (by omega) p1 c1 R HO1.out HRL.out (by omega) HFW.out).mono ?_; rintro e y2 ⟨rfl, hsx, hk2⟩; have hy2 : KS base w y2 := hy1.trans hk2); refine Shut.out hK _ _ (by assumption) ?_; clear hK K; (try simp only [Act.put, zA, zB, zC]); (try refine eagerOpen rfl ?_))
 repeat ((first | (apply wpEager_take; (· rfl); (· (intro w' hb'; go_simp; try with_reducible rfl))) | refine wpEager_skip (by rfl) ?_ | refine wpEager_off (by rfl) ?_); (try simp only [Act.put, zA, zB, zC]); (try refine eagerOpen rfl ?_))
 refine eagerEnd ?_
 have HX2 := Lib.hid (hx1.ks hk2 hsx)
 have HK2 := Lib.hid hy2
 have HF2 := Lib.hid (fewj_put (s := s) (x := R) HFW.out)
 have HPE : Hid (vcE d s v x = if putSE d s 1 2 R = 0 then clrE (putSD d s 1 2 R) 0 0 else putSE d s 1 2 R) := by show _ = _; unfold vcE; rw [if_pos HOK.out, HRR.out]
 have HPD : Hid (vcD d s v x = if putSE d s 1 2 R = 0 then clrD (putSD d s 1 2 R) 0 0 else putSD d s 1 2 R) := by show _ = _; unfold vcD; rw [if_pos HOK.out, HRR.out]
 have HPS : Hid (vcS d s v x = putSS d s 1 2 R) := by show _ = _; unfold vcS; rw [if_pos HOK.out, HRR.out]
 have HPV : Hid (vcV d s v x = if putSE d s 1 2 R = 0 then ⟨v.last, true, x, []⟩ else v) := by
  show _ = _
  unfold vcV
  rw [HRR.out]
  by_cases he : putSE d s 1 2 R = 0
  ·rw [if_pos he, if_pos ⟨HOK.out, he⟩]
  ·rw [if_neg he, if_neg (fun hh => he hh.2)]
 clear hx1 hk2 hsx hy0 hy1 hy2 HC1 HC2 HJ HO1 HOK HX HN
 have HB2 := Lib.hid (HB.out y2 HK2.out)
 generalize putSE d s 1 2 R = EE at *
 generalize putSD d s 1 2 R = DD2 at *
 generalize putSS d s 1 2 R = SS2 at *
 by_cases he : EE = 0
 rotate_left
 ·have q1 : (EE == 0) = false := beq_eq_false_iff_ne.2 he
  have q2 : (EE != 0) = true := bne_iff_ne.2 he
  rw [if_neg he] at HPV HPE HPD
  have HEND : Hid (VCompX base rb sb db vb d s v x pa ca w (.returned (.int .i64 EE)) y2) := ⟨by rw [HPE.out], pb, cb, pa, ca, by rw [HPD.out, HPS.out, HPV.out]; exact HX2.out, Turns.imp HK2.out (fun k _ hk => .inl hk), fun k hk => by rw [HPV.out] at hk; exact hk⟩
  clear he
  go_wp2_with fail
  go_ret
  exact HEND.out
 have q1 : (EE == 0) = true := beq_iff_eq.2 he
 have q2 : (EE != 0) = false := by rw [bne_eq_false_iff_eq]; exact he
 rw [if_pos he] at HPV HPE HPD
 clear he
 have HBS : Hid (base ≤ y2.heap.size) := HX2.out.sx.dx.1
 go_wp2_with (at_builtin; refine wpList_append_nx rfl _ _ 22 rfl (base := base) Tryz.underlying22 info8 rfl (by omega) rfl (World.ownsRow_nil _ _ _ _) rfl HB2.out (bytesV_one _) ⟨by omega, by omega⟩ HBS.out ?_)
 intro p8 c8 y8 ho8 hg8 _ _
 have hb8 : Below y2.heap.size y2 y8 := (Below.refl _ y2).grown hg8 (Nat.le_refl _) (fun k hk => by simp [Value.ownBlock] at hk)
 have HX8 : Hid (Rd y8 base (.slice p8 x.length c8) x) := Rd.of_own (by simpa using ho8)
 have HXW8 := Lib.hid (HX2.out.below hb8)
 have r1 := HXW8.out.row
 have r2 : (y8.setCell ⟨vb, 3, none⟩ (.bool true)).heap[vb]? = some (.cells (vA rb sb ⟨v.last, true, v.body, v.after⟩ pb cb pa ca) 33 (0, 0)) := Dk.cell_put (off := 3) (.bool true) r1
 have r3 : ((y8.setCell ⟨vb, 3, none⟩ (.bool true)).setCell ⟨vb, 4, none⟩ (.slice p8 x.length c8)).heap[vb]? = some (.cells (vA rb sb ⟨v.last, true, x, v.after⟩ p8 c8 pa ca) 33 (0, 0)) := Dk.cell_put (off := 4) (.slice p8 x.length c8) r2
 have r4 : (((y8.setCell ⟨vb, 3, none⟩ (.bool true)).setCell ⟨vb, 4, none⟩ (.slice p8 x.length c8)).setCell ⟨vb, 5, none⟩ (.slice none 0 0)).heap[vb]? = some (.cells (vA rb sb ⟨v.last, true, x, []⟩ p8 c8 none 0) 33 (0, 0)) := Dk.cell_put (off := 5) (.slice none 0 0) r3
 obtain ⟨-, -, -, hy3, -, -⟩ := vA_cells r1
 have hz3 := frozen_of_row _ _ 3 _ _ r1
 obtain ⟨-, -, -, -, hy4, -⟩ := vA_cells r2
 have hz4 := frozen_of_row _ _ 4 _ _ r2
 obtain ⟨-, -, -, -, -, hy5⟩ := vA_cells r3
 have hz5 := frozen_of_row _ _ 5 _ _ r3
 obtain ⟨hy0, -⟩ := vA_cells r4
 have hT : Turns (fun k => k = vb) y8 (((y8.setCell ⟨vb, 3, none⟩ (.bool true)).setCell ⟨vb, 4, none⟩ (.slice p8 x.length c8)).setCell ⟨vb, 5, none⟩ (.slice none 0 0)) :=
  (((Turns.refl (fun k => k = vb) y8).setCell (p := ⟨vb, 3, none⟩) (fun _ => rfl) _).setCell (p := ⟨vb, 4, none⟩) (fun _ => rfl) _).setCell (p := ⟨vb, 5, none⟩) (fun _ => rfl) _
 have hv8 : ∀ k M fr, y8.heap[k]? = some (.cells M 5 fr) → ¬ k = vb := fun k M fr hm e => by
  rw [e, r1] at hm
  injection hm with e1
  injection e1 with _ e2
  exact absurd e2 (by decide)
 have HXZ : Hid (XW base rb sb db vb DD2 SS2 ⟨v.last, true, x, []⟩ p8 c8 none 0 (((y8.setCell ⟨vb, 3, none⟩ (.bool true)).setCell ⟨vb, 4, none⟩ (.slice p8 x.length c8)).setCell ⟨vb, 5, none⟩ (.slice none 0 0))) :=
  HXW8.out.put hT (fun k hk => .inl hk) HLT.out r4 (HX8.out.touch hT hv8) (LsO.nil _ _)
 have HKZ : Hid (Turns (fun k => STy base w k ∨ k = vb) w (((y8.setCell ⟨vb, 3, none⟩ (.bool true)).setCell ⟨vb, 4, none⟩ (.slice p8 x.length c8)).setCell ⟨vb, 5, none⟩ (.slice none 0 0))) := (Turns.imp (HK2.out.next hb8) (fun k _ hk => Or.inl hk)).trans hT (fun k _ hk => Or.inr hk)
 clear r1 r2 r3 r4 hT hv8 hb8 ho8 hg8 HX8 HXW8 HX2 HK2 HBS
 go_upto_region 9 with fail
 generalize ((y8.setCell ⟨vb, 3, none⟩ (.bool true)).setCell ⟨vb, 4, none⟩ (.slice p8 x.length c8)).setCell ⟨vb, 5, none⟩ (.slice none 0 0) = Z at *
 have HCL := Lib.hid (clear_any Z HXZ.out.sx.dx HXZ.out.rol (by omega) (by have := HF2.out 0; omega))
 clear hy3 hz3 hy4 hz4 hy5 hz5
 go_wp2_with fail
 refine HCL.out.mono ?_
 rintro e y9 ⟨rfl, hdx, hk9⟩
 have HEND : Hid (VCompX base rb sb db vb d s v x pa ca w (.returned (.int .i64 (clrE DD2 0 0))) y9) := ⟨by rw [HPE.out], _, _, none, 0, by rw [HPD.out, HPS.out, HPV.out]; exact HXZ.out.kt hk9 hdx, HKZ.out.trans (KS.of_kt hk9) (fun k hk ⟨h1, M, t, fr, h2, h3⟩ => Classical.byContradiction fun hn => hn (.inl ⟨h1, M, t, fr, by rw [← HKZ.out.block k hk hn]; exact h2, h3⟩)), fun k hk => by cases hk⟩
 clear hdx hk9
 go_wp2_with fail
 go_ret
 exact HEND.out
theorem vcomp_any {base rb sb db vb N : Nat} {d : DD} {s : SS} {v : VS} (w : World) (h : XV base rb sb db vb d s v w) (p : Option Addr) (c : Nat) (x : List UInt8) (hB : ∀ w', KS base w w' → Bs w' p x.length c x) (hx : x.length ≤ 2900) (hN : N ≤ 4398045900000) (hfew : ∀ j, (fD d j).steps.length ≤ N) :
  Calls Tryz.prog 13 #[.pointer (some ⟨vb, 0, none⟩), .slice p x.length c] w (VCompP base rb sb db vb d s v x w) := by
 obtain ⟨pb, cb, pa, ca, h⟩ := h
 refine (vcomp_x w h p c x hB hx hN hfew).mono ?_
 rintro e w' ⟨he, pb', cb', pa', ca', hx', ht, _⟩
 exact ⟨he, ⟨_, _, _, _, hx'⟩, h.kvs ht⟩
end Go.Proofs.YtnejjfglkindjaaGreatDoor.Vlt
