/- PARTS, JOINED: SCRIPTS: words as ids, and as numbers; a word's kind. Conditions: words that fit. SCRIPTS: plains, and the reference's All. Conditions: at most 21001 events. SCRIPTS: how long lines are. Conditions: none. SCRIPTS: Print. Conditions: at most 21000 events, each with at most 21000 bytes and ids. SCRIPTS: the document's: a word's kind, keep, words as numbers. Conditions: words that fit. SCRIPTS: words as numbers, stored through pointers. Conditions: words that fit. SCRIPTS: the readers, in a map. Conditions: none. A REGION THAT DRAWS ITS ORDER, WALKED BY A TREE: what reads only what stood at its start is taken at once; where two operations may come next, both ways are walked. No program is named. Conditions: none. SCRIPTS: the readers, each. Conditions: words that fit. -/
import Derived.Test.YtcddgbobbogpgaaDoorSb1
import Derived.Test.YtcddgbobbogpgaaDoorSb2
import Derived.Test.YtcddgbobbogpgaaDoorSb3
import Derived.Test.YtcddgbobbogpgaaDoorSb4
import Derived.Test.YtcddgbobbogpgaaDoorSb5
import Derived.Test.YtcddgbobbogpgaaDoorSb6
import Derived.WideMake
namespace Go.Proofs.YtcddgbobbogpgaaDoor.Scr
open Go.RowKit Go.Mir Go.Mir.Hx Go.Mir.Parts HexW Rpl

def idsT (ws : List (List UInt8)) : List (List UInt8) := ws.map fun x => (idL x).getD zeros
def IdsR (ws : List (List UInt8)) (w : World) (e : Ending) (w' : World) : Prop := Below w.heap.size w w' ∧
  ((∃ l p c, idsB ws = some l ∧ e = .returned (.tuple #[.slice p l.length c, .bool true]) ∧ Is w' p l.length c 32 l ∧ (∀ a, p = some a → w.heap.size ≤ a.block)) ∨ (idsB ws = none ∧ e = .returned (.tuple #[.slice none 0 0, .bool false])))
theorem made_id (w : World) (y : List UInt8) (M : Array Value) (t : TypeId) (hM : M.toList = bytesV y) (hy : y.length = 32) : Sl (w.alloc (.cells M t)) (some ⟨w.heap.size, 0, none⟩) 1 1 32 (bytesV y) :=
  ⟨by rw [bytesV_length, hy], Nat.le_refl _, by omega, fun h => (by cases h), fun a ha j u hu => by
    obtain rfl := Option.some.inj ha
    rw [add_none, cell_of_row _ _ _ _ _ _ (heap_alloc_last _ _), ← Array.getElem?_toList, hM, Nat.zero_add]; exact hu⟩
theorem ids_end {w w' : World} {p : Option Addr} {c : Nat} {ws : List (List UInt8)} (h : w'.ownsRow w.heap.size 25 32 (.slice p ws.length c) ws.length ((idsT ws).flatMap bytesV)) (hs : ∀ x ∈ ws, (idL x).isSome = true) (hl : ∀ x ∈ idsT ws, x.length = 32) (hb : Below w.heap.size w w') :
    IdsR ws w (.returned (.tuple #[.slice p ws.length c, .bool true])) w' := by
  refine ⟨hb, .inl ⟨idsT ws, p, c, if_pos hs, by rw [show (idsT ws).length = ws.length from List.length_map _], ?_, fun a ha => ?_⟩⟩
  · obtain ⟨p1, c1, he, hsl⟩ := own_sl h
    cases he
    rw [show (idsT ws).length = ws.length from List.length_map _]
    exact ⟨hsl, hl, List.length_map _⟩
  · subst ha
    rcases h.2 with ⟨e, _⟩ | ⟨g, cap, cur, e, hg, _⟩
    · cases e
    · cases e; exact hg
theorem infoIdB (_M : Array Value) : (Tryd.prog.info? 25).map (fun i => (i.zero.isSome, i.size)) = some (true, 32) := by kernel_rfl
set_option maxRecDepth 100000 in
set_option maxHeartbeats 3200000 in
theorem ids_any (q : Option Addr) (n c : Nat) (ws : List (List UInt8)) (w : World) (hW : Ws w q n c ws) (hn : n ≤ 1000000) (hl : ∀ x ∈ ws, x.length ≤ 1099511627776) :
    Calls Tryd.prog 53 #[.slice q n c] w (IdsR ws w) := by
  have HWS := Lib.hid hW
  have HLL := Lib.hid hl
  obtain rfl : ws.length = n := hW.length
  have hle := hW.le
  have hmax := hW.max
  clear hW hl
  have hzi := zeroId
  go_enter Tryd.func53, Tryd.ntmps53
  go_wp2_with fail
  go_loopw [4, 6, 7, 8, 11] (fun v _ _ _ j wr => ∃ (i : Nat) (p : Option Addr) (k : Nat), i ≤ ws.length ∧ j = .int .i64 i ∧ v = .slice p i k ∧ wr.ownsRow w.heap.size 25 32 v i ((idsT (ws.take i)).flatMap bytesV) ∧ (∀ x ∈ ws.take i, (idL x).isSome = true) ∧ (∀ x ∈ idsT (ws.take i), x.length = 32) ∧ Below w.heap.size w wr) (fun v _ _ _ j _ => ws.length - (intOf j).toNat)
  case atStart => exact ⟨0, none, 0, by omega, rfl, rfl, World.ownsRow_nil _ _ _ _, fun x hx => by simp at hx, fun x hx => by simp [idsT] at hx, Below.refl _ _⟩
  case round =>
    obtain ⟨i, p, k, hi, rfl, rfl, ho, hs, h32, hb⟩ := hrel
    have HO := Lib.hid ho
    have HSM := Lib.hid hs
    have H32 := Lib.hid h32
    have HB := Lib.hid hb
    clear ho hs h32 hb
    by_cases hlt : i < ws.length
    · have hd : decide ((i : Int) < (ws.length : Int)) = true := decide_eq_true (by omega)
      have hd2 : decide (i < ws.length) = true := decide_eq_true hlt
      obtain ⟨b, o, rfl⟩ := HWS.out.addr (by omega) (by omega)
      have hcx := cell_below (HWS.out.str hlt) HB.out
      have HTK : Hid (ws.take (i + 1) = ws.take i ++ [ws[i]]) := List.take_succ_eq_append_getElem hlt
      have HMEM : Hid (ws[i] ∈ ws) := List.getElem_mem hlt
      generalize ws[i] = x at *
      have HID := Lib.hid (idOf_any x wr (HLL.out x HMEM.out))
      go_wp2_with fail
      refine HID.out.mono ?_
      rintro y w6 ⟨hb6, hcase⟩
      have HO6 := Lib.hid (own_touch HO.out (Turns.of_below (S := fun _ => False) hb6) (fun _ _ h => h))
      have HB6 := Lib.hid (HB.out.trans (hb6.mono HB.out.size))
      clear hb6 HID hcx
      rcases hcase with ⟨z, M, hz, hzl, hM, rfl⟩ | ⟨hz, M, hM, rfl⟩
      · have hMs : M.size = 32 := by rw [← Array.length_toList, hM, bytesV_length, hzl]
        obtain ⟨_, hMo⟩ := row_id hM hzl
        have hb7 := box_below w6 Z32 M 25
        have HRW := Lib.hid (box_row w6 Z32 M 25)
        have HO7 := Lib.hid (own_touch HO6.out (Turns.of_below (S := fun _ => False) hb7) (fun _ _ h => h))
        have HB7 := Lib.hid (HB6.out.trans (hb7.mono HB6.out.size))
        have HMS := Lib.hid hMs
        have HMM := Lib.hid hM
        have HZ := Lib.hid hz
        have HZL := Lib.hid hzl
        have HMO := Lib.hid hMo
        clear hb7 HO6 HB6 hMs hMo hM hz hzl
        go_upto_region 8 with ((with_reducible refine wpStoreAt 7 ?_); refine wpList_store_row rfl 25 _ _ rfl w6.heap.size M rfl rfl 25 Z32 (box_new _ _ _) (infoId _ HMS.out) (by rw [HMS.out]; rfl) HMO.out ?_)
        generalize (w6.alloc (.cells Z32 25)).setRow w6.heap.size M = w7 at *
        have hal := Below.allocs w7 (.cells M 25)
        have HO8 := Lib.hid (own_touch HO7.out (Turns.of_below (S := fun _ => False) hal) (fun _ _ h => h))
        have HX8 := Lib.hid (made_id w7 z M 25 HMM.out HZL.out)
        have HB8 := Lib.hid (HB7.out.trans (hal.mono HB7.out.size))
        have HS8 := Lib.hid HB8.out.size
        clear hal HO7 HB7
        go_wp2_with (first
          | ((with_reducible refine wpAt 23 ?_); refine wpList_load_row rfl 25 _ rfl w6.heap.size rfl 25 M (0, 0) _ HRW.out Tryd.underlying25 rfl (infoId _ HMS.out) ?_)
          | refine wpList_buildOne rfl 26 25 _ rfl M rfl 32 Tryd.underlying26 (infoIdB M) (by omega) (by omega) HMS.out ?_
          | (at_builtin; refine wpList_append_nx rfl _ _ 26 rfl (base := w.heap.size) Tryd.underlying26 infoIds (by rw [show (Value.agg Z32).cells = Z32 from rfl]; exact Z32_size) (by omega) rfl HO8.out rfl HX8.out (bytesV_one _) ⟨by omega, by omega⟩ HS8.out ?_))
        intro p9 c9 w9 ho9 hgr hnx _
        have HB9 := Lib.hid (HB8.out.trans (own_below HO8.out hgr HS8.out))
        have HTT : Hid (idsT (ws.take (i + 1)) = idsT (ws.take i) ++ [z]) := by
          show _ = _
          rw [HTK.out]
          unfold idsT
          rw [List.map_append, List.map_cons, HZ.out]; rfl
        have HO9 : Hid (w9.ownsRow w.heap.size 25 32 (.slice p9 (i + 1) c9) (i + 1) ((idsT (ws.take (i + 1))).flatMap bytesV)) := by
          show World.ownsRow _ _ _ _ _ _ _
          rw [HTT.out, List.flatMap_append]
          simpa using ho9
        have HS9 : Hid (∀ y ∈ ws.take (i + 1), (idL y).isSome = true) := fun y hy => by
          rw [HTK.out, List.mem_append, List.mem_singleton] at hy
          rcases hy with hy | rfl
          · exact HSM.out y hy
          · rw [HZ.out]; rfl
        have H39 : Hid (∀ y ∈ idsT (ws.take (i + 1)), y.length = 32) := fun y hy => by
          rw [HTT.out, List.mem_append, List.mem_singleton] at hy
          rcases hy with hy | rfl
          · exact H32.out y hy
          · exact HZL.out
        clear ho9 hgr hnx HO8 HX8 HB8 HS8 HTT HRW HMS HMM
        go_wp2_with fail
        go_roundw
        case rel => exact ⟨i + 1, p9, c9, by omega, by go_num, rfl, HO9.out, HS9.out, H39.out, HB9.out⟩
        case measure => simp [intOf]; omega
      · have HBAD : Hid (idsB ws = none) := if_neg (fun h => by have := h x HMEM.out; rw [hz] at this; cases this)
        have hMs : M.size = 32 := by rw [← Array.length_toList, hM, bytesV_length]; rfl
        obtain ⟨_, hMo⟩ := row_id (x := zeros) hM rfl
        have hb7 := box_below w6 Z32 M 25
        have HB7 := Lib.hid (HB6.out.trans (hb7.mono HB6.out.size))
        have HMS := Lib.hid hMs
        have HMO := Lib.hid hMo
        clear hb7 hMs hMo hM hz
        go_upto_region 7 with ((with_reducible refine wpStoreAt 7 ?_); refine wpList_store_row rfl 25 _ _ rfl w6.heap.size M rfl rfl 25 Z32 (box_new _ _ _) (infoId _ HMS.out) (by rw [HMS.out]; rfl) HMO.out ?_)
        generalize (w6.alloc (.cells Z32 25)).setRow w6.heap.size M = w7 at *
        go_wp2_with fail
        go_ret2
        exact ⟨HB7.out, .inr ⟨HBAD.out, rfl⟩⟩
    · have hd : decide ((i : Int) < (ws.length : Int)) = false := decide_eq_false (by omega)
      have hd2 : decide (i < ws.length) = false := decide_eq_false hlt
      obtain rfl : i = ws.length := by omega
      have HE : Hid (IdsR ws w (.returned (.tuple #[.slice p ws.length k, .bool true])) wr) := by
        have h1 := HO.out
        have h2 := HSM.out
        have h3 := H32.out
        rw [List.take_length] at h1 h2 h3
        exact ids_end h1 h2 h3 HB.out
      go_wp2_with fail
      go_ret2
      exact HE.out
set_option maxRecDepth 100000 in
set_option maxHeartbeats 3200000 in
theorem rids_any (q : Option Addr) (n c : Nat) (ws : List (List UInt8)) (w : World) (hW : Ws w q n c ws) (hn : n ≤ 1000000) (hl : ∀ x ∈ ws, x.length ≤ 1099511627776) :
    Calls Tryd.prog 39 #[.slice q n c] w (IdsR ws w) := by
  have HWS := Lib.hid hW
  have HLL := Lib.hid hl
  obtain rfl : ws.length = n := hW.length
  have hle := hW.le
  have hmax := hW.max
  clear hW hl
  have hzi := zeroId
  go_enter Tryd.func39, Tryd.ntmps39
  go_wp2_with fail
  go_loopw [4, 5, 6, 7] (fun v j _ _ wr => ∃ (i : Nat) (p : Option Addr) (k : Nat), i ≤ ws.length ∧ j = .int .i64 i ∧ v = .slice p i k ∧ wr.ownsRow w.heap.size 25 32 v i ((idsT (ws.take i)).flatMap bytesV) ∧ (∀ x ∈ ws.take i, (idL x).isSome = true) ∧ (∀ x ∈ idsT (ws.take i), x.length = 32) ∧ Below w.heap.size w wr) (fun v j _ _ _ => ws.length - (intOf j).toNat)
  case atStart => exact ⟨0, none, 0, by omega, rfl, rfl, World.ownsRow_nil _ _ _ _, fun x hx => by simp at hx, fun x hx => by simp [idsT] at hx, Below.refl _ _⟩
  case round =>
    obtain ⟨i, p, k, hi, rfl, rfl, ho, hs, h32, hb⟩ := hrel
    have HO := Lib.hid ho
    have HSM := Lib.hid hs
    have H32 := Lib.hid h32
    have HB := Lib.hid hb
    clear ho hs h32 hb
    by_cases hlt : i < ws.length
    · have hd : decide ((i : Int) < (ws.length : Int)) = true := decide_eq_true (by omega)
      have hd2 : decide (i < ws.length) = true := decide_eq_true hlt
      obtain ⟨b, o, rfl⟩ := HWS.out.addr (by omega) (by omega)
      have hcx := cell_below (HWS.out.str hlt) HB.out
      have HTK : Hid (ws.take (i + 1) = ws.take i ++ [ws[i]]) := List.take_succ_eq_append_getElem hlt
      have HMEM : Hid (ws[i] ∈ ws) := List.getElem_mem hlt
      generalize ws[i] = x at *
      have HID := Lib.hid (rIdOf_any x wr (HLL.out x HMEM.out))
      go_wp2_with fail
      refine HID.out.mono ?_
      rintro y w6 ⟨hb6, hcase⟩
      have HO6 := Lib.hid (own_touch HO.out (Turns.of_below (S := fun _ => False) hb6) (fun _ _ h => h))
      have HB6 := Lib.hid (HB.out.trans (hb6.mono HB.out.size))
      clear hb6 HID hcx
      rcases hcase with ⟨z, M, hz, hzl, hM, rfl⟩ | ⟨hz, M, hM, rfl⟩
      · have hMs : M.size = 32 := by rw [← Array.length_toList, hM, bytesV_length, hzl]
        obtain ⟨_, hMo⟩ := row_id hM hzl
        have hb7 := box_below w6 Z32 M 25
        have HRW := Lib.hid (box_row w6 Z32 M 25)
        have HO7 := Lib.hid (own_touch HO6.out (Turns.of_below (S := fun _ => False) hb7) (fun _ _ h => h))
        have HB7 := Lib.hid (HB6.out.trans (hb7.mono HB6.out.size))
        have HMS := Lib.hid hMs
        have HMM := Lib.hid hM
        have HZ := Lib.hid hz
        have HZL := Lib.hid hzl
        have HMO := Lib.hid hMo
        clear hb7 HO6 HB6 hMs hMo hM hz hzl
        go_upto_region 8 with ((with_reducible refine wpStoreAt 6 ?_); refine wpList_store_row rfl 25 _ _ rfl w6.heap.size M rfl rfl 25 Z32 (box_new _ _ _) (infoId _ HMS.out) (by rw [HMS.out]; rfl) HMO.out ?_)
        generalize (w6.alloc (.cells Z32 25)).setRow w6.heap.size M = w7 at *
        have hal := Below.allocs w7 (.cells M 25)
        have HO8 := Lib.hid (own_touch HO7.out (Turns.of_below (S := fun _ => False) hal) (fun _ _ h => h))
        have HX8 := Lib.hid (made_id w7 z M 25 HMM.out HZL.out)
        have HB8 := Lib.hid (HB7.out.trans (hal.mono HB7.out.size))
        have HS8 := Lib.hid HB8.out.size
        clear hal HO7 HB7
        go_wp2_with (first
          | ((with_reducible refine wpAt 25 ?_); refine wpList_load_row rfl 25 _ rfl w6.heap.size rfl 25 M (0, 0) _ HRW.out Tryd.underlying25 rfl (infoId _ HMS.out) ?_)
          | refine wpList_buildOne rfl 26 25 _ rfl M rfl 32 Tryd.underlying26 (infoIdB M) (by omega) (by omega) HMS.out ?_
          | (at_builtin; refine wpList_append_nx rfl _ _ 26 rfl (base := w.heap.size) Tryd.underlying26 infoIds (by rw [show (Value.agg Z32).cells = Z32 from rfl]; exact Z32_size) (by omega) rfl HO8.out rfl HX8.out (bytesV_one _) ⟨by omega, by omega⟩ HS8.out ?_))
        intro p9 c9 w9 ho9 hgr hnx _
        have HB9 := Lib.hid (HB8.out.trans (own_below HO8.out hgr HS8.out))
        have HTT : Hid (idsT (ws.take (i + 1)) = idsT (ws.take i) ++ [z]) := by
          show _ = _
          rw [HTK.out]
          unfold idsT
          rw [List.map_append, List.map_cons, HZ.out]; rfl
        have HO9 : Hid (w9.ownsRow w.heap.size 25 32 (.slice p9 (i + 1) c9) (i + 1) ((idsT (ws.take (i + 1))).flatMap bytesV)) := by
          show World.ownsRow _ _ _ _ _ _ _
          rw [HTT.out, List.flatMap_append]
          simpa using ho9
        have HS9 : Hid (∀ y ∈ ws.take (i + 1), (idL y).isSome = true) := fun y hy => by
          rw [HTK.out, List.mem_append, List.mem_singleton] at hy
          rcases hy with hy | rfl
          · exact HSM.out y hy
          · rw [HZ.out]; rfl
        have H39 : Hid (∀ y ∈ idsT (ws.take (i + 1)), y.length = 32) := fun y hy => by
          rw [HTT.out, List.mem_append, List.mem_singleton] at hy
          rcases hy with hy | rfl
          · exact H32.out y hy
          · exact HZL.out
        clear ho9 hgr hnx HO8 HX8 HB8 HS8 HTT HRW HMS HMM
        go_wp2_with fail
        go_roundw
        case rel => exact ⟨i + 1, p9, c9, by omega, by go_num, rfl, HO9.out, HS9.out, H39.out, HB9.out⟩
        case measure => simp [intOf]; omega
      · have HBAD : Hid (idsB ws = none) := if_neg (fun h => by have := h x HMEM.out; rw [hz] at this; cases this)
        have hMs : M.size = 32 := by rw [← Array.length_toList, hM, bytesV_length]; rfl
        obtain ⟨_, hMo⟩ := row_id (x := zeros) hM rfl
        have hb7 := box_below w6 Z32 M 25
        have HB7 := Lib.hid (HB6.out.trans (hb7.mono HB6.out.size))
        have HMS := Lib.hid hMs
        have HMO := Lib.hid hMo
        clear hb7 hMs hMo hM hz
        go_upto_region 7 with ((with_reducible refine wpStoreAt 6 ?_); refine wpList_store_row rfl 25 _ _ rfl w6.heap.size M rfl rfl 25 Z32 (box_new _ _ _) (infoId _ HMS.out) (by rw [HMS.out]; rfl) HMO.out ?_)
        generalize (w6.alloc (.cells Z32 25)).setRow w6.heap.size M = w7 at *
        go_wp2_with fail
        go_ret2
        exact ⟨HB7.out, .inr ⟨HBAD.out, rfl⟩⟩
    · have hd : decide ((i : Int) < (ws.length : Int)) = false := decide_eq_false (by omega)
      have hd2 : decide (i < ws.length) = false := decide_eq_false hlt
      obtain rfl : i = ws.length := by omega
      have HE : Hid (IdsR ws w (.returned (.tuple #[.slice p ws.length k, .bool true])) wr) := by
        have h1 := HO.out
        have h2 := HSM.out
        have h3 := H32.out
        rw [List.take_length] at h1 h2 h3
        exact ids_end h1 h2 h3 HB.out
      go_wp2_with fail
      go_ret2
      exact HE.out
end Go.Proofs.YtcddgbobbogpgaaDoor.Scr

namespace Go.Proofs.YtcddgbobbogpgaaDoor.Scr
open Go.RowKit Go.Mir Go.Mir.Hx Go.Mir.Parts HexW Rpl

theorem infoEF : (Tryd.prog.info? 37).map (fun i => (i.zero, i.size, i.bytes)) = some (some (.agg zE), 103, 184) := by kernel_rfl
theorem infoEE : (Tryd.prog.info? 31).map (fun i => (i.zero, i.size, i.bytes)) = some (some (.agg zE), 103, 184) := by kernel_rfl
theorem er_take (l : List ER) (i : Nat) (h : i < l.length) : (l.take (i + 1)).flatMap ER.l = (l.take i).flatMap ER.l ++ (l[i]).l := by
  rw [List.take_succ_eq_append_getElem h, List.flatMap_append]
  simp
def PlainsP (l : List ER) (w : World) (x : Ending) (w' : World) : Prop := ∃ p c, x = .returned (.slice p l.length c) ∧ Es w' p l.length c l ∧ Below w.heap.size w w'
set_option maxRecDepth 100000 in
set_option maxHeartbeats 3200000 in
theorem plains_any (p : Option Addr) (n cc : Nat) (l : List ER) (w : World) (hE : Es w p n cc l) (hn : n ≤ 21001) :
    Calls Tryd.prog 15 #[.slice p n cc] w (PlainsP l w) := by
  have hz := zeroE
  have HE := Lib.hid hE
  obtain rfl : l.length = n := hE.count
  have hle := hE.sl.le
  have hmx := hE.sl.max
  clear hE
  go_enter Tryd.func15, Tryd.ntmps15
  go_wp2_with fail
  go_loopw [3, 5, 8] (fun v _ j wr => ∃ (i : Nat) (p9 : Option Addr) (c9 : Nat), i ≤ l.length ∧ j = .int .i64 i ∧ v = .slice p9 i c9 ∧ wr.ownsRow w.heap.size 37 103 v i ((l.take i).flatMap ER.l) ∧ Below w.heap.size w wr) (fun _ _ j _ => l.length - (intOf j).toNat)
  case atStart => exact ⟨0, none, 0, by omega, rfl, rfl, World.ownsRow_nil _ _ _ _, Below.refl _ _⟩
  case round =>
    obtain ⟨i, p9, c9, hi, rfl, rfl, ho, hb⟩ := hrel
    have HO := Lib.hid ho
    have HB := Lib.hid hb
    clear ho hb
    by_cases hlt : i < l.length
    · have hd1 : decide ((i : Int) < (l.length : Int)) = true := decide_eq_true (by omega)
      have hd2 : decide (i < l.length) = true := decide_eq_true hlt
      obtain ⟨bl, ol, rfl⟩ := HE.out.sl.addr (by omega) (by omega)
      have HRG := Lib.hid ((HE.out.below HB.out).range i hlt)
      have HAT := Lib.hid ((HE.out.below HB.out).each _ (List.getElem_mem hlt))
      have HTK := Lib.hid (er_take l i hlt)
      generalize l[i] = r at *
      have HAS : Hid (r.A.size = 103) := ER.size HAT.out
      have HAO := Lib.hid (ER.one r)
      have hbx := box_below wr zE r.A 31
      have HRX := Lib.hid (box_row wr zE r.A 31)
      have HB2 := Lib.hid (HB.out.trans (hbx.mono HB.out.size))
      have HO2 := Lib.hid (own_touch HO.out (Turns.of_below (S := fun _ => False) hbx) (fun _ _ h => h))
      have HPL := Lib.hid (fun y => plain_any (e := r.e) (pb := r.pb) (cb := r.cb) (q := r.q) (c := r.c) y HAT.out.wf)
      have hra : evA r.e r.pb r.cb r.q r.c = r.A := rfl
      rw [hra] at HPL
      clear hbx hra
      go_upto_region 5 with (first
        | ((with_reducible refine wpAt 11 ?_); refine loadM (by rfl) 31 _ rfl bl (ol + i * 103) rfl r.A _ HRG.out Tryd.underlying31 rfl (infoE _ HAS.out) ?_)
        | refine wpList_store_row rfl 31 _ _ rfl wr.heap.size r.A rfl rfl 31 zE (heap_alloc_last _ _) (infoE _ HAS.out) (by rw [HAS.out]; exact zE_size) HAO.out ?_)
      generalize (wr.alloc (.cells zE 31)).setRow wr.heap.size r.A = w5 at *
      generalize wr.heap.size = gx at *
      go_wp2_with (refine wpList_load_row rfl 31 _ rfl gx rfl 31 r.A (0, 0) _ HRX.out Tryd.underlying31 rfl (infoE _ HAS.out) ?_)
      refine (HPL.out _).mono ?_
      rintro x w6 ⟨rfl, hb6⟩
      have HB6 := Lib.hid (HB2.out.trans (hb6.mono HB2.out.size))
      have HO6 := Lib.hid (own_touch HO2.out (Turns.of_below (S := fun _ => False) hb6) (fun _ _ h => h))
      have hal := Below.allocs w6 (.cells r.A 37)
      have HO8 := Lib.hid (own_touch HO6.out (Turns.of_below (S := fun _ => False) hal) (fun _ _ h => h))
      have HX8 := Lib.hid (made_er w6 r 37 (ER.len HAT.out))
      have HB8 := Lib.hid (HB6.out.trans (hal.mono HB6.out.size))
      have HS8 := Lib.hid HB8.out.size
      clear hb6 hal HB2 HO2 HB6 HO6 HPL HRX HRG
      go_wp2_with (first
        | refine wpList_buildOne rfl 52 37 _ rfl r.A rfl 103 Tryd.underlying52 (by kernel_rfl) (by omega) (by omega) HAS.out ?_
        | (at_builtin; refine wpList_append_nx rfl _ _ 52 rfl (base := w.heap.size) Tryd.underlying52 infoEF (by rw [show (Value.agg zE).cells = zE from rfl]; exact zE_size) (by omega) rfl HO8.out rfl HX8.out (ER.ones r) ⟨by omega, by omega⟩ HS8.out ?_))
      intro p9 c9 w9 ho9 hgr hnx _
      have HB9 := Lib.hid (HB8.out.trans (own_below HO8.out hgr HS8.out))
      have HO9 : Hid (w9.ownsRow w.heap.size 37 103 (.slice p9 (i + 1) c9) (i + 1) ((l.take (i + 1)).flatMap ER.l)) := by
        show World.ownsRow _ _ _ _ _ _ _
        rw [HTK.out]
        exact ho9
      clear ho9 hgr hnx HO8 HX8 HB8 HS8
      go_wp2_with fail
      go_roundw
      case rel => exact ⟨i + 1, p9, c9, by omega, by go_num, rfl, HO9.out, HB9.out⟩
      case measure => simp [intOf]; omega
    · have hd1 : decide ((i : Int) < (l.length : Int)) = false := decide_eq_false (by omega)
      have hd2 : decide (i < l.length) = false := decide_eq_false hlt
      obtain rfl : i = l.length := by omega
      have HEND : Hid (PlainsP l w (.returned (.slice p9 l.length c9)) wr) := by
        have h1 := HO.out
        rw [List.take_length] at h1
        obtain ⟨p1, c1, he, hs⟩ := own_sl h1
        cases he
        exact ⟨p9, c9, rfl, ⟨hs, (HE.out.below HB.out).each, rfl⟩, HB.out⟩
      go_wp2_with fail
      go_ret
      exact HEND.out
theorem evs_ne {l m : List ER} (i : Nat) (h1 : i < l.length) (h2 : i < m.length) (h : ¬ (l[i]).e = (m[i]).e) : ¬ evs l = evs m := fun e => h (by
  have h3 : (evs l)[i]? = (evs m)[i]? := by rw [e]
  unfold evs at h3
  rw [List.getElem?_map, List.getElem?_map, List.getElem?_eq_getElem h1, List.getElem?_eq_getElem h2] at h3
  simpa using h3)
theorem evs_eq {l m : List ER} (hl : l.length = m.length) (h : ∀ j, j < l.length → (evs l)[j]? = (evs m)[j]?) : evs l = evs m := by
  apply List.ext_getElem?
  intro j
  rcases Nat.lt_or_ge j l.length with hj | hj
  · exact h j hj
  · rw [List.getElem?_eq_none (by simpa [evs] using hj), List.getElem?_eq_none (by rw [hl] at hj; simpa [evs] using hj)]
set_option maxRecDepth 100000 in
set_option maxHeartbeats 3200000 in
theorem all_any (p q : Option Addr) (n m cp cq : Nat) (l k : List ER) (w : World) (hP : Es w p n cp l) (hQ : Es w q m cq k) :
    Calls Tryd.prog 17 #[.slice p n cp, .slice q m cq] w fun x w' => x = .returned (.bool (decide (evs l = evs k))) ∧ Below w.heap.size w w' := by
  have HP := Lib.hid hP
  have HQ := Lib.hid hQ
  obtain rfl : l.length = n := hP.count
  obtain rfl : k.length = m := hQ.count
  have hle := hP.sl.le
  have hmx := hP.sl.max
  have hle2 := hQ.sl.le
  have hmx2 := hQ.sl.max
  clear hP hQ
  by_cases hlk : l.length = k.length
  rotate_left
  · have q1 : ((l.length : Int) != (k.length : Int)) = true := bne_iff_ne.2 (by omega)
    have q2 : (l.length != k.length) = true := bne_iff_ne.2 hlk
    have HD : Hid (decide (evs l = evs k) = false) := decide_eq_false (fun e => hlk (by have := congrArg List.length e; simpa [evs] using this))
    clear hlk
    go_enter Tryd.func17, Tryd.ntmps17
    go_wp2_with fail
    go_ret
    exact ⟨by rw [HD.out]; rfl, Below.refl _ _⟩
  have q1 : ((l.length : Int) != (k.length : Int)) = false := by rw [bne_eq_false_iff_eq]; omega
  have q2 : (l.length != k.length) = false := by rw [bne_eq_false_iff_eq]; exact hlk
  have HLK := Lib.hid hlk
  clear hlk
  go_enter Tryd.func17, Tryd.ntmps17
  go_wp2_with fail
  clear q1 q2
  go_loopw [5] (fun j wr => ∃ i : Nat, i ≤ l.length ∧ j = .int .i64 i ∧ (∀ j, j < i → (evs l)[j]? = (evs k)[j]?) ∧ Below w.heap.size w wr) (fun j _ => l.length - (intOf j).toNat)
  case atStart => exact ⟨0, by omega, rfl, (fun j hj => absurd hj (Nat.not_lt_zero _)), Below.refl _ _⟩
  case round =>
    obtain ⟨i, hi, rfl, hall, hb⟩ := hrel
    have HA := Lib.hid hall
    have HB := Lib.hid hb
    clear hall hb
    by_cases hlt : i < l.length
    · have hd1 : decide ((i : Int) < (l.length : Int)) = true := decide_eq_true (by omega)
      have hd2 : decide (i < l.length) = true := decide_eq_true hlt
      have hlt2 : i < k.length := by have := HLK.out; omega
      have hi1 : (i : Int) < (l.length : Int) := by omega
      have hi2 : (i : Int) < (k.length : Int) := by omega
      obtain ⟨bl, ol, rfl⟩ := HP.out.sl.addr (by omega) (by omega)
      obtain ⟨bk, ok, rfl⟩ := HQ.out.sl.addr (by omega) (by omega)
      have HR1 := Lib.hid ((HP.out.below HB.out).range i hlt)
      have HR2 := Lib.hid ((HQ.out.below HB.out).range i hlt2)
      have HT1 := Lib.hid ((HP.out.below HB.out).each _ (List.getElem_mem hlt))
      have HT2 := Lib.hid ((HQ.out.below HB.out).each _ (List.getElem_mem hlt2))
      have HNE := Lib.hid (fun h => evs_ne i hlt hlt2 h)
      have HEQ : Hid ((l[i]).e = (k[i]).e → (evs l)[i]? = (evs k)[i]?) := fun h => by
        unfold evs
        rw [List.getElem?_map, List.getElem?_map, List.getElem?_eq_getElem hlt, List.getElem?_eq_getElem hlt2]
        simpa using h
      generalize l[i] = r at *
      generalize k[i] = s at *
      have HAS : Hid (r.A.size = 103) := ER.size HT1.out
      have HAZ : Hid (s.A.size = 103) := ER.size HT2.out
      have HG1 : Hid (∀ w', Below wr.heap.size wr w' → w'.rangeAt bl (ol + i * 103) r.A.toList) := fun w' hb => range_below HR1.out hb
      have HG2 : Hid (∀ w', Below wr.heap.size wr w' → w'.rangeAt bk (ok + i * 103) s.A.toList) := fun w' hb => range_below HR2.out hb
      have HSM := Lib.hid (fun (y : World) (hy : Below wr.heap.size wr y) => rsame_any y (HT1.out.below hy) (HT2.out.below hy))
      have hra : evA r.e r.pb r.cb r.q r.c = r.A := rfl
      have hsa : evA s.e s.pb s.cb s.q s.c = s.A := rfl
      rw [hra, hsa] at HSM
      clear hra hsa
      go_upto_region 6 with fail
      refine wp_region_eager [(0, true), (1, true), (2, true), (3, true), (4, true), (5, true), (6, true), (7, true), (8, false), (9, true)] (by kernel_rfl) (by kernel_rfl) (eagerOpen rfl ?_)
      have hy0 : Below wr.heap.size wr wr.drew := below_drew1 _ _
      repeat (first
        | ((with_reducible refine eagerLoadAt 19 ?_); refine wpEager_load (by rfl) 37 _ rfl bl (ol + i * 103) rfl r.A _ (fun w' hb => HG1.out w' hb) Tryd.underlying37 rfl (infoF _ HAS.out) ?_; (try simp only [Act.put, List.setIfInBounds_toArray, List.set_cons_zero, List.set_cons_succ]); (try refine eagerOpen rfl ?_))
        | ((with_reducible refine eagerLoadAt 23 ?_); refine wpEager_load (by rfl) 37 _ rfl bk (ok + i * 103) rfl s.A _ (fun w' hb => HG2.out w' hb) Tryd.underlying37 rfl (infoF _ HAZ.out) ?_; (try simp only [Act.put, List.setIfInBounds_toArray, List.set_cons_zero, List.set_cons_succ]); (try refine eagerOpen rfl ?_))
        | (first | (apply wpEager_take; (· rfl); (· (intro w' hb'; go_simp; try with_reducible rfl)); (try simp only [Act.put, List.setIfInBounds_toArray, List.set_cons_zero, List.set_cons_succ]); (try refine eagerOpen rfl ?_)) | (refine wpEager_skip (by rfl) ?_; (try simp only [Act.put, List.setIfInBounds_toArray, List.set_cons_zero, List.set_cons_succ]); (try refine eagerOpen rfl ?_)) | (refine wpEager_off (by rfl) ?_; (try simp only [Act.put, List.setIfInBounds_toArray, List.set_cons_zero, List.set_cons_succ]); (try refine eagerOpen rfl ?_))))
      (refine wpEager_op (by rfl) (fun K hK => ?_); go_simp; (refine (HSM.out _ hy0).mono ?_; rintro x y1 ⟨rfl, hb⟩; have hy1 := hy0.trans hb; clear hb); refine Shut.out hK _ _ (by assumption) ?_; clear hK K; (try simp only [Act.put, List.setIfInBounds_toArray, List.set_cons_zero, List.set_cons_succ]); (try refine eagerOpen rfl ?_))
      repeat (first | (apply wpEager_take; (· rfl); (· (intro w' hb'; go_simp; try with_reducible rfl)); (try simp only [Act.put, List.setIfInBounds_toArray, List.set_cons_zero, List.set_cons_succ]); (try refine eagerOpen rfl ?_)) | (refine wpEager_skip (by rfl) ?_; (try simp only [Act.put, List.setIfInBounds_toArray, List.set_cons_zero, List.set_cons_succ]); (try refine eagerOpen rfl ?_)) | (refine wpEager_off (by rfl) ?_; (try simp only [Act.put, List.setIfInBounds_toArray, List.set_cons_zero, List.set_cons_succ]); (try refine eagerOpen rfl ?_)))
      refine eagerEnd ?_
      have HB5 := Lib.hid (HB.out.trans (hy1.mono HB.out.size))
      clear hy0 hy1 HSM HG1 HG2 HR1 HR2
      by_cases he : r.e = s.e
      · have HQE := Lib.hid (HEQ.out he)
        rw [decide_eq_true he]
        clear he
        go_wp2_with fail
        go_roundw
        case rel => exact ⟨i + 1, by omega, by go_num, (fun j hj => by
          by_cases h : j = i
          · rw [h]; exact HQE.out
          · exact HA.out j (by omega)), HB5.out⟩
        case measure => simp [intOf]; omega
      · have HD : Hid (decide (evs l = evs k) = false) := decide_eq_false (HNE.out he)
        rw [decide_eq_false he]
        clear he
        go_wp2_with fail
        go_ret
        exact ⟨by rw [HD.out]; rfl, HB5.out⟩
    · have hd1 : decide ((i : Int) < (l.length : Int)) = false := decide_eq_false (by omega)
      have hd2 : decide (i < l.length) = false := decide_eq_false hlt
      have HD : Hid (decide (evs l = evs k) = true) := decide_eq_true (evs_eq HLK.out (fun j hj => HA.out j (by omega)))
      go_wp2_with fail
      go_ret
      exact ⟨by rw [HD.out]; rfl, HB.out⟩
end Go.Proofs.YtcddgbobbogpgaaDoor.Scr

namespace Go.Proofs.YtcddgbobbogpgaaDoor.Scr
open Go.RowKit Go.Mir Go.Mir.Hx Go.Mir.Parts HexW Rpl
open Go.Lib (join joinTail)

theorem words_short2 {e : Ev} (hg : Good e) (hw : e.Wf) : ∀ x ∈ wordsE e, x.length ≤ 2 * e.b.length + 64 := fun x hx => by
  rcases List.mem_cons.1 hx with rfl | hx
  · have := k6_short e.k.toNat; omega
  · unfold restE at hx
    split at hx
    · rw [List.mem_singleton] at hx; rw [hx]; have := textT_len e.b; omega
    · split at hx
      · rcases List.mem_cons.1 hx with rfl | hx
        · have := idT_len _ hw.h; omega
        · rcases List.mem_cons.1 hx with rfl | hx
          · have := idT_len _ hw.p; omega
          · obtain ⟨y, hy, rfl⟩ := List.mem_map.1 hx
            have := idT_len _ (hw.tx y hy); omega
      · split at hx
        · rename_i h56
          obtain ⟨y, hy, rfl⟩ := List.mem_map.1 hx
          have h1 := hg.2.2 h56 y hy
          unfold okN at h1
          have := dec_len y.toNat (by omega); omega
        · rw [List.mem_singleton] at hx; rw [hx]; have := idT_len _ hw.id; omega
theorem lineE_short {e : Ev} (hw : e.Wf) (hb : e.b.length ≤ 3000) (ht : e.tx.length ≤ 60) : (lineE e).length ≤ 900000 := by
  by_cases hg : Good e
  · rw [(line_good hg).1]
    refine Nat.le_trans (join_le _ (2 * e.b.length + 64) (words_short2 hg hw)) ?_
    have h1 : (wordsE e).length ≤ 65 := by
      have := rest_len e
      unfold wordsE
      rw [List.length_cons]
      omega
    exact Nat.le_trans (Nat.mul_le_mul h1 (show 2 * e.b.length + 64 + 1 ≤ 6065 by omega)) (by decide)
  · rw [(line_bad hg).1]; exact Nat.zero_le _
theorem tail_ge : ∀ r : List (List UInt8), r.length ≤ ((r.map (fun x => [32] ++ x)).flatten).length ∧ ∀ x ∈ r, x.length ≤ ((r.map (fun x => [32] ++ x)).flatten).length
  | [] => ⟨Nat.le_refl _, fun x hx => nomatch hx⟩
  | y :: r => by
    obtain ⟨h1, h2⟩ := tail_ge r
    simp only [List.map_cons, List.flatten_cons, List.length_append, List.length_cons, List.length_nil] at *
    refine ⟨by omega, fun x hx => ?_⟩
    rcases List.mem_cons.1 hx with rfl | hx
    · omega
    · have := h2 x hx; omega
theorem join_ge (a : List UInt8) (r : List (List UInt8)) : r.length ≤ (join (a :: r) [32]).length ∧ ∀ x ∈ r, x.length ≤ (join (a :: r) [32]).length := by
  obtain ⟨h1, h2⟩ := tail_ge r
  rw [Go.Lib.join_cons, List.length_append]
  unfold joinTail
  exact ⟨by omega, fun x hx => by have := h2 x hx; omega⟩
theorem text_ge (b : List UInt8) : b.length ≤ (textL b).length := by
  unfold textL
  split
  · rename_i h; rw [h]; exact Nat.zero_le _
  · rw [pairsL_length]; omega
theorem lineE_ge {e : Ev} (hg : Good e) : e.b.length ≤ (lineE e).length ∧ e.tx.length ≤ (lineE e).length := by
  rw [(line_good hg).1]
  obtain ⟨h1, h2⟩ := join_ge (K6.getD e.k.toNat []) (restE e)
  have hw : wordsE e = K6.getD e.k.toNat [] :: restE e := rfl
  rw [hw]
  by_cases k1 : e.k = 1
  · have hr : restE e = [textL e.b] := by unfold restE; rw [if_pos k1]
    have ht : e.tx = [] := by rw [hg.2.1]; unfold only; rw [if_pos k1]
    refine ⟨Nat.le_trans (text_ge e.b) (h2 _ (by rw [hr]; simp)), by rw [ht]; exact Nat.zero_le _⟩
  · by_cases k2 : e.k = 2
    · have hr : restE e = idText e.h :: idText e.p :: e.tx.map idText := by unfold restE; rw [if_neg k1, if_pos k2]
      have hb : e.b = [] := by rw [hg.2.1]; unfold only; rw [if_neg k1, if_pos k2]
      refine ⟨by rw [hb]; exact Nat.zero_le _, Nat.le_trans ?_ h1⟩
      rw [hr]; simp only [List.length_cons, List.length_map]; omega
    · have hb : e.b = [] ∧ e.tx = [] := by
        rw [hg.2.1]; unfold only; rw [if_neg k1, if_neg k2]
        split
        · exact ⟨rfl, rfl⟩
        · split
          · exact ⟨rfl, rfl⟩
          · exact ⟨rfl, rfl⟩
      rw [hb.1, hb.2]
      exact ⟨Nat.zero_le _, Nat.zero_le _⟩
theorem lineE_le {e : Ev} (hw : e.Wf) (hb : e.b.length ≤ 21000) (ht : e.tx.length ≤ 21000) : (lineE e).length ≤ 900000000 := by
  by_cases hg : Good e
  · rw [(line_good hg).1]
    refine Nat.le_trans (join_le _ (2 * e.b.length + 64) (words_short2 hg hw)) ?_
    have h1 : (wordsE e).length ≤ 21005 := by
      have := rest_len e
      unfold wordsE
      rw [List.length_cons]
      omega
    exact Nat.le_trans (Nat.mul_le_mul h1 (show 2 * e.b.length + 64 + 1 ≤ 42065 by omega)) (by decide)
  · rw [(line_bad hg).1]; exact Nat.zero_le _
end Go.Proofs.YtcddgbobbogpgaaDoor.Scr

namespace Go.Proofs.YtcddgbobbogpgaaDoor.Scr
open Go.RowKit Go.Mir Go.Mir.Hx Go.Mir.Parts HexW Rpl
open Go.Lib (join joinTail)

def cfA (c : Cf) : Array Value := #[.int .i64 c.d, .int .i64 c.s, .int .i64 c.k, .int .i64 c.e, .int .i64 c.a, .int .i64 c.o]
theorem infoCf (n : Nat) (h : n = 6) : (Tryd.prog.info? 46).map (·.size) = some n := by subst h; kernel_rfl
theorem zeroCf (w : World) : (zeroValue 46).run Tryd.prog w = .ok (.agg (cfA Cf.zero)) w := by kernel_rfl
/-- events that a script may hold -/
def Fit (l : List ER) : Prop := l.length ≤ 21001 ∧ ∀ r ∈ l, r.e.b.length ≤ 21000 ∧ r.e.tx.length ≤ 21000
theorem flat_snoc (ls : List (List UInt8)) (x : List UInt8) : flatT (ls ++ [x]) = flatT ls ++ (x ++ [10]) := by simp [flatT]
theorem flat_le (m : Nat) : ∀ ls : List (List UInt8), (∀ x ∈ ls, x.length ≤ m) → (flatT ls).length ≤ ls.length * (m + 1)
  | [], _ => by simp [flatT]
  | x :: r, h => by
    have ih := flat_le m r (fun y hy => h y (List.mem_cons_of_mem _ hy))
    have hx := h x (by simp)
    have h1 : flatT (x :: r) = (x ++ [10]) ++ flatT r := by simp [flatT]
    have h2 : (x :: r).length * (m + 1) = r.length * (m + 1) + (m + 1) := by rw [List.length_cons, Nat.add_mul, Nat.one_mul]
    have h3 : (x ++ [10]).length = x.length + 1 := by simp
    rw [h1, List.length_append, h2, h3]
    omega
def PrintP (c : Cf) (l : List Ev) (w : World) (x : Ending) (w' : World) : Prop := x = .returned (.tuple #[.string (S (printB c l).1), .int .i64 (printB c l).2]) ∧ Below w.heap.size w w'
theorem print_nc {c : Cf} {l : List Ev} (h : ¬ ∀ x ∈ c.l, okC x) : printB c l = ([], 1) := if_neg h
theorem print_nl {c : Cf} {l : List Ev} (h : ¬ ∀ e ∈ l, Good e) : printB c l = ([], 1) := by
  unfold printB
  rw [if_neg h]
  split <;> rfl
theorem print_long {c : Cf} {l : List Ev} (hc : ∀ x ∈ c.l, okC x) (hl : ∀ e ∈ l, Good e) (h : 20000 < (textB c l).length) : printB c l = ([], 3) := by
  unfold printB
  rw [if_pos hc, if_pos hl, if_neg (by omega)]
theorem print_ok {c : Cf} {l : List Ev} (hc : ∀ x ∈ c.l, okC x) (hl : ∀ e ∈ l, Good e) (h : ¬ 20000 < (textB c l).length) : printB c l = (textB c l, 0) := by
  unfold printB
  rw [if_pos hc, if_pos hl, if_pos (by omega)]
theorem evs_take (l : List ER) (i : Nat) (h : i < l.length) : (evs l).take (i + 1) = (evs l).take i ++ [(l[i]).e] := by
  have h2 : i < (evs l).length := by simpa [evs] using h
  rw [List.take_succ_eq_append_getElem h2]
  congr 1
  simp [evs]
set_option maxRecDepth 100000 in
set_option maxHeartbeats 3200000 in
theorem print_any (c : Cf) (p : Option Addr) (n cc : Nat) (l : List ER) (w : World) (hE : Es w p n cc l) (hf : Fit l) (_hc : ∀ x ∈ c.l, i64B x) :
    Calls Tryd.prog 13 #[.agg (cfA c), .slice p n cc] w (PrintP c (evs l) w) := by
  have hz := zeroB
  have hzE := zeroE
  have HE := Lib.hid hE
  have HF := Lib.hid hf
  obtain rfl : l.length = n := hE.count
  have hle := hE.sl.le
  have hmx := hE.sl.max
  have hal := Below.allocs w (.cells (cfA c) 46)
  have hrow := heap_alloc_last w (.cells (cfA c) 46)
  have HB1 := Lib.hid hal
  have hd : (w.alloc (.cells (cfA c) 46)).cell? ⟨w.heap.size, 0, none⟩ = some (.int .i64 c.d) := by rw [cell_of_row _ _ _ _ _ _ hrow]; rfl
  have hs : (w.alloc (.cells (cfA c) 46)).cell? ⟨w.heap.size, 1, none⟩ = some (.int .i64 c.s) := by rw [cell_of_row _ _ _ _ _ _ hrow]; rfl
  have hk : (w.alloc (.cells (cfA c) 46)).cell? ⟨w.heap.size, 2, none⟩ = some (.int .i64 c.k) := by rw [cell_of_row _ _ _ _ _ _ hrow]; rfl
  have he : (w.alloc (.cells (cfA c) 46)).cell? ⟨w.heap.size, 3, none⟩ = some (.int .i64 c.e) := by rw [cell_of_row _ _ _ _ _ _ hrow]; rfl
  have ha : (w.alloc (.cells (cfA c) 46)).cell? ⟨w.heap.size, 4, none⟩ = some (.int .i64 c.a) := by rw [cell_of_row _ _ _ _ _ _ hrow]; rfl
  have ho : (w.alloc (.cells (cfA c) 46)).cell? ⟨w.heap.size, 5, none⟩ = some (.int .i64 c.o) := by rw [cell_of_row _ _ _ _ _ _ hrow]; rfl
  have HAX := Lib.hid hal
  clear hE hf hal hrow
  go_enter Tryd.func13, Tryd.ntmps13
  go_upto_region 1 with fail
  generalize w.alloc (.cells (cfA c) 46) = w1 at *
  have hal := Below.allocs w1 (.cells #[.int .i64 c.d, .int .i64 c.s, .int .i64 c.k, .int .i64 c.e, .int .i64 c.a, .int .i64 c.o] 3)
  have HNM := Lib.hid (nums_any 100000 (by omega) _ 6 6 [c.d, c.s, c.k, c.e, c.a, c.o] _ (Zs.lit w1 3 [c.d, c.s, c.k, c.e, c.a, c.o] (show 6 ≤ 65536 by decide)) (by omega))
  have HB2 := Lib.hid (HB1.out.trans (hal.mono HB1.out.size))
  clear hal HB1 HAX
  go_wp2_with fail
  refine HNM.out.mono ?_
  rintro x w3 ⟨hb3, hcase⟩
  have HB3 := Lib.hid (HB2.out.trans (hb3.mono HB2.out.size))
  clear hb3 HNM HB2 hd hs hk he ha ho
  rcases hcase with ⟨hok, pl, cl, rfl, hown⟩ | ⟨hok, rfl⟩
  rotate_left
  · have HP : Hid (printB c (evs l) = ([], 1)) := print_nc hok
    clear hok
    go_wp2_with fail
    go_ret2
    unfold PrintP
    rw [HP.out]
    exact ⟨rfl, HB3.out⟩
  have HOK : Hid (∀ x ∈ c.l, okC x) := hok
  have HWN := Lib.hid (own_ws hown)
  clear hok hown
  go_upto_region 5 with fail
  have hal := Below.allocs w3 (.cells #[.pointer none, .slice none 0 0] 95)
  have HBB := Lib.hid (bb_new w3)
  have HB4 := Lib.hid (HB3.out.trans (hal.mono HB3.out.size))
  have HW4 := Lib.hid (HWN.out.below hal)
  have HS3 : Hid (w.heap.size ≤ w3.heap.size) := HB3.out.size
  have HLT : Hid (w3.heap.size ≤ (w3.alloc (.cells #[.pointer none, .slice none 0 0] 95)).heap.size) := hal.size
  clear hal HB3 HWN
  generalize w3.alloc (.cells #[.pointer none, .slice none 0 0] 95) = w4 at *
  generalize w3.heap.size = b at *
  have hal := Below.allocs w4 (.cells #[.string (S confW)] 9)
  have HO5 := Lib.hid (own_str w4 w4.heap.size confW (Nat.le_refl _))
  have HW5 := Lib.hid (HW4.out.below hal)
  have HB5 := Lib.hid (HB4.out.trans (hal.mono HB4.out.size))
  have HBB5 := Lib.hid (HBB.out.below hal)
  have HSZ : Hid (w4.heap.size ≤ (w4.alloc (.cells #[.string (S confW)] 9)).heap.size) := hal.size
  have HAL := Lib.hid hal
  clear hal HW4
  go_wp2_with (at_builtin; refine wpList_append_nx rfl _ _ 65 rfl (base := w4.heap.size) Tryd.underlying65 infoStr rfl (by omega) rfl HO5.out rfl HW5.out (strV_one _) ⟨by omega, by omega⟩ HSZ.out ?_)
  intro p' c' w8 ho8 hgr hnx _
  have hb8 := own_below HO5.out hgr HSZ.out
  have HB8 := Lib.hid (HB5.out.trans (hb8.mono HB4.out.size))
  have HBB8 := Lib.hid (HBB.out.below (HAL.out.trans hb8))
  have HWS : Hid (Ws w8 p' (1 + 6) c' (confW :: c.l.map (fun x => decL x.toNat))) := by
    have := own_ws (ls := [confW] ++ decs [c.d, c.s, c.k, c.e, c.a, c.o]) (by rw [strV_app]; exact ho8)
    exact this
  have HLT8 := Lib.hid ho8.lt
  have HB48 := Lib.hid (HAL.out.trans hb8)
  clear ho8 hgr hnx hb8 HO5 HW5 HB5 HBB5 HSZ HAL HBB
  have hle8 := HWS.out.le
  have hmx8 := HWS.out.max
  have hjl : (headL c).length ≤ 7 * 21 := by
    refine Nat.le_trans (join_le _ 20 ?_) (Nat.le_refl _)
    intro x hx
    rcases List.mem_cons.1 hx with rfl | hx
    · decide
    · obtain ⟨y, hy, rfl⟩ := List.mem_map.1 hx
      have := HOK.out y hy
      unfold okC at this
      exact dec_len _ (by omega)
  obtain ⟨b8, o8, rfl⟩ := HWS.out.addr (by omega) (by omega)
  have HJ := Lib.hid (join_any b8 o8 (1 + 6) c' _ w8 HWS.out (HLT8.out _ rfl).2 (by omega) (by show (headL c).length ≤ _; omega))
  have HJL : Hid ((headL c).length ≤ 147) := hjl
  have hx1 : ¬ (9223372036854775807 < (headL c).length + 1) := by omega
  have hjj : join (confW :: c.l.map (fun x => decL x.toNat)) [32] = headL c := rfl
  rw [hjj] at HJ
  clear hjl hjj hle8 hmx8
  have HTX : Hid (textB c (evs l) = flatT (headL c :: (evs l).map lineE)) := rfl
  generalize headL c = hd at *
  go_wp2_with fail
  refine HJ.out.mono ?_
  rintro x w9 ⟨rfl, hb9⟩
  have HB9 := Lib.hid (HB8.out.trans (hb9.mono HB8.out.size))
  have HBB9 := Lib.hid (HBB8.out.below hb9)
  have HB49 := Lib.hid (HB48.out.trans (hb9.mono HB48.out.size))
  clear hb9 HJ HB8 HBB8 HB48 HWS HLT8
  have hst : Hid (S hd ++ (⟨#[10]⟩ : ByteArray) = S (hd ++ [10])) := by
    show _ = _
    exact ByteArray.mk_append_mk hd [10]
  have HBW := Lib.hid (bwrite_any b b [] (hd ++ [10]) w9 HBB9.out (by have := HJL.out; rw [List.length_append]; simp only [List.length_nil, List.length_cons]; omega) (Nat.le_trans HLT.out HB49.out.size))
  rw [← hst.out] at HBW
  go_wp2_with fail
  refine HBW.out.mono ?_
  rintro x w10 ⟨rfl, hbb, hb10⟩
  have HBB10 := Lib.hid hbb
  have HB10 := Lib.hid (HB9.out.trans (hb10.mono HS3.out))
  have HBL : Hid (b < w10.heap.size) := by
    rcases hbb with h | h
    · exact h.lt
    · exact h.lt
  clear hbb hb10 HBW HBB9 HB49 HB9 hst hx1
  have HFL : Hid (∀ i, i ≤ l.length → (hd ++ [10] ++ flatT (((evs l).take i).map lineE)).length ≤ 148 + 21001 * 900000001) := fun i hi => by
    have h1 := HJL.out
    have h2 := flat_le 900000000 (((evs l).take i).map lineE) (fun x hx => by
      obtain ⟨e, he, rfl⟩ := List.mem_map.1 hx
      obtain ⟨r, hr, rfl⟩ := List.mem_map.1 (List.mem_of_mem_take he)
      exact lineE_le (HE.out.each r hr).wf (HF.out.2 r hr).1 (HF.out.2 r hr).2)
    have h3 : (((evs l).take i).map lineE).length ≤ 21001 := by
      have := HF.out.1
      rw [List.length_map, List.length_take]
      simp only [evs, List.length_map]
      omega
    have h4 : (((evs l).take i).map lineE).length * (900000000 + 1) ≤ 21001 * 900000001 := Nat.mul_le_mul_right _ h3
    rw [List.length_append, List.length_append]
    simp only [List.length_cons, List.length_nil]
    omega
  have HF0 : Hid (hd ++ [10] = hd ++ [10] ++ flatT (((evs l).take 0).map lineE)) := by show _ = _; simp [flatT]
  have HFS : Hid (∀ i (h : i < l.length), hd ++ [10] ++ flatT (((evs l).take (i + 1)).map lineE) = hd ++ [10] ++ flatT (((evs l).take i).map lineE) ++ (lineE (l[i]).e ++ [10])) := fun i h => by
    rw [evs_take l i h, List.map_append, List.map_cons, List.map_nil, flat_snoc, ← List.append_assoc]
  have HTT : Hid (textB c (evs l) = hd ++ [10] ++ flatT (((evs l).take l.length).map lineE)) := by
    show _ = _
    rw [HTX.out, List.take_of_length_le (by simp [evs])]
    simp [flatT]
  have hbb := HBB10.out
  rw [List.nil_append, HF0.out] at hbb
  have HBX := Lib.hid hbb
  clear hbb HBB10 HF0 HTX
  go_wp2_with fail
  go_loopw [10, 11, 12, 40] (fun _ _ _ j wr => ∃ i : Nat, i ≤ l.length ∧ j = .int .i64 i ∧ BB b b (hd ++ [10] ++ flatT (((evs l).take i).map lineE)) wr ∧ (∀ e ∈ (evs l).take i, Good e) ∧ Below w.heap.size w wr ∧ b < wr.heap.size) (fun _ _ _ j _ => l.length - (intOf j).toNat)
  case atStart => exact ⟨0, by omega, rfl, HBX.out, (fun e he => by simp at he), HB10.out, HBL.out⟩
  case round =>
    obtain ⟨i, hi, rfl, hbb, hgd, hbr, hbl⟩ := hrel
    have HBB := Lib.hid hbb
    have HGP := Lib.hid hgd
    have HBR := Lib.hid hbr
    have HBLT := Lib.hid hbl
    clear hbb hgd hbr hbl
    by_cases hlt : i < l.length
    · have hd1 : decide ((i : Int) < (l.length : Int)) = true := decide_eq_true (by omega)
      have hd2 : decide (i < l.length) = true := decide_eq_true hlt
      obtain ⟨bl, ol, rfl⟩ := HE.out.sl.addr (by omega) (by omega)
      have HRG := Lib.hid ((HE.out.below HBR.out).range i hlt)
      have HAT := Lib.hid ((HE.out.below HBR.out).each _ (List.getElem_mem hlt))
      have HFT := Lib.hid (HF.out.2 _ (List.getElem_mem hlt))
      have HST := Lib.hid (HFS.out i hlt)
      have HLL := Lib.hid (HFL.out i hi)
      have HTK := Lib.hid (evs_take l i hlt)
      have HMEM : Hid ((l[i]).e ∈ evs l) := List.mem_map_of_mem (List.getElem_mem hlt)
      generalize l[i] = r at *
      have HAS : Hid (r.A.size = 103) := ER.size HAT.out
      have HAO := Lib.hid (ER.one r)
      have hbx := box_below wr zE r.A 31
      have hrx := box_row wr zE r.A 31
      have HRX := Lib.hid hrx
      have HB2 := Lib.hid (HBR.out.trans (hbx.mono HBR.out.size))
      have HBB2 := Lib.hid (HBB.out.below hbx)
      have HBL2 : Hid (b < ((wr.alloc (.cells zE 31)).setRow wr.heap.size r.A).heap.size) := Nat.lt_of_lt_of_le HBLT.out hbx.size
      have HLN := Lib.hid (line_any r.e r.pb r.cb r.q r.c _ (HAT.out.below hbx) (by have := HFT.out.1; omega) (by have := HFT.out.2; omega))
      have hra : evA r.e r.pb r.cb r.q r.c = r.A := rfl
      rw [hra] at HLN
      clear hbx hrx hra
      go_upto_region 9 with (first
        | ((with_reducible refine wpAt 43 ?_); refine loadM (by rfl) 31 _ rfl bl (ol + i * 103) rfl r.A _ HRG.out Tryd.underlying31 rfl (infoE _ HAS.out) ?_)
        | refine wpList_store_row rfl 31 _ _ rfl wr.heap.size r.A rfl rfl 31 zE (heap_alloc_last _ _) (infoE _ HAS.out) (by rw [HAS.out]; exact zE_size) HAO.out ?_)
      generalize (wr.alloc (.cells zE 31)).setRow wr.heap.size r.A = w5 at *
      generalize wr.heap.size = gx at *
      go_wp2_with (refine wpList_load_row rfl 31 _ rfl gx rfl 31 r.A (0, 0) _ HRX.out Tryd.underlying31 rfl (infoE _ HAS.out) ?_)
      refine HLN.out.mono ?_
      rintro x w6 ⟨rfl, hb6⟩
      have HB6 := Lib.hid (HB2.out.trans (hb6.mono HB2.out.size))
      have HBB6 := Lib.hid (HBB2.out.below hb6)
      have HBL6 : Hid (b < w6.heap.size) := Nat.lt_of_lt_of_le HBL2.out hb6.size
      clear hb6 HLN HB2 HBB2 HBL2 HRX HRG
      by_cases hg : Good r.e
      rotate_left
      · have HP : Hid (printB c (evs l) = ([], 1)) := print_nl (fun h => hg (h _ HMEM.out))
        rw [decide_eq_false hg]
        clear hg
        go_wp2_with fail
        go_ret2
        unfold PrintP
        rw [HP.out]
        exact ⟨rfl, HB6.out⟩
      rw [decide_eq_true hg]
      have HG := Lib.hid hg
      have hle2 := lineE_le HAT.out.wf HFT.out.1 HFT.out.2
      clear hg
      generalize lineE r.e = le at *
      generalize hd ++ [10] ++ flatT (((evs l).take i).map lineE) = acc at *
      have hx1 : ¬ (9223372036854775807 < le.length + 1) := by omega
      have hst : Hid (S le ++ (⟨#[10]⟩ : ByteArray) = S (le ++ [10])) := by
        show _ = _
        exact ByteArray.mk_append_mk le [10]
      have HBW := Lib.hid (bwrite_any b b acc (le ++ [10]) w6 HBB6.out (by have := HLL.out; rw [List.length_append]; simp only [List.length_nil, List.length_cons]; omega) (Nat.le_of_lt HBL6.out))
      rw [← hst.out, ← HST.out] at HBW
      clear hle2
      go_wp2_with fail
      refine HBW.out.mono ?_
      rintro x w10 ⟨rfl, hbb, hb10⟩
      have HBB10 := Lib.hid hbb
      have HB10 := Lib.hid (HB6.out.trans (hb10.mono HS3.out))
      have HBL10 : Hid (b < w10.heap.size) := Nat.lt_of_lt_of_le HBL6.out hb10.size
      clear hbb hb10 HBW HBB6 HB6 hst hx1
      go_wp2_with fail
      go_roundw
      case rel => exact ⟨i + 1, by omega, by go_num, HBB10.out, (fun e he => by
        rw [HTK.out, List.mem_append, List.mem_singleton] at he
        rcases he with he | rfl
        · exact HGP.out e he
        · exact HG.out), HB10.out, HBL10.out⟩
      case measure => simp [intOf]; omega
    · have hd1 : decide ((i : Int) < (l.length : Int)) = false := decide_eq_false (by omega)
      have hd2 : decide (i < l.length) = false := decide_eq_false hlt
      obtain rfl : i = l.length := by omega
      have HGA : Hid (∀ e ∈ evs l, Good e) := fun e he => HGP.out e (by rw [List.take_of_length_le (by simp [evs])]; exact he)
      have hbb := HBB.out
      rw [← HTT.out] at hbb
      have HLEN := Lib.hid (blen_any b b _ wr hbb)
      have HSTR := Lib.hid (bstr_any b b _ wr hbb (Nat.le_of_lt HBLT.out))
      clear hbb HBB HTT HFS HFL
      obtain ⟨T, hT⟩ : ∃ T, textB c (evs l) = T := ⟨_, rfl⟩
      have HT := Lib.hid hT
      rw [hT] at HLEN HSTR
      clear hT
      by_cases hlo : 20000 < T.length
      · have e1 : decide ((20000 : Int) < (T.length : Int)) = true := decide_eq_true (by omega)
        have e2 : decide (20000 < T.length) = true := decide_eq_true hlo
        have HP : Hid (printB c (evs l) = ([], 3)) := print_long HOK.out HGA.out (by rw [HT.out]; exact hlo)
        clear hlo
        go_wp2_with fail
        refine HLEN.out.mono ?_
        rintro x w6 ⟨rfl, rfl⟩
        go_wp2_with fail
        go_ret2
        unfold PrintP
        rw [HP.out]
        exact ⟨rfl, HBR.out⟩
      · have e1 : decide ((20000 : Int) < (T.length : Int)) = false := decide_eq_false (by omega)
        have e2 : decide (20000 < T.length) = false := decide_eq_false hlo
        have HP : Hid (printB c (evs l) = (T, 0)) := by
          show _ = _
          rw [print_ok HOK.out HGA.out (by rw [HT.out]; exact hlo), HT.out]
        clear hlo
        go_wp2_with fail
        refine HLEN.out.mono ?_
        rintro x w6 ⟨rfl, rfl⟩
        go_wp2_with fail
        refine HSTR.out.mono ?_
        rintro x w7 ⟨rfl, hb7⟩
        have HB7 := Lib.hid (HBR.out.trans (hb7.mono HS3.out))
        go_wp2_with fail
        go_ret2
        unfold PrintP
        rw [HP.out]
        exact ⟨rfl, HB7.out⟩
end Go.Proofs.YtcddgbobbogpgaaDoor.Scr

namespace Go.Proofs.YtcddgbobbogpgaaDoor.Scr
open Go.RowKit Go.Mir Go.Mir.Hx Go.Mir.Parts HexW Rpl

theorem kind_is {s : List UInt8} {i : Nat} (h : 1 ≤ i ∧ i ≤ 6) (e : K6.getD i [] = s) : kindB s = i := by
  have hc : i = 1 ∨ i = 2 ∨ i = 3 ∨ i = 4 ∨ i = 5 ∨ i = 6 := by omega
  subst e
  rcases hc with rfl | rfl | rfl | rfl | rfl | rfl <;> rfl
theorem kind_none {s : List UInt8} (h : ∀ i, 1 ≤ i ∧ i ≤ 6 → ¬ K6.getD i [] = s) : kindB s = 0 := by
  unfold kindB
  rw [if_neg (fun e => h 1 (by omega) e.symm), if_neg (fun e => h 2 (by omega) e.symm), if_neg (fun e => h 3 (by omega) e.symm), if_neg (fun e => h 4 (by omega) e.symm), if_neg (fun e => h 5 (by omega) e.symm), if_neg (fun e => h 6 (by omega) e.symm)]
set_option maxRecDepth 100000 in
set_option maxHeartbeats 1600000 in
theorem rkind_any (s : List UInt8) (w : World) : Calls Tryd.prog 36 #[.string (S s)] w fun e w' => e = .returned (.int .i64 (kindB s : Int)) ∧ Below w.heap.size w w' := by
  go_enter Tryd.func36, Tryd.ntmps36
  go_wp2_with fail
  go_loopw [3] (fun j wr => ∃ i : Nat, 1 ≤ i ∧ i ≤ 7 ∧ j = .int .i64 i ∧ (∀ k, 1 ≤ k ∧ k < i → ¬ K6.getD k [] = s) ∧ Below w.heap.size w wr) (fun j _ => 7 - (intOf j).toNat)
  case atStart => exact ⟨1, by omega, by omega, rfl, fun k hk => by omega, Below.refl _ _⟩
  case round =>
    obtain ⟨i, h1, h7, rfl, hno, hb⟩ := hrel
    have HNO := Lib.hid hno
    have HB := Lib.hid hb
    clear hno hb
    by_cases hlt : i < 7
    · have hd : decide ((i : Int) < 7) = true := decide_eq_true (by omega)
      have hd2 : decide (i < 7) = true := decide_eq_true hlt
      have hi1 : (i : Int) < 7 := by omega
      go_wp2_with fail
      refine (rnames_any wr).mono ?_
      rintro x w2 ⟨rfl, hws, hb2⟩
      have hik : i < K6.length := hlt
      have hcx := hws.str hik
      rw [Nat.zero_add] at hcx
      have HGE : Hid (K6.getD i [] = K6[i]) := by
        show _ = _
        rw [List.getD_eq_getElem?_getD, List.getElem?_eq_getElem hik]; rfl
      have HB2 := Lib.hid (HB.out.trans (hb2.mono HB.out.size))
      generalize K6[i] = y at *
      clear hws hb2
      by_cases hy : y = s
      · have hq : (y == s) = true := beq_iff_eq.2 hy
        have HK : Hid (kindB s = i) := kind_is ⟨h1, by omega⟩ (HGE.out.trans hy)
        clear hy hik
        go_wp2_with fail
        go_ret
        exact ⟨by rw [HK.out]; rfl, HB2.out⟩
      · have hq : (y == s) = false := beq_eq_false_iff_ne.2 hy
        have HN2 : Hid (∀ k, 1 ≤ k ∧ k < i + 1 → ¬ K6.getD k [] = s) := fun k hk => by
          by_cases hki : k = i
          · subst hki; rw [HGE.out]; exact hy
          · exact HNO.out k (by omega)
        clear hy hik
        go_wp2_with fail
        go_roundw
        case rel => exact ⟨i + 1, by omega, by omega, by go_num, HN2.out, HB2.out⟩
        case measure => simp [intOf]; omega
    · obtain rfl : i = 7 := by omega
      have hd : decide ((7 : Int) < 7) = false := by decide
      have HK : Hid (kindB s = 0) := kind_none (fun k hk => HNO.out k (by omega))
      go_wp2_with fail
      go_ret
      exact ⟨by rw [HK.out]; rfl, HB.out⟩
theorem results_ct {P : Program} {fn : Func} {p q : Tmp} {ty : TypeId} (h : fn.results = #[.cell p ty, .tmp q]) (tmps : Array Value) (w : World) (g : Nat) (t : TypeId) (cs : Array Value) (fr : Nat × Nat) (d : TypeDesc)
    (hp : tmps.getD p undef = .pointer (some ⟨g, 0, none⟩)) (hg : w.heap[g]? = some (.cells cs t fr))
    (hu : P.underlying ty = some d) (hd : (match d with | .struct _ | .array _ _ => true | _ => false) = true) (hi : (P.info? ty).map (·.size) = some cs.size) :
    (results fn tmps).run P w = .ok (.tuple #[.agg cs, tmps.getD q undef]) w := by
  have hp' : tmps[p]?.getD undef = .pointer (some ⟨g, 0, none⟩) := by simpa using hp
  simp [results, h, hp', asAddr, run_loadVar_row w g t ty cs fr d hg hu hd hi]
set_option maxRecDepth 100000 in
set_option maxHeartbeats 1600000 in
theorem rkeep_any (A : Array Value) (ok : Bool) (w : World) (hs : A.size = 103) (ho : A.all (·.oneCell') = true) :
    Calls Tryd.prog 38 #[.agg A, .bool ok] w fun e w' => e = .returned (.tuple #[.agg (if ok = true then A else zE), .bool ok]) ∧ Below w.heap.size w w' := by
  have hz := zeroF
  obtain ⟨a1, a2, a3, a4⟩ := Go.Mir.two_allocs w (.cells A 37) (.cells zE 37)
  have HR1 := Lib.hid a1
  have HR2 := Lib.hid a2
  have HB := Lib.hid a4
  have HS := Lib.hid hs
  have HO := Lib.hid ho
  have HZS : Hid (zE.size = 103) := zE_size
  have HZO : Hid (zE.all (·.oneCell') = true) := evA_one _ _ _ _ _
  have hbu : Tryd.prog.built 37 [] = some zE := built_f0
  have HBU := Lib.hid hbu
  clear a1 a2 a3 a4 hs ho hbu
  cases ok with
  | true =>
    go_enter Tryd.func38, Tryd.ntmps38
    go_upto_region 1 with fail
    generalize (w.alloc (.cells A 37)).alloc (.cells zE 37) = w1 at *
    go_wp2_with (first
      | refine wpList_load_row rfl 37 _ rfl w.heap.size rfl 37 A (0, 0) _ HR1.out Tryd.underlying37 rfl (infoF _ HS.out) ?_
      | refine wpList_store_row rfl 37 _ _ rfl (w.heap.size + 1) A rfl rfl 37 zE HR2.out (infoF _ HS.out) (by rw [HS.out]; exact HZS.out) HO.out ?_)
    have HSR := Lib.hid (setRow_heap _ _ _ A _ _ HR2.out)
    refine bodyPost_ret (results_ct rfl _ _ _ _ _ _ _ rfl HSR.out Tryd.underlying37 rfl (infoF _ HS.out)) rfl ?_
    exact ⟨rfl, below_setRow HB.out (by omega) _⟩
  | false =>
    go_enter Tryd.func38, Tryd.ntmps38
    go_upto_region 1 with fail
    generalize (w.alloc (.cells A 37)).alloc (.cells zE 37) = w1 at *
    go_wp2_with (first
      | refine Rdr.wpList_build rfl 37 _ rfl [] rfl _ HBU.out ?_
      | refine wpList_store_row rfl 37 _ _ rfl (w.heap.size + 1) zE rfl rfl 37 zE HR2.out (infoF _ HZS.out) rfl HZO.out ?_)
    have HSR := Lib.hid (setRow_heap _ _ _ zE _ _ HR2.out)
    refine bodyPost_ret (results_ct rfl _ _ _ _ _ _ _ rfl HSR.out Tryd.underlying37 rfl (infoF _ HZS.out)) rfl ?_
    exact ⟨rfl, below_setRow HB.out (by omega) _⟩
/-! ### numbers -/
theorem infoIntS : (Tryd.prog.info? 3).map (fun i => (i.zero, i.size, i.bytes)) = some (some (.int .i64 0), 1, 8) := by kernel_rfl
def natsV (l : List Nat) : List Value := l.map fun (n : Nat) => Value.int .i64 (n : Int)
theorem natsV_one (l : List Nat) : ∀ u ∈ natsV l, u.oneCell' = true := fun u hu => by
  obtain ⟨n, _, rfl⟩ := List.mem_map.1 hu; rfl
def numsT (most : Nat) (ws : List (List UInt8)) : List Nat := ws.map fun x => (numOf x most).1
theorem own_ap {w : World} {base t size : Nat} {p : Option Addr} {n c : Nat} {xs : List Value} (h : w.ownsRow base t size (.slice p n c) n xs) : ∀ a, p = some a → base ≤ a.block := fun a ha => by
  subst ha
  rcases h.2 with ⟨he, _⟩ | ⟨g', cap, cur, he, hb, _⟩
  · cases he
  · cases he; exact hb
def NumsR (many most : Nat) (ws : List (List UInt8)) (w : World) (e : Ending) (w' : World) : Prop := Below w.heap.size w w' ∧
  ((ws.length = many ∧ ∃ l p c, numsM most ws = some l ∧ e = .returned (.tuple #[.slice p l.length c, .bool true]) ∧ Sl w' p l.length c 1 (natsV l) ∧ (∀ a, p = some a → w.heap.size ≤ a.block)) ∨ ((¬ ws.length = many ∨ numsM most ws = none) ∧ e = .returned (.tuple #[.slice none 0 0, .bool false])))
set_option maxRecDepth 100000 in
set_option maxHeartbeats 3200000 in
theorem rnumbers_any (many most : Nat) (hmy : many ≤ 1000) (hmo : most ≤ 1000000) (q : Option Addr) (n c : Nat) (ws : List (List UInt8)) (w : World) (hW : Ws w q n c ws) (hl : ∀ x ∈ ws, x.length ≤ 1099511627776) :
    Calls Tryd.prog 40 #[.slice q n c, .int .i64 (many : Int), .int .u64 (most : Int)] w (NumsR many most ws w) := by
  have HWS := Lib.hid hW
  have HLL := Lib.hid hl
  obtain rfl : ws.length = n := hW.length
  have hle := hW.le
  have hmax := hW.max
  clear hW hl
  by_cases hlen : ws.length = many
  rotate_left
  · have q1 : ((ws.length : Int) == (many : Int)) = false := beq_eq_false_iff_ne.2 (by omega)
    have p1 : ((ws.length : Int) != (many : Int)) = true := bne_iff_ne.2 (by omega)
    have q2 : (ws.length == many) = false := beq_eq_false_iff_ne.2 hlen
    have p2 : (ws.length != many) = true := bne_iff_ne.2 hlen
    have HBAD : Hid (¬ ws.length = many) := hlen
    clear hlen
    go_enter Tryd.func40, Tryd.ntmps40
    go_wp2_with fail
    go_ret2
    exact ⟨Below.refl _ _, .inr ⟨.inl HBAD.out, rfl⟩⟩
  have q1 : ((ws.length : Int) == (many : Int)) = true := beq_iff_eq.2 (by omega)
  have p1 : ((ws.length : Int) != (many : Int)) = false := by rw [bne_eq_false_iff_eq]; omega
  have q2 : (ws.length == many) = true := beq_iff_eq.2 hlen
  have p2 : (ws.length != many) = false := by rw [bne_eq_false_iff_eq]; exact hlen
  have HLEN := Lib.hid hlen
  have hbig : ws.length ≤ 1000 := by omega
  clear hlen
  go_enter Tryd.func40, Tryd.ntmps40
  go_wp2_with fail
  clear q1 p1 q2 p2
  go_loopw [8, 9, 10, 11] (fun v j _ _ wr => ∃ (i : Nat) (p : Option Addr) (k : Nat), i ≤ ws.length ∧ j = .int .i64 i ∧ v = .slice p i k ∧ wr.ownsRow w.heap.size 3 1 v i (natsV (numsT most (ws.take i))) ∧ (∀ x ∈ ws.take i, (numOf x most).2 = 0) ∧ Below w.heap.size w wr) (fun _ j _ _ _ => ws.length - (intOf j).toNat)
  case atStart => exact ⟨0, none, 0, by omega, rfl, rfl, World.ownsRow_nil _ _ _ _, fun x hx => by simp at hx, Below.refl _ _⟩
  case round =>
    obtain ⟨i, p, k, hi, rfl, rfl, ho, hs, hb⟩ := hrel
    have HO := Lib.hid ho
    have HSM := Lib.hid hs
    have HB := Lib.hid hb
    clear ho hs hb
    by_cases hlt : i < ws.length
    · have hd : decide ((i : Int) < (ws.length : Int)) = true := decide_eq_true (by omega)
      have hd2 : decide (i < ws.length) = true := decide_eq_true hlt
      obtain ⟨b, o, rfl⟩ := HWS.out.addr (by omega) (by omega)
      have hcx := cell_below (HWS.out.str hlt) HB.out
      have HTK : Hid (ws.take (i + 1) = ws.take i ++ [ws[i]]) := List.take_succ_eq_append_getElem hlt
      have HMEM : Hid (ws[i] ∈ ws) := List.getElem_mem hlt
      generalize ws[i] = x at *
      have hnm := rNumOf_any x most wr (HLL.out x HMEM.out) (by omega)
      unfold NumP at hnm
      have HNM := Lib.hid hnm
      obtain ⟨V, hV⟩ : ∃ V, (numOf x most).1 = V := ⟨_, rfl⟩
      obtain ⟨E, hE⟩ : ∃ E, (numOf x most).2 = E := ⟨_, rfl⟩
      rw [hV, hE] at HNM
      have HV := Lib.hid hV
      have HE := Lib.hid hE
      clear hnm hV hE
      go_wp2_with fail
      refine HNM.out.mono ?_
      rintro y w6 ⟨rfl, hb6⟩
      have HO6 := Lib.hid (own_touch HO.out (Turns.of_below (S := fun _ => False) hb6) (fun _ _ h => h))
      have HB6 := Lib.hid (HB.out.trans (hb6.mono HB.out.size))
      clear hb6 HNM hcx
      by_cases he : E = 0
      · have q1 : (E == 0) = true := beq_iff_eq.2 he
        have p1 : (E != 0) = false := by rw [bne_eq_false_iff_eq]; exact he
        have HVL : Hid (V ≤ 1000000) := by
          show _ ≤ _
          have := (numOf_back (l := x) (most := most) (by rw [HE.out]; exact he)).2
          rw [HV.out] at this
          omega
        have hw : IntKind.i64.wrap (V : Int) = (V : Int) := by rw [IntKind.wrap_i64]; have := HVL.out; omega
        have HTT : Hid (numsT most (ws.take (i + 1)) = numsT most (ws.take i) ++ [V]) := by
          show _ = _
          rw [HTK.out]
          unfold numsT
          rw [List.map_append, List.map_cons, HV.out]; rfl
        have HS9 : Hid (∀ y ∈ ws.take (i + 1), (numOf y most).2 = 0) := fun y hy => by
          rw [HTK.out, List.mem_append, List.mem_singleton] at hy
          rcases hy with hy | rfl
          · exact HSM.out y hy
          · rw [HE.out]; exact he
        clear he
        have hal := Below.allocs w6 (.cells #[.int .i64 (V : Int)] 3)
        have HO8 := Lib.hid (own_touch HO6.out (Turns.of_below (S := fun _ => False) hal) (fun _ _ h => h))
        have HX8 : Hid (Sl (w6.alloc (.cells #[.int .i64 (V : Int)] 3)) (some ⟨w6.heap.size, 0, none⟩) 1 1 1 (natsV [V])) := Zs.lit w6 3 [(V : Int)] (show 1 ≤ 65536 by decide)
        have HB8 := Lib.hid (HB6.out.trans (hal.mono HB6.out.size))
        have HS8 := Lib.hid HB8.out.size
        clear hal HO6 HB6
        go_wp2_with (at_builtin; refine wpList_append_nx rfl _ _ 90 rfl (base := w.heap.size) Tryd.underlying90 infoIntS rfl (by omega) rfl HO8.out rfl HX8.out (natsV_one _) ⟨by omega, by omega⟩ HS8.out ?_)
        intro p9 c9 w9 ho9 hgr hnx _
        have HB9 := Lib.hid (HB8.out.trans (own_below HO8.out hgr HS8.out))
        have HO9 : Hid (w9.ownsRow w.heap.size 3 1 (.slice p9 (i + 1) c9) (i + 1) (natsV (numsT most (ws.take (i + 1))))) := by
          show World.ownsRow _ _ _ _ _ _ _
          rw [HTT.out]
          unfold natsV at ho9 ⊢
          rw [List.map_append]
          exact ho9
        clear ho9 hgr hnx HO8 HX8 HB8 HS8 HTT
        go_wp2_with fail
        go_roundw
        case rel => exact ⟨i + 1, p9, c9, by omega, by go_num, rfl, HO9.out, HS9.out, HB9.out⟩
        case measure => simp [intOf]; omega
      · have q1 : (E == 0) = false := beq_eq_false_iff_ne.2 he
        have p1 : (E != 0) = true := bne_iff_ne.2 he
        have HBAD : Hid (numsM most ws = none) := if_neg (fun h => he (by rw [← HE.out]; exact h x HMEM.out))
        clear he
        go_wp2_with fail
        go_ret2
        exact ⟨HB6.out, .inr ⟨.inr HBAD.out, rfl⟩⟩
    · have hd : decide ((i : Int) < (ws.length : Int)) = false := decide_eq_false (by omega)
      have hd2 : decide (i < ws.length) = false := decide_eq_false hlt
      obtain rfl : i = ws.length := by omega
      have HEND : Hid (NumsR many most ws w (.returned (.tuple #[.slice p ws.length k, .bool true])) wr) := by
        have h1 := HO.out
        have h2 := HSM.out
        rw [List.take_length] at h1 h2
        obtain ⟨p1, c1, he1, hsl⟩ := own_sl h1
        cases he1
        refine ⟨HB.out, .inl ⟨HLEN.out, numsT most ws, p, k, if_pos h2, by rw [show (numsT most ws).length = ws.length from List.length_map _], ?_, own_ap h1⟩⟩
        rw [show (numsT most ws).length = ws.length from List.length_map _]
        exact hsl
      go_wp2_with fail
      go_ret2
      exact HEND.out
end Go.Proofs.YtcddgbobbogpgaaDoor.Scr

namespace Go.Proofs.YtcddgbobbogpgaaDoor.Scr
open Go.RowKit Go.Mir Go.Mir.Hx Go.Mir.Parts HexW Rpl

def puts (A : Array Value) : List Nat → List Nat → Array Value
  | o :: os, v :: vs => puts (A.setIfInBounds o (.int .i64 (v : Int))) os vs
  | _, _ => A
theorem puts_size : ∀ (os vs : List Nat) (A : Array Value), (puts A os vs).size = A.size
  | [], _, _ => by unfold puts; rfl
  | _ :: _, [], _ => rfl
  | o :: os, v :: vs, A => by rw [puts, puts_size os vs]; simp
theorem puts_snoc : ∀ (os vs : List Nat) (A : Array Value) (o v : Nat), os.length = vs.length → puts A (os ++ [o]) (vs ++ [v]) = (puts A os vs).setIfInBounds o (.int .i64 (v : Int))
  | [], [], A, o, v, _ => by simp [puts]
  | [], _ :: _, _, _, _, h => by simp at h
  | _ :: _, [], _, _, _, h => by simp at h
  | o' :: os, v' :: vs, A, o, v, h => by
    rw [List.cons_append, List.cons_append, puts, puts, puts_snoc os vs _ o v (by simpa using h)]
theorem puts_nil (A : Array Value) (vs : List Nat) : puts A [] vs = A := by unfold puts; rfl
def ptrsV (g : Nat) (os : List Nat) : List Value := os.map fun o => Value.pointer (some ⟨g, o, none⟩)
/-- what numbers leaves of a box g -/
def NumW (g : Nat) (t : TypeId) (A : Array Value) (os : List Nat) (most : Nat) (ws : List (List UInt8)) (w : World) (e : Ending) (w' : World) : Prop := Turns (fun k => k = g) w w' ∧
  ((ws.length = os.length ∧ ∃ l, numsM most ws = some l ∧ e = .returned (.bool true) ∧ w'.heap[g]? = some (.cells (puts A os l) t (0, 0))) ∨
   ((¬ ws.length = os.length ∨ numsM most ws = none) ∧ e = .returned (.bool false) ∧ ∃ A', A'.size = A.size ∧ w'.heap[g]? = some (.cells A' t (0, 0))))
set_option maxRecDepth 100000 in
set_option maxHeartbeats 3200000 in
theorem numbers_any (g : Nat) (t : TypeId) (A : Array Value) (os : List Nat) (hos : ∀ o ∈ os, o < A.size) (hol : os.length ≤ 1000) (most : Nat) (hmo : most ≤ 1000000) (q : Option Addr) (n c : Nat) (ws : List (List UInt8)) (pt : Option Addr) (ct : Nat) (w : World) (hg : w.heap[g]? = some (.cells A t (0, 0)))
    (hW : ∀ w', Turns (fun k => k = g) w w' → Ws w' q n c ws) (hT : ∀ w', Turns (fun k => k = g) w w' → Sl w' pt os.length ct 1 (ptrsV g os)) (hl : ∀ x ∈ ws, x.length ≤ 1099511627776) :
    Calls Tryd.prog 46 #[.slice q n c, .int .u64 (most : Int), .slice pt os.length ct] w (NumW g t A os most ws w) := by
  have HG := Lib.hid hg
  have HWS := Lib.hid hW
  have HTO := Lib.hid hT
  have HLL := Lib.hid hl
  have HOS := Lib.hid hos
  obtain rfl : ws.length = n := (hW w (Turns.refl _ w)).length
  have hle := (hW w (Turns.refl _ w)).le
  have hmax := (hW w (Turns.refl _ w)).max
  have hlt' := (hT w (Turns.refl _ w)).le
  have hmt' := (hT w (Turns.refl _ w)).max
  clear hg hW hT hl hos
  by_cases hlen : ws.length = os.length
  rotate_left
  · have q1 : ((ws.length : Int) == (os.length : Int)) = false := beq_eq_false_iff_ne.2 (by omega)
    have p1 : ((ws.length : Int) != (os.length : Int)) = true := bne_iff_ne.2 (by omega)
    have q2 : (ws.length == os.length) = false := beq_eq_false_iff_ne.2 hlen
    have p2 : (ws.length != os.length) = true := bne_iff_ne.2 hlen
    have HBAD : Hid (¬ ws.length = os.length) := hlen
    clear hlen
    go_enter Tryd.func46, Tryd.ntmps46
    go_wp2_with fail
    go_ret
    exact ⟨Turns.refl _ _, .inr ⟨.inl HBAD.out, rfl, A, rfl, HG.out⟩⟩
  have q1 : ((ws.length : Int) == (os.length : Int)) = true := beq_iff_eq.2 (by omega)
  have p1 : ((ws.length : Int) != (os.length : Int)) = false := by rw [bne_eq_false_iff_eq]; omega
  have q2 : (ws.length == os.length) = true := beq_iff_eq.2 hlen
  have p2 : (ws.length != os.length) = false := by rw [bne_eq_false_iff_eq]; exact hlen
  have HLEN := Lib.hid hlen
  have hbig : ws.length ≤ 1000 := by omega
  clear hlen
  go_enter Tryd.func46, Tryd.ntmps46
  go_wp2_with fail
  clear q1 p1 q2 p2
  go_loopw [7, 8, 9, 10, 18] (fun _ _ _ _ j wr => ∃ i : Nat, i ≤ ws.length ∧ j = .int .i64 i ∧ wr.heap[g]? = some (.cells (puts A (os.take i) (numsT most (ws.take i))) t (0, 0)) ∧ (∀ x ∈ ws.take i, (numOf x most).2 = 0) ∧ Turns (fun k => k = g) w wr) (fun _ _ _ _ j _ => ws.length - (intOf j).toNat)
  case atStart => exact ⟨0, by omega, rfl, by rw [List.take_zero, puts_nil]; exact HG.out, fun x hx => by simp at hx, Turns.refl _ _⟩
  case round =>
    obtain ⟨i, hi, rfl, hr, hs, ht⟩ := hrel
    have HR := Lib.hid hr
    have HSM := Lib.hid hs
    have HT := Lib.hid ht
    clear hr hs ht
    by_cases hlt : i < ws.length
    · have hd : decide ((i : Int) < (ws.length : Int)) = true := decide_eq_true (by omega)
      have hd2 : decide (i < ws.length) = true := decide_eq_true hlt
      have hio : i < os.length := by rw [← HLEN.out]; exact hlt
      have hws := HWS.out wr HT.out
      obtain ⟨b, o, rfl⟩ := hws.addr (by omega) (by omega)
      have hcx := hws.str hlt
      have hcx2 := HLL.out ws[i] (List.getElem_mem hlt)
      have HTK : Hid (ws.take (i + 1) = ws.take i ++ [ws[i]]) := List.take_succ_eq_append_getElem hlt
      have HOK : Hid (os.take (i + 1) = os.take i ++ [os[i]]) := List.take_succ_eq_append_getElem hio
      have HMEM : Hid (ws[i] ∈ ws) := List.getElem_mem hlt
      have HOB : Hid (os[i] < A.size) := HOS.out _ (List.getElem_mem hio)
      have HPT : Hid ((ptrsV g os)[i]? = some (.pointer (some ⟨g, os[i], none⟩))) := by
        show _ = _
        unfold ptrsV
        simp [hio]
      generalize ws[i] = x at *
      generalize os[i] = oi at *
      have hnm := numOf_any x most wr hcx2 (by omega)
      unfold NumP at hnm
      have HNM := Lib.hid hnm
      obtain ⟨V, hV⟩ : ∃ V, (numOf x most).1 = V := ⟨_, rfl⟩
      obtain ⟨E, hE⟩ : ∃ E, (numOf x most).2 = E := ⟨_, rfl⟩
      rw [hV, hE] at HNM
      have HV := Lib.hid hV
      have HE := Lib.hid hE
      clear hnm hV hE hws hcx2
      go_wp2_with fail
      refine HNM.out.mono ?_
      rintro y w6 ⟨rfl, hb6⟩
      have HR6 := Lib.hid (Below.keepOld hb6 HR.out)
      have HT6 := Lib.hid (HT.out.trans (Turns.of_below (S := fun k => k = g) hb6) (fun _ _ h => h))
      clear hb6 HNM hcx HR
      by_cases he : E = 0
      · have q1 : (E == 0) = true := beq_iff_eq.2 he
        have p1 : (E != 0) = false := by rw [bne_eq_false_iff_eq]; exact he
        have HVL : Hid (V ≤ 1000000) := by
          show _ ≤ _
          have := (numOf_back (l := x) (most := most) (by rw [HE.out]; exact he)).2
          rw [HV.out] at this
          omega
        have hw : IntKind.i64.wrap (V : Int) = (V : Int) := by rw [IntKind.wrap_i64]; have := HVL.out; omega
        have HTT : Hid (numsT most (ws.take (i + 1)) = numsT most (ws.take i) ++ [V]) := by
          show _ = _
          rw [HTK.out]
          unfold numsT
          rw [List.map_append, List.map_cons, HV.out]; rfl
        have HS9 : Hid (∀ y ∈ ws.take (i + 1), (numOf y most).2 = 0) := fun y hy => by
          rw [HTK.out, List.mem_append, List.mem_singleton] at hy
          rcases hy with hy | rfl
          · exact HSM.out y hy
          · rw [HE.out]; exact he
        have hto := HTO.out w6 HT6.out
        obtain ⟨bt, ot, rfl⟩ := hto.addr (by omega) (by omega)
        have hcp := hto.at HPT.out
        have hc0 : ∃ u, w6.cell? ⟨g, oi, none⟩ = some u := by
          rw [cell_of_row _ _ _ _ _ _ HR6.out]
          exact ⟨_, Array.getElem?_eq_getElem (by rw [puts_size]; exact HOB.out)⟩
        obtain ⟨u, hcu⟩ := hc0
        have hfz : w6.frozen? ⟨g, oi, none⟩ = false := frozen_of_row _ _ _ _ _ HR6.out
        have HR9 : Hid ((w6.setCell ⟨g, oi, none⟩ (.int .i64 (V : Int))).heap[g]? = some (.cells (puts A (os.take (i + 1)) (numsT most (ws.take (i + 1)))) t (0, 0))) := by
          show _ = _
          rw [HOK.out, HTT.out, puts_snoc _ _ _ _ _ (by have := HLEN.out; simp [numsT]; omega)]
          exact heap_setCell_same _ _ _ _ _ _ HR6.out
        have HT9 := Lib.hid (HT6.out.setCell (p := ⟨g, oi, none⟩) (fun _ => rfl) (.int .i64 (V : Int)))
        clear he hto
        go_wp2_with fail
        go_roundw
        case rel => exact ⟨i + 1, by omega, by go_num, HR9.out, HS9.out, HT9.out⟩
        case measure => simp [intOf]; omega
      · have q1 : (E == 0) = false := beq_eq_false_iff_ne.2 he
        have p1 : (E != 0) = true := bne_iff_ne.2 he
        have HBAD : Hid (numsM most ws = none) := if_neg (fun h => he (by rw [← HE.out]; exact h x HMEM.out))
        clear he
        go_wp2_with fail
        go_ret
        exact ⟨HT6.out, .inr ⟨.inr HBAD.out, rfl, _, puts_size _ _ _, HR6.out⟩⟩
    · have hd : decide ((i : Int) < (ws.length : Int)) = false := decide_eq_false (by omega)
      have hd2 : decide (i < ws.length) = false := decide_eq_false hlt
      obtain rfl : i = ws.length := by omega
      have HEND : Hid (NumW g t A os most ws w (.returned (.bool true)) wr) := by
        have h1 := HR.out
        have h2 := HSM.out
        rw [List.take_length] at h1 h2
        rw [List.take_of_length_le (by rw [HLEN.out]; exact Nat.le_refl _)] at h1
        exact ⟨HT.out, .inl ⟨HLEN.out, numsT most ws, if_pos h2, rfl, h1⟩⟩
      go_wp2_with fail
      go_ret
      exact HEND.out
end Go.Proofs.YtcddgbobbogpgaaDoor.Scr

namespace Go.Proofs.YtcddgbobbogpgaaDoor.Scr
open Go.RowKit Go.Mir Go.Mir.Hx Go.Mir.Parts HexW Rpl

def clo (f : FuncId) (rb : Nat) : Value := .func (.func f) #[] #[.pointer (some ⟨rb, 0, none⟩)]
def MES (rb : Nat) : Array MapEntry := #[
  { key := .string ⟨#[102, 114, 97, 109, 101]⟩, val := clo 54 rb, born := 0 },
  { key := .string ⟨#[99, 111, 110, 110, 101, 99, 116]⟩, val := clo 56 rb, born := 1 },
  { key := .string ⟨#[100, 105, 115, 99, 111, 110, 110, 101, 99, 116]⟩, val := clo 52 rb, born := 2 },
  { key := .string ⟨#[101, 118, 105, 99, 116]⟩, val := clo 52 rb, born := 3 },
  { key := .string ⟨#[97, 114, 109]⟩, val := clo 57 rb, born := 4 },
  { key := .string ⟨#[114, 101, 115, 116, 97, 114, 116]⟩, val := clo 58 rb, born := 5 }]
def putMap (w : World) (r : Nat) (es : Array MapEntry) (cl : Nat) : World := { w with heap := w.heap.setIfInBounds r (.map es cl) }
theorem putMap_heap (w : World) (r : Nat) (es : Array MapEntry) (cl : Nat) (h : r < w.heap.size) : (putMap w r es cl).heap[r]? = some (.map es cl) := by
  show (w.heap.setIfInBounds r _)[r]? = _
  simp [h]
theorem putMap_size (w : World) (r : Nat) (es : Array MapEntry) (cl : Nat) : (putMap w r es cl).heap.size = w.heap.size := by
  show (w.heap.setIfInBounds r _).size = _
  simp
theorem putMap_other (w : World) (r k : Nat) (es : Array MapEntry) (cl : Nat) (h : k ≠ r) : (putMap w r es cl).heap[k]? = w.heap[k]? := by
  show (w.heap.setIfInBounds r _)[k]? = _
  rw [Array.getElem?_setIfInBounds_ne (Ne.symm h)]
theorem putMap_below {w0 w : World} {B r : Nat} {es : Array MapEntry} {cl : Nat} (hb : Below B w0 w) (hr : B ≤ r) : Below B w0 (putMap w r es cl) := by
  have := hb.size
  refine ⟨hb.os, hb.tape, hb.output, ?_, fun i hi => ?_⟩
  · rw [putMap_size]; exact this
  · rw [putMap_other _ _ _ _ _ (by omega)]; exact hb.block i hi
theorem run_ins {P : Program} (w : World) (mty kt et : TypeId) (r clock : Nat) (es : Array MapEntry) (s : ByteArray) (val : Value) (hm : P.underlying mty = some (.map kt et)) (hk : P.underlying kt = some .string) (hb : w.heap[r]? = some (.map es clock)) (hf : Instr.findNow .string (.string s) es.toList 0 = some none) :
    (Instr.mapUpdate mty (.map (some r)) (.string s) val).run P w = .ok () (putMap w r (es.push { key := .string s, val := val, born := clock }) (clock + 1)) := by
  have hc : (Instr.checkKey false 10000 kt (.string s)).run P w = .ok () w := MapKept.run_checkKey (k := .string s) hk (by simp [MapKept.IsKey]) false 9999
  simp [Instr.mapUpdate, run_underlying hm, MapKept.run_getObj_map hb, hc, MapKept.run_findKey hk hf, MapKept.run_setObj_map _ hb, Result.andThen, putMap]
theorem wpList_ins {P : Program} {ops : Array Oper} {rest : List Oper} {o : Oper} {a : Act} {w : World} {Q : Exit → Act → World → Prop} (hg : o.guard = none) (t : TypeId) (m k x : Operand) (ho : o.op = .insert t m k x) (r clock : Nat) (es : Array MapEntry) (s : ByteArray) (val : Value) (kt et : TypeId)
    (hm' : a.eval m = .map (some r)) (hk' : a.eval k = .string s) (hx : a.eval x = val) (hm : P.underlying t = some (.map kt et)) (hk : P.underlying kt = some .string) (hb : w.heap[r]? = some (.map es clock)) (hf : Instr.findNow .string (.string s) es.toList 0 = some none)
    (h : wpList P ops Q rest (a.put o.dst undef) (putMap w r (es.push { key := .string s, val := val, born := clock }) (clock + 1))) : wpList P ops Q (o :: rest) a w := by
  refine wpList_plain hg fun K hK => ?_
  unfold Oper.wp execOp
  simp only [ho, hm', hk', hx, Sem.run_bind, run_ins w t kt et r clock es s val hm hk hb hf, Result.andThen_ok, Sem.run_pure]
  exact hK _ _ h
set_option maxRecDepth 100000 in
set_option maxHeartbeats 1600000 in
theorem readers_any (g : Nat) (w : World) : Calls Tryd.prog 33 #[.pointer (some ⟨g, 0, none⟩)] w fun x w' => ∃ mb, x = .returned (.map (some mb)) ∧ w'.heap[w.heap.size]? = some (.cells #[.pointer (some ⟨g, 0, none⟩)] 81 (0, 0)) ∧ w'.heap[mb]? = some (.map (MES w.heap.size) 6) ∧ Below w.heap.size w w' := by
  have hmm := @run_makeMap Tryd.prog
  have hal := Below.allocs w (.cells #[.pointer (some ⟨g, 0, none⟩)] 81)
  have hrow := heap_alloc_last w (.cells #[.pointer (some ⟨g, 0, none⟩)] 81)
  have HAL := Lib.hid hal
  have HROW := Lib.hid hrow
  clear hal hrow
  go_enter Tryd.func33, Tryd.ntmps33
  go_upto_region 2 with fail
  generalize w.alloc (.cells #[.pointer (some ⟨g, 0, none⟩)] 81) = w1 at *
  go_wp2_with (refine wpList_ins rfl 79 _ _ _ rfl w1.heap.size _ _ _ _ 9 77 rfl rfl rfl Tryd.underlying79 Tryd.underlying9 (by first | with_reducible exact heap_alloc_last _ _ | with_reducible exact putMap_heap _ _ _ _ (by simp [putMap_size])) (by kernel_rfl) ?_)
  have hsz : w.heap.size < w1.heap.size := (Array.getElem?_eq_some_iff.1 HROW.out).1
  have hne : w.heap.size ≠ w1.heap.size := by omega
  go_ret
  refine ⟨w1.heap.size, rfl, ?_, ?_, ?_⟩
  · rw [putMap_other _ _ _ _ _ hne, putMap_other _ _ _ _ _ hne, putMap_other _ _ _ _ _ hne, putMap_other _ _ _ _ _ hne, putMap_other _ _ _ _ _ hne, putMap_other _ _ _ _ _ hne]
    exact Below.keepOld (Below.allocs w1 _) HROW.out
  · exact putMap_heap _ _ _ _ (by simp [putMap_size])
  · exact putMap_below (putMap_below (putMap_below (putMap_below (putMap_below (putMap_below (HAL.out.trans ((Below.allocs w1 _).mono HAL.out.size)) HAL.out.size) HAL.out.size) HAL.out.size) HAL.out.size) HAL.out.size) HAL.out.size
/-! ### the look-up -/
def cloK (k rb : Nat) : Value := if k = 1 then clo 54 rb else if k = 2 then clo 56 rb else if k = 5 then clo 57 rb else if k = 6 then clo 58 rb else clo 52 rb
theorem run_lookS (w : World) (mb rb : Nat) (s : ByteArray) (r : Option (Nat × Value)) (hb : w.heap[mb]? = some (.map (MES rb) 6)) (hf : Instr.findNow .string (.string s) (MES rb).toList 0 = some r) (Z : Value) (hZ : ∀ w0, (zeroValue 77).run Tryd.prog w0 = .ok Z w0) :
    (Instr.lookup 79 (.map (some mb)) (.string s) true).run Tryd.prog w = .ok (.tuple #[(r.map (·.2)).getD Z, .bool r.isSome]) w := by
  have hc : (Instr.checkKey (MES rb).isEmpty 10000 9 (.string s)).run Tryd.prog w = .ok () w := MapKept.run_checkKey (k := .string s) Tryd.underlying9 (by simp [MapKept.IsKey]) _ 9999
  cases r with
  | none => simp [Instr.lookup, run_underlying Tryd.underlying79, MapKept.run_getObj_map hb, hc, MapKept.run_findKey Tryd.underlying9 hf, hZ, Result.andThen]
  | some x => simp [Instr.lookup, run_underlying Tryd.underlying79, MapKept.run_getObj_map hb, hc, MapKept.run_findKey Tryd.underlying9 hf, Result.andThen]
theorem zeroFn (w0 : World) : (zeroValue 77).run Tryd.prog w0 = .ok .nilFunc w0 := by kernel_rfl
def cutS (p : Option Addr) (c k : Nat) : Option Addr := if c = k then p else p.map (·.add k)
theorem ws_drop {w : World} {p : Option Addr} {L c : Nat} {ls : List (List UInt8)} (h : Ws w p L c ls) (k : Nat) (hk : k ≤ L) : Ws w (cutS p c k) (L - k) (c - k) (ls.drop k) := by
  have hle := h.le
  have hmax := h.max
  have hl := h.length
  unfold cutS
  by_cases hc : c = k
  · have hm : L - k = 0 := by omega
    rw [if_pos hc, hm, hc, Nat.sub_self, List.drop_of_length_le (by omega)]
    exact ⟨by simp [strV], Nat.le_refl _, by omega, fun _ => rfl, fun a ha j u hu => by simp [strV] at hu⟩
  · rw [if_neg hc]
    refine ⟨by rw [strV_length, List.length_drop, Nat.mul_one]; omega, by omega, by omega, fun hq => ?_, fun a ha j u hu => ?_⟩
    · cases p with
      | none => have := h.nil0 rfl; omega
      | some a => cases hq
    · cases p with
      | none => cases ha
      | some a0 =>
        obtain rfl := Option.some.inj ha
        have h1 : (strV ls)[k + j]? = some u := by
          rw [strV, List.getElem?_map] at hu ⊢
          rw [List.getElem?_drop] at hu
          exact hu
        have hj : k + j < ls.length := by
          have := (List.getElem?_eq_some_iff.1 h1).1
          rwa [strV_length] at this
        obtain ⟨b, o, hbo⟩ := h.addr (by omega) (by omega)
        obtain rfl := Option.some.inj hbo
        have h2 := h.cell _ rfl (k + j) u h1
        rw [add_none] at h2
        show w.cell? (((⟨b, o, none⟩ : Addr).add k).add j) = some u
        rw [add_none, add_none, Nat.add_assoc]
        exact h2
theorem cutSR {w : World} {p : Option Addr} {L c : Nat} {ls : List (List UInt8)} (h : Ws w p L c ls) (k : Nat) (lo : Int) (hlo : lo = (k : Int)) (hk : k ≤ L) :
    ∀ w0, (Instr.sliceAt 65 (.slice p L c) (some (.int .i64 lo)) none none).run Tryd.prog w0 = .ok (.slice (cutS p c k) (L - k) (c - k)) w0 := by
  subst hlo
  have hle := h.le
  have hmax := h.max
  have hsz : (Tryd.prog.info? 9).map (·.size) = some 1 := by kernel_rfl
  obtain ⟨i, hi, hi1⟩ := Option.map_eq_some_iff.1 hsz
  intro w0
  have hb1 : (0 : Int) ≤ (L : Int) ∧ (L : Int) ≤ (c : Int) := by omega
  have hb3 : (0 : Int) ≤ (k : Int) ∧ (k : Int) ≤ (L : Int) := by omega
  simp [Instr.sliceAt, Instr.slice, cutS, run_underlying Tryd.underlying65, Instr.sliceBounds, Instr.sliceBound, asIntOf, sizeOf, typeInfo, hi, hi1, hb3]
  try omega
theorem findF1 (rb : Nat) : Instr.findNow .string (.string (S [102, 114, 97, 109, 101])) (MES rb).toList 0 = some (some (0, cloK 1 rb)) := by kernel_rfl
theorem findF2 (rb : Nat) : Instr.findNow .string (.string (S [99, 111, 110, 110, 101, 99, 116])) (MES rb).toList 0 = some (some (1, cloK 2 rb)) := by kernel_rfl
theorem findF3 (rb : Nat) : Instr.findNow .string (.string (S [100, 105, 115, 99, 111, 110, 110, 101, 99, 116])) (MES rb).toList 0 = some (some (2, cloK 3 rb)) := by kernel_rfl
theorem findF4 (rb : Nat) : Instr.findNow .string (.string (S [101, 118, 105, 99, 116])) (MES rb).toList 0 = some (some (3, cloK 4 rb)) := by kernel_rfl
theorem findF5 (rb : Nat) : Instr.findNow .string (.string (S [97, 114, 109])) (MES rb).toList 0 = some (some (4, cloK 5 rb)) := by kernel_rfl
theorem findF6 (rb : Nat) : Instr.findNow .string (.string (S [114, 101, 115, 116, 97, 114, 116])) (MES rb).toList 0 = some (some (5, cloK 6 rb)) := by kernel_rfl
theorem beq_no {s l : List UInt8} (h : ¬ s = l) : (S s == S l) = false := by
  rw [Bool.eq_false_iff]
  intro e
  have e1 := (MapKept.bytes_beq _ _).1 e
  have e2 := congrArg (fun b : ByteArray => b.data.toList) e1
  simp only [S_data] at e2
  exact h e2
theorem findF0 (rb : Nat) {s : List UInt8} (h : kindB s = 0) : Instr.findNow .string (.string (S s)) (MES rb).toList 0 = some none := by
  have h1 : ¬ s = [102, 114, 97, 109, 101] := fun e => by subst e; cases h
  have h2 : ¬ s = [99, 111, 110, 110, 101, 99, 116] := fun e => by subst e; cases h
  have h3 : ¬ s = [100, 105, 115, 99, 111, 110, 110, 101, 99, 116] := fun e => by subst e; cases h
  have h4 : ¬ s = [101, 118, 105, 99, 116] := fun e => by subst e; cases h
  have h5 : ¬ s = [97, 114, 109] := fun e => by subst e; cases h
  have h6 : ¬ s = [114, 101, 115, 116, 97, 114, 116] := fun e => by subst e; cases h
  have q1 := beq_no h1
  have q2 := beq_no h2
  have q3 := beq_no h3
  have q4 := beq_no h4
  have q5 := beq_no h5
  have q6 := beq_no h6
  unfold S at *
  simp only [MES, Instr.findNow, Instr.sameNow, q1, q2, q3, q4, q5, q6]
theorem look_no (w : World) (mb rb : Nat) (s : List UInt8) (hb : w.heap[mb]? = some (.map (MES rb) 6)) (h : kindB s = 0) :
    (Instr.lookup 79 (.map (some mb)) (.string (S s)) true).run Tryd.prog w = .ok (.tuple #[.nilFunc, .bool false]) w := run_lookS w mb rb (S s) none hb (findF0 rb h) _ zeroFn
theorem look_ok (w : World) (mb rb k : Nat) (s : List UInt8) (hb : w.heap[mb]? = some (.map (MES rb) 6)) (hk : kindB s = k) (h0 : k ≠ 0) :
    (Instr.lookup 79 (.map (some mb)) (.string (S s)) true).run Tryd.prog w = .ok (.tuple #[cloK k rb, .bool true]) w := by
  obtain ⟨e, h6⟩ := kind_name hk h0
  have hc : k = 1 ∨ k = 2 ∨ k = 3 ∨ k = 4 ∨ k = 5 ∨ k = 6 := by omega
  subst e
  rcases hc with rfl | rfl | rfl | rfl | rfl | rfl
  · exact run_lookS w mb rb _ _ hb (findF1 rb) _ zeroFn
  · exact run_lookS w mb rb _ _ hb (findF2 rb) _ zeroFn
  · exact run_lookS w mb rb _ _ hb (findF3 rb) _ zeroFn
  · exact run_lookS w mb rb _ _ hb (findF4 rb) _ zeroFn
  · exact run_lookS w mb rb _ _ hb (findF5 rb) _ zeroFn
  · exact run_lookS w mb rb _ _ hb (findF6 rb) _ zeroFn
end Go.Proofs.YtcddgbobbogpgaaDoor.Scr

namespace Go.Mir
open Go.RowKit

/-- which operation comes next: taken at once; the only one; one of two -/
inductive Tr where
  | nil
  | take (i : Nat) (r : Tr)
  | one (i : Nat) (r : Tr)
  | two (i j : Nat) (r s : Tr)
def Tr.deep : Tr → Nat
  | .nil => 0
  | .take _ r => r.deep + 1
  | .one _ r => r.deep + 1
  | .two _ _ r _ => r.deep + 1
def treeB (ops : Array Oper) : Tr → Array Bool → Bool
  | .nil, l => (Region.ready .any ops l).isEmpty
  | .take i r, l => (ops[i]?).isSome && Region.free .any ops l i && (Region.ready .any ops l).contains i && treeB ops r (l.setIfInBounds i true)
  | .one i r, l => (ops[i]?).isSome && Region.ready .any ops l == [i] && treeB ops r (l.setIfInBounds i true)
  | .two i j r s, l => (ops[i]?).isSome && (ops[j]?).isSome && Region.ready .any ops l == [i, j] && r.deep == s.deep && !(i == j) && treeB ops r (l.setIfInBounds i true) && treeB ops s (l.setIfInBounds j true)
section
variable {P : Program} {ops : Array Oper} {S : World → Prop} {Q : Exit → Act → World → Prop}
/-- one operation, in its turn -/
def wpTurn (P : Program) (ops : Array Oper) (o : Oper) (a : Act) (w : World) (K : Act → World → Prop) (Q : Exit → Act → World → Prop) : Prop :=
  if Region.wanted o (yielded ops a.tmps) then o.wp P a w K Q else K (a.put o.dst undef) w
def wpTree (P : Program) (ops : Array Oper) (S : World → Prop) (Q : Exit → Act → World → Prop) (l : List Oper) : Tr → Act → World → Prop
  | .nil, a, w => Q .normal a w
  | .take i r, a, w => match nthO l i with
    | some o => ∃ v, YieldsIf P ops S o v a ∧ wpTree P ops S Q l r (a.put o.dst v) w
    | none => False
  | .one i r, a, w => match nthO l i with
    | some o => wpTurn P ops o a w (fun a' w' => S w' ∧ wpTree P ops S Q l r a' w') Q
    | none => False
  | .two i j r s, a, w => (match nthO l i with
    | some o => wpTurn P ops o a w (fun a' w' => S w' ∧ wpTree P ops S Q l r a' w') Q
    | none => False) ∧ (match nthO l j with
    | some o => wpTurn P ops o a w (fun a' w' => S w' ∧ wpTree P ops S Q l s a' w') Q
    | none => False)
theorem wpOp_turn {i : Nat} {o : Oper} {K K' : Act → World → Prop} {a : Act} {w : World} (ho : ops[i]? = some o) (hK : ∀ a w, K a w → K' a w) (h : wpTurn P ops o a w K Q) : wpOp P ops Q i K' a w := by
  unfold wpOp
  simp only [ho]
  unfold wpTurn at h
  split at h
  · rename_i hw
    rw [if_pos hw]
    exact .inl (Oper.wp_mono (fun a' w' h5 => hK _ _ h5) h)
  · rename_i hw
    rw [if_neg hw]
    exact hK _ _ h
theorem wpAnyH_tree {l : List Oper} (hl : l.toArray = ops) (hs : Region.noSelect ops = true) (hQ : ∀ c a d v w, Q (.panic c) (a.put d v) w → Q (.panic c) a w) :
    ∀ (t : Tr) (listed : Array Bool) (a : Act) (w : World), treeB ops t listed = true → S w → wpTree P ops S Q l t a w → wpAnyH P .any ops Q S t.deep listed a w
  | .nil, listed, a, w, hp, _, h => by
    refine wpAnyH_done ?_ h _
    simpa [treeB, List.isEmpty_iff] using hp
  | .take i r, listed, a, w, hp, hS, h => by
    simp only [treeB, Bool.and_eq_true] at hp
    obtain ⟨⟨⟨h1, h2⟩, h3⟩, h4⟩ := hp
    obtain ⟨o, ho⟩ := Option.isSome_iff_exists.1 h1
    have hn : nthO l i = some o := by rw [← nthO_eq, hl]; exact ho
    simp only [wpTree, hn] at h
    obtain ⟨v, hy, h⟩ := h
    exact wpAnyH_take ho hs h2 h3 (fun c a w => hQ c a _ _ w) hy hS (wpAnyH_tree hl hs hQ r _ _ _ h4 hS h)
  | .one i r, listed, a, w, hp, hS, h => by
    simp only [treeB, Bool.and_eq_true, beq_iff_eq] at hp
    obtain ⟨⟨h1, h2⟩, h4⟩ := hp
    obtain ⟨o, ho⟩ := Option.isSome_iff_exists.1 h1
    have hn : nthO l i = some o := by rw [← nthO_eq, hl]; exact ho
    simp only [wpTree, hn] at h
    refine wpAnyH_all h2 (by simp) fun j hj => ?_
    rw [List.mem_singleton] at hj
    subst hj
    exact wpOp_turn ho (fun a' w' ⟨h5, h6⟩ => ⟨h5, wpAnyH_tree hl hs hQ r _ _ _ h4 h5 h6⟩) h
  | .two i j r s, listed, a, w, hp, hS, h => by
    simp only [treeB, Bool.and_eq_true, beq_iff_eq] at hp
    obtain ⟨⟨⟨⟨⟨⟨h1, h1'⟩, h2⟩, hd⟩, hne⟩, h4⟩, h4'⟩ := hp
    obtain ⟨o, ho⟩ := Option.isSome_iff_exists.1 h1
    obtain ⟨o', ho'⟩ := Option.isSome_iff_exists.1 h1'
    have hn : nthO l i = some o := by rw [← nthO_eq, hl]; exact ho
    have hn' : nthO l j = some o' := by rw [← nthO_eq, hl]; exact ho'
    simp only [wpTree, hn, hn'] at h
    refine wpAnyH_all h2 (by simp) fun k hk => ?_
    rcases List.mem_cons.1 hk with rfl | hk
    · exact wpOp_turn ho (fun a' w' ⟨h5, h6⟩ => ⟨h5, wpAnyH_tree hl hs hQ r _ _ _ h4 h5 h6⟩) h.1
    · rw [List.mem_singleton] at hk
      subst hk
      exact wpOp_turn ho' (fun a' w' ⟨h5, h6⟩ => ⟨h5, by rw [hd]; exact wpAnyH_tree hl hs hQ s _ _ _ h4' h5 h6⟩) h.2
/-- the beginning -/
theorem wp_region_tree {id : Nat} {a : Act} {w : World} {l : List Oper} (S : World → Prop) (t : Tr) (hm : P.follows .mixedOrders = true)
    (hp : (treeB l.toArray t (Array.replicate l.length false) && Region.noSelect l.toArray && t.deep == l.length) = true) (hS : S w.drew)
    (h : wpTree P l.toArray S (NoPanic Q) l t a w.drew) : (Code.region id l.toArray true).wp P Q a w := by
  refine wp_region_noPanic ?_
  simp only [Bool.and_eq_true, beq_iff_eq] at hp
  obtain ⟨⟨h1, h2⟩, h3⟩ := hp
  have := wpAnyH_tree (P := P) (Q := NoPanic Q) (S := S) (l := l) rfl h2 (fun _ _ _ _ _ h => h) t (Array.replicate l.length false) a w.drew h1 hS h
  refine wp_region_held hm (S := S) ?_
  rw [h3] at this
  have hz : l.toArray.size = l.length := List.size_toArray ..
  rw [hz]
  exact this
/-- its steps -/
theorem tree_take {l : List Oper} {i : Nat} {r : Tr} {a : Act} {w : World} {o : Oper} {v : Value} (hn : nthO l i = some o) (hw : Region.wanted o (yielded ops a.tmps) = true) (hy : ∀ w', S w' → (execOp a.eval o).run P w' = .ok (.value v) w')
    (h : wpTree P ops S Q l r (a.put o.dst v) w) : wpTree P ops S Q l (.take i r) a w := by
  simp only [wpTree, hn]; exact ⟨v, .inl ⟨hw, hy⟩, h⟩
theorem tree_load {l : List Oper} {i : Nat} {r : Tr} {a : Act} {w : World} {op : Oper} (hn : nthO l i = some op) (hw : Region.wanted op (yielded ops a.tmps) = true) (ty : TypeId) (x : Operand) (ho : op.op = .load ty x)
    (b o : Nat) (hx : a.eval x = .pointer (some ⟨b, o, none⟩)) (M : Array Value) (d : TypeDesc) (hc : ∀ w', S w' → w'.rangeAt b o M.toList)
    (hu : P.underlying ty = some d) (hd : d.isRow = true) (hi : (P.info? ty).map (·.size) = some M.size)
    (h : wpTree P ops S Q l r (a.put op.dst (.agg M)) w) : wpTree P ops S Q l (.take i r) a w := by
  refine tree_take hn hw (fun w' hb => ?_) h
  unfold execOp
  simp only [ho, hx, Instr.loadAt, Instr.sureAddr, Sem.run_bind, Sem.run_pure, Result.andThen_ok, run_loadVar_mid w' b o ty M.toList d (hc w' hb) hu hd (by simpa using hi)]
theorem tree_one {l : List Oper} {i : Nat} {r : Tr} {a : Act} {w : World} {o : Oper} (hn : nthO l i = some o) (hw : Region.wanted o (yielded ops a.tmps) = true)
    (h : ∀ K : Act → World → Prop, Shut (∀ a w, S w → wpTree P ops S Q l r a w → K a w) → Oper.wp P o a w K Q) : wpTree P ops S Q l (.one i r) a w := by
  simp only [wpTree, hn, wpTurn]; rw [if_pos hw]; exact h _ fun _ _ h1 h2 => ⟨h1, h2⟩
theorem tree_two {l : List Oper} {i j : Nat} {r s : Tr} {a : Act} {w : World} (h1 : wpTree P ops S Q l (.one i r) a w) (h2 : wpTree P ops S Q l (.one j s) a w) : wpTree P ops S Q l (.two i j r s) a w := by
  simp only [wpTree] at h1 h2 ⊢; exact ⟨h1, h2⟩
theorem tree_nil {l : List Oper} {a : Act} {w : World} (h : Q .normal a w) : wpTree P ops S (NoPanic Q) l .nil a w := h
end
end Go.Mir

namespace Go.Proofs.YtcddgbobbogpgaaDoor.Scr
open Go.RowKit Go.Mir Go.Mir.Hx Go.Mir.Parts HexW Rpl

theorem sl_turn {w w' : World} {S : Nat → Prop} {p : Option Addr} {n c size : Nat} {vs : List Value} (h : Sl w p n c size vs) (ht : Turns S w w') (hne : ∀ a, p = some a → ¬ S a.block) : Sl w' p n c size vs :=
  ⟨h.len, h.le, h.max, h.nil0, fun a ha j u hu => ht.cell (h.cell a ha j u hu) (by rw [addr_add_block]; exact hne a ha)⟩
theorem is_turn {w w' : World} {S : Nat → Prop} {p : Option Addr} {n c size : Nat} {l : List (List UInt8)} (h : Is w p n c size l) (ht : Turns S w w') (hne : ∀ a, p = some a → ¬ S a.block) : Is w' p n c size l := ⟨sl_turn h.sl ht hne, h.each, h.count⟩
/-- what a reader finds -/
structure CE (rb g : Nat) (w : World) : Prop where
  box : w.heap[rb]? = some (.cells #[.pointer (some ⟨g, 0, none⟩)] 81 (0, 0))
  row : w.heap[g]? = some (.cells (evA (Ev.zero 0) none 0 none 0) 31 (0, 0))
theorem CE.below {rb g : Nat} {w w' : World} (h : CE rb g w) (hb : Below w.heap.size w w') : CE rb g w' := ⟨Below.keepOld hb h.box, Below.keepOld hb h.row⟩
theorem CE.ptr {rb g : Nat} {w : World} (h : CE rb g w) : w.cell? ⟨rb, 0, none⟩ = some (.pointer (some ⟨g, 0, none⟩)) := by rw [cell_of_row _ _ _ _ _ _ h.box]; rfl
theorem CE.lt {rb g : Nat} {w : World} (h : CE rb g w) : g < w.heap.size := (Array.getElem?_eq_some_iff.1 h.row).1
theorem CE.ew {rb g : Nat} {w w' : World} (h : CE rb g w) (hb : Below w.heap.size w w') : EW w g 31 (Ev.zero 0) none 0 none 0 w' := ⟨Below.keepOld hb h.row, zero_wf zero_i64, Turns.of_below hb⟩
theorem no_ap (n : Nat) : ∀ a, (none : Option Addr) = some a → n ≤ a.block := fun _ h => nomatch h
def ClP (g k : Nat) (r : List (List UInt8)) (w : World) (x : Ending) (w' : World) : Prop := Turns (fun j => j = g) w w' ∧
  ((∃ ev pb cb q c, readK k r = some ev ∧ ((∀ a, pb = some a → w.heap.size ≤ a.block) ∧ ∀ a, q = some a → w.heap.size ≤ a.block) ∧ x = .returned (.bool true) ∧ w'.heap[g]? = some (.cells (evA { ev with k := 0 } pb cb q c) 31 (0, 0)) ∧ EvAt w' { ev with k := 0 } pb cb q c) ∨ (readK k r = none ∧ x = .returned (.bool false)))
theorem len_facts (r : List (List UInt8)) (m : Nat) : (r.length = m → ((r.length : Int) == (m : Int)) = true ∧ ((r.length : Int) != (m : Int)) = false ∧ (r.length == m) = true ∧ (r.length != m) = false) ∧ (¬ r.length = m → ((r.length : Int) == (m : Int)) = false ∧ ((r.length : Int) != (m : Int)) = true ∧ (r.length == m) = false ∧ (r.length != m) = true) := by
  refine ⟨fun h => ⟨beq_iff_eq.2 (by omega), by rw [bne_eq_false_iff_eq]; omega, beq_iff_eq.2 h, by rw [bne_eq_false_iff_eq]; exact h⟩, fun h => ⟨beq_eq_false_iff_ne.2 (by omega), bne_iff_ne.2 (by omega), beq_eq_false_iff_ne.2 h, bne_iff_ne.2 h⟩⟩
theorem rk1 (s : List UInt8) : readK 1 [s] = (bytesL s).map (fun b => ⟨1, b, zeros, zeros, [], zeros, 0, 0, 0, 0⟩) := by
  unfold readK
  rw [if_pos rfl, if_pos (show [s].length = 1 from rfl)]; rfl
theorem len1 {r : List (List UInt8)} (h : r.length = 1) : ∃ s, r = [s] := List.length_eq_one_iff.1 h
set_option maxRecDepth 100000 in
set_option maxHeartbeats 1600000 in
theorem clo_frame (rb g : Nat) (q : Option Addr) (n c : Nat) (r : List (List UInt8)) (w : World) (h : CE rb g w) (hW : Ws w q n c r) (hl : ∀ x ∈ r, x.length ≤ 1099511627776) :
    Calls Tryd.prog 54 #[.slice q n c, .pointer (some ⟨rb, 0, none⟩)] w (ClP g 1 r w) := by
  have H := Lib.hid h
  have HW := Lib.hid hW
  have HLL := Lib.hid hl
  obtain rfl : r.length = n := hW.length
  have hle := hW.le
  have hmax := hW.max
  clear h hW hl
  by_cases h1 : r.length = 1
  rotate_left
  · obtain ⟨q1, q2, q3, q4⟩ := (len_facts r 1).2 h1
    have HNO : Hid (readK 1 r = none) := by show _ = _; unfold readK; rw [if_pos rfl, if_neg h1]
    clear h1
    go_enter Tryd.func54, Tryd.ntmps54
    go_wp2_with fail
    go_ret
    exact ⟨Turns.refl _ _, .inr ⟨HNO.out, rfl⟩⟩
  obtain ⟨s, rfl⟩ := len1 h1
  have hle : 1 ≤ c := hle
  obtain ⟨b, o, rfl⟩ := HW.out.addr (by show 0 < 1; omega) (by omega)
  have hcx : w.cell? ⟨b, o, none⟩ = some (.string (S s)) := HW.out.str (j := 0) (by show 0 < 1; omega)
  have HBY := Lib.hid (bytes_any s w (HLL.out s (by simp)))
  clear h1
  go_enter Tryd.func54, Tryd.ntmps54
  go_wp2_with fail
  refine HBY.out.mono ?_
  rintro x w2 ⟨hb, hcase⟩
  have HB := Lib.hid hb
  have HEW := Lib.hid (H.out.ew hb)
  have hp := (H.out.below hb).ptr
  have hfz : ∀ j, w2.frozen? ⟨g, j, none⟩ = false := fun j => HEW.out.frozen j
  have hE1 : w2.cell? ⟨g, 1, none⟩ = some (.slice none 0 0) := HEW.out.cells.b
  have HLT := Lib.hid H.out.lt
  clear hb hcx HBY
  rcases hcase with ⟨y, p, cc, hy, rfl, hbs, hap⟩ | ⟨hy, rfl⟩
  · have HEX := Lib.hid (HEW.out.bytes y p cc)
    have HY := Lib.hid hy
    have HBS := Lib.hid hbs
    have HAP := Lib.hid hap
    clear hy hbs hap
    go_wp2_with fail
    go_ret
    refine ⟨HEX.out.turn, .inl ⟨⟨1, y, zeros, zeros, [], zeros, 0, 0, 0, 0⟩, p, cc, none, 0, ?_, ⟨HAP.out, no_ap _⟩, rfl, HEX.out.row, HEX.out.wf, ?_, Is.nil _ _⟩⟩
    · rw [rk1, HY.out]; rfl
    · exact sl_turn HBS.out ((Turns.refl (fun j => j = g) w2).setCell (p := ⟨g, 1, none⟩) (fun _ => rfl) _) (fun a ha hg => by have := HAP.out a ha; have := HLT.out; have hg : a.block = g := hg; omega)
  · have HEX := Lib.hid (HEW.out.bytes [] none 0)
    have HY := Lib.hid hy
    clear hy
    go_wp2_with fail
    go_ret
    refine ⟨HEX.out.turn, .inr ⟨?_, rfl⟩⟩
    rw [rk1, HY.out]; rfl
set_option maxRecDepth 100000 in
set_option maxHeartbeats 1600000 in
theorem clo_one (rb g k : Nat) (hk : k = 3 ∨ k = 4) (q : Option Addr) (n c : Nat) (r : List (List UInt8)) (w : World) (h : CE rb g w) (hW : Ws w q n c r) (hn : n ≤ 1000000) (hl : ∀ x ∈ r, x.length ≤ 1099511627776) :
    Calls Tryd.prog 52 #[.slice q n c, .pointer (some ⟨rb, 0, none⟩)] w (ClP g k r w) := by
  have H := Lib.hid h
  have HID := Lib.hid (ids_any q n c r w hW hn hl)
  have HRK : Hid (readK k r = (idsB r).bind fun l => if l.length = 1 then some ⟨(k : Int), [], zeros, zeros, [], l.getD 0 [], 0, 0, 0, 0⟩ else none) := by
    show _ = _
    unfold readK
    rw [if_neg (by omega), if_neg (by omega), if_pos hk]
  clear h hW hn hl
  go_enter Tryd.func52, Tryd.ntmps52
  go_wp2_with fail
  refine HID.out.mono ?_
  rintro x w2 ⟨hb, hcase⟩
  have HB := Lib.hid hb
  have HLT := Lib.hid H.out.lt
  rcases hcase with ⟨l, p, cc, hl, rfl, his, hap⟩ | ⟨hl, rfl⟩
  rotate_left
  · have HNO : Hid (readK k r = none) := by show _ = _; rw [HRK.out, hl]; rfl
    clear hl hb
    go_wp2_with fail
    go_ret
    exact ⟨Turns.of_below HB.out, .inr ⟨HNO.out, rfl⟩⟩
  by_cases h1 : l.length = 1
  rotate_left
  · obtain ⟨q1, q2, q3, q4⟩ := (len_facts l 1).2 h1
    have HNO : Hid (readK k r = none) := by show _ = _; rw [HRK.out, hl]; show (if l.length = 1 then _ else _) = _; rw [if_neg h1]
    clear hl hb h1 his
    go_wp2_with fail
    go_ret
    exact ⟨Turns.of_below HB.out, .inr ⟨HNO.out, rfl⟩⟩
  obtain ⟨q1, q2, q3, q4⟩ := (len_facts l 1).1 h1
  obtain ⟨z, rfl⟩ := len1 h1
  have hcc := his.sl.le
  have hcm := his.sl.max
  obtain ⟨b, o, rfl⟩ := his.sl.addr (by show 0 < 1; omega) (by omega)
  have HRZ := Lib.hid (his.range (by omega) 0 (by show 0 < 1; omega))
  have HZL : Hid (z.length = 32) := his.each z (by simp)
  have HYES : Hid (readK k r = some ⟨(k : Int), [], zeros, zeros, [], z, 0, 0, 0, 0⟩) := by show _ = _; rw [HRK.out, hl]; rfl
  have HNE : Hid (rb ≠ g) := fun e => by
    have h1 := H.out.box
    rw [e, H.out.row] at h1
    injection h1 with e1
    injection e1 with _ e2
    exact absurd e2 (by decide)
  have HBG : Hid (b ≠ g) := fun e => by have h1 : w.heap.size ≤ b := hap _ rfl; have := HLT.out; omega
  have hbx := (H.out.below hb).box
  have HP0 : Hid (∀ w', Turns (fun j => j = g) w2 w' → w'.cell? ⟨rb, 0, none⟩ = some (.pointer (some ⟨g, 0, none⟩))) := fun w' ht => by rw [cell_of_row _ _ _ _ _ _ (ht.keep hbx HNE.out)]; rfl
  have HRG : Hid (∀ w', Turns (fun j => j = g) w2 w' → w'.rangeAt b o (idA z).toList) := fun w' ht j v hv => by
    have := HRZ.out j v hv
    rw [Nat.zero_mul, Nat.add_zero] at this
    exact ht.cell this HBG.out
  have HEW : Hid (EW w g 31 (Ev.zero 0) none 0 none 0 w2.drew) := H.out.ew (hb.trans ((below_drew1 w2.heap.size w2).mono hb.size))
  have HTH := Lib.hid (HEW.out.there 67 32 (by omega))
  have HEX := Lib.hid (HEW.out.ident z HZL.out)
  clear hl hb h1 his hap HID HRK hbx
  go_upto_region 3 with fail
  refine wp_region_tree (fun w' => Turns (fun j => j = g) w2 w') (.take 0 (.take 1 (.take 2 (.take 3 (.take 4 (.take 5 (.one 6 .nil))))))) (by kernel_rfl) (by kernel_rfl) (Turns.of_below (below_drew1 _ _)) ?_
  have ht0 : Turns (fun j => j = g) w2 w2.drew := Turns.of_below (below_drew1 _ _)
  repeat (first
    | (refine tree_load rfl (by rfl) 25 _ rfl b o rfl (idA z) _ (fun w' hb => HRG.out w' hb) Tryd.underlying25 rfl (infoId _ (by rw [idA_size, HZL.out])) ?_; try simp only [Act.put, List.setIfInBounds_toArray, List.set_cons_zero, List.set_cons_succ])
    | (apply tree_take; (· rfl); (· rfl); (· (intro w' hb'; go_simp; try with_reducible rfl)); try simp only [Act.put, List.setIfInBounds_toArray, List.set_cons_zero, List.set_cons_succ])
    | (apply tree_take; (· rfl); (· rfl); (· (intro w' hb'; have hk' := (HP0.out) w' hb'; go_simp; try with_reducible rfl)); try simp only [Act.put, List.setIfInBounds_toArray, List.set_cons_zero, List.set_cons_succ]))
  refine tree_one rfl (by rfl) (fun K hK => oper_of_list rfl ?_)
  refine wpList_store_mid rfl 25 _ _ rfl g 67 (idA z) rfl rfl (by rw [idA_size, HZL.out]; exact HTH.out) (infoId _ (by rw [idA_size, HZL.out])) (idA_one _) ?_
  refine only_end (Shut.out hK _ _ (turns_setCells (S := fun j => j = g) rfl _ _ _ ht0) ?_)
  clear hK K ht0 HP0 HRG
  try simp only [Act.put]
  refine tree_nil ?_
  go_wp2_with fail
  go_ret
  exact ⟨HEX.out.turn, .inl ⟨_, none, 0, none, 0, HYES.out, ⟨no_ap _, no_ap _⟩, rfl, HEX.out.row, HEX.out.wf, Sl.nil _ _, Is.nil _ _⟩⟩
end Go.Proofs.YtcddgbobbogpgaaDoor.Scr
