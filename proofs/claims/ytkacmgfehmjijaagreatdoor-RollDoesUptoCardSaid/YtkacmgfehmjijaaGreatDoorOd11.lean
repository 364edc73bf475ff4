/- PARTS, JOINED: THE LAW RollDoes. Conditions: the laid cell of errors.errorType; a bulk that fits. -/
import Derived.Test.YtkacmgfehmjijaaGreatDoorOd1
import Derived.Test.YtkacmgfehmjijaaGreatDoorOd2
import Derived.Test.YtkacmgfehmjijaaGreatDoorOd3
import Derived.Test.YtkacmgfehmjijaaGreatDoorOd4
import Derived.Test.YtkacmgfehmjijaaGreatDoorOd5
import Derived.Test.YtkacmgfehmjijaaGreatDoorOd6
import Derived.Test.YtkacmgfehmjijaaGreatDoorOd7
import Derived.Test.YtkacmgfehmjijaaGreatDoorOd8
import Derived.Test.YtkacmgfehmjijaaGreatDoorOd9
import Derived.Test.YtkacmgfehmjijaaGreatDoorOd10
namespace Go.Proofs.YtkacmgfehmjijaaGreatDoor.Rk
open Go.RowKit Go.Mir Go.Mir.Parts Dk Rol
open Frm (frame scan)
open Cut (Ls LsO)

def T0 : List RF := [⟨none, 0, none, 0⟩, ⟨none, 0, none, 0⟩, ⟨none, 0, none, 0⟩]
theorem rb_none (w : World) : Rb 0 w ⟨none, 0, none, 0⟩ FD.none := ⟨[], fun y _ =>
  ⟨Cut.own_bs (World.ownsRow_nil _ 0 _ _), ⟨Sl.nil _ _, fun _ h => (nomatch h), rfl⟩, fun i r s h => (nomatch h), ⟨rfl, trivial, fun u => Nat.le_refl _, Nat.le_refl _, fun s hs => (nomatch hs)⟩, Nat.zero_le _⟩⟩
theorem rdb_new (w : World) (room : Nat) (h : 1 ≤ room ∧ room ≤ 65536) : RDB w T0 (DD.new room) := by
  refine ⟨rfl, rfl, fun i t f a b => ?_, h, Nat.zero_le _, Nat.zero_le _⟩
  match i, a, b with
  | 0, a, b => cases a; cases b; exact ⟨rb_none w, nd_none⟩
  | 1, a, b => cases a; cases b; exact ⟨rb_none w, nd_none⟩
  | 2, a, b => cases a; cases b; exact ⟨rb_none w, nd_none⟩
  | i + 3, a, b => cases a
theorem built_rd (room : Nat) : Tryz.prog.built 37 [(1, .int .i64 (room : Int))] = some (rdA T0 (DD.new room)) := by kernel_rfl
theorem infoCase (n : Nat) (h : n = 2) : (Tryz.prog.info? 24).map (·.size) = some n := by subst h; kernel_rfl
theorem kr_of_kt {base : Nat} {a b : World} (h : KT base a b) : KR 0 a b := h.imp (fun k _ ⟨_, M, t, fr, hm, ht⟩ => ⟨M, t, fr, hm, by
  rcases ht with rfl | rfl
  · exact ⟨by decide, by decide⟩
  · exact ⟨by decide, by decide⟩⟩)
/-- what stands at the loop's head: the disk, its roll, the reference's disk in its box -/
structure LS (w1 : World) (db rb rg : Nat) (T : List RF) (d : DD) (wr : World) : Prop where
  dx : DX w1.heap.size db d wr
  rol : RolAt wr rb db 0
  box : wr.heap[rg]? = some (.cells (rdA T d) 37 (0, 0))
  rd : RDB wr T d
  low : Below w1.heap.size w1 wr
  at_ : w1.heap.size ≤ rg
theorem LS.put {w1 wr : World} {db rb rg : Nat} {T : List RF} {d : DD} {M : Array Value} (h1 : DX w1.heap.size db d wr) (h2 : RolAt wr rb db 0) (h3 : wr.heap[rg]? = some (.cells M 37 (0, 0))) (h4 : RDB wr T d) (h5 : Below w1.heap.size w1 wr) (h6 : w1.heap.size ≤ rg) : LS w1 db rb rg T d (wr.setRow rg (rdA T d)) := by
  have hne : rb ≠ rg := fun e => by
    have h2' : wr.heap[rb]? = _ := h2
    rw [e, h3] at h2'
    injection h2' with e1
    injection e1 with _ e2
    exact absurd e2 (by decide)
  refine ⟨h1.turn (turns_setRow wr rg _) (fun k M' t fr hk hm => ?_), ?_, setRow_heap _ _ _ _ _ _ h3, h4.put h3, below_setRow h5 h6 _, h6⟩
  · have hk' : k = rg := hk
    subst hk'
    rw [h3] at hm
    injection hm with e1
    injection e1 with _ e2
    subst e2
    exact ⟨by decide, by decide, by decide⟩
  · show (wr.setRow rg _).heap[rb]? = _
    rw [setRow_other _ _ _ _ hne]; exact h2
theorem LS.next {w1 wr y : World} {db rb rg : Nat} {T : List RF} {d : DD} (h : LS w1 db rb rg T d wr) (hb : Below wr.heap.size wr y) : LS w1 db rb rg T d y :=
  ⟨h.dx.below hb, h.rol.below hb, Below.keepOld hb h.box, h.rd.below hb, h.low.trans (hb.mono h.low.size), h.at_⟩
theorem open_new (room : Nat) : opnE (DD.new room) 0 = 0 := by
  have h1 : crashD [] (DD.new room) = DD.new room := rfl
  rw [← h1]
  exact open_crash (by show 0 < 3; omega) ⟨rfl, trivial, fun u => Nat.le_refl _, Nat.le_refl _, fun s hs => (nomatch hs)⟩ (Nat.zero_le _)
theorem bodies_pts {base db rb i : Nat} {d : DD} (w : World) (hE : Rdr.EType w) (h : DX base db d w) (hr : RolAt w rb db i) (hi : i < 3) :
    Calls Tryz.prog 21 #[.pointer (some ⟨rb, 0, none⟩)] w fun e w' => ∃ p c, e = .returned (.slice p (scan (fD d i).now).1.length c) ∧ Pts w' p (scan (fD d i).now).1.length c (scan (fD d i).now).1 ∧ Below w.heap.size w w' :=
  (bodies_any w hE h hr hi).mono fun e w' ⟨p, c, h1, h2, h3⟩ => by
    obtain ⟨p', c', e1, hp⟩ := h2.ls.sl
    cases e1
    exact ⟨p, c, h1, hp, h3⟩
theorem rbodies_pts {ts : List RF} {d : DD} (i : Nat) (hi : i < 3) (w : World) (h : RDB w ts d) :
    Calls Tryz.prog 22 #[.agg (rdA ts d), .int .i64 (i : Int)] w fun e w' => ∃ p c, e = .returned (.slice p (scan (fD d i).now).1.length c) ∧ Pts w' p (scan (fD d i).now).1.length c (scan (fD d i).now).1 ∧ Below w.heap.size w w' :=
  (rbodies_any ts d i hi w h).mono fun e w' ⟨v, h1, h2, h3⟩ => by
    obtain ⟨p', c', e1, hp⟩ := h2.ls.sl
    subst e1
    exact ⟨p', c', h1, hp, h3⟩
theorem ns1 (w : World) (x : Int) (hx : -9223372036854775808 ≤ x ∧ x ≤ 9223372036854775807) : Ns (w.alloc (.cells #[.int .i64 x] 3)) (some ⟨w.heap.size, 0, none⟩) [x].length 1 [x] :=
  ⟨row_sl1 (heap_alloc_last _ _), rfl, fun y hy => by rw [List.mem_singleton] at hy; rw [hy]; exact hx⟩
theorem rarm_ox (T : List RF) (d : DD) (n : Int) (w : World) (h : RDB w T d) (hn : n ≤ 9223372036854775807) :
    Calls Tryz.prog 16 #[.agg (rdA T d), .int .i64 n] w (CrOx ⟨d.fs, d.room, n.toNat, d.down⟩ w) :=
  (rarm_any T d n w h.n3 h.m3).mono fun e w' ⟨he, hb⟩ => ⟨T, he, (⟨h.n3, h.m3, h.each, h.room1, (show n.toNat ≤ _ by omega), h.used⟩ : RDB w T ⟨d.fs, d.room, n.toNat, d.down⟩).below hb, hb⟩
set_option maxRecDepth 100000 in
set_option maxHeartbeats 25600000 in
theorem law_does (room : Int) (p : Option Addr) (c : Nat) (os : List ROp) (rows : List (List Value)) (w : World) (hE : Rdr.EType w) (hO : ROps w p os.length c os rows) (hs : os.length + bsum os ≤ 4611686018427387904) :
    Calls Tryz.prog 3 #[.agg (caseA room p os.length c)] w fun e w' => e = .returned (.bool true) ∧ Below w.heap.size w w' := by
  have HB1 := Lib.hid (Below.allocs w (.cells (caseA room p os.length c) 24))
  have hrow : (w.alloc (.cells (caseA room p os.length c) 24)).heap[w.heap.size]? = some (.cells (caseA room p os.length c) 24 (0, 0)) := heap_alloc_last _ _
  have hc0 : (w.alloc (.cells (caseA room p os.length c) 24)).cell? ⟨w.heap.size, 0, none⟩ = some (.int .i64 room) := by rw [cell_of_row _ _ _ _ _ _ hrow]; rfl
  have HROW := Lib.hid hrow
  have HO := Lib.hid (hO.below HB1.out)
  have HE := Lib.hid (hE.below HB1.out hE.lt)
  have HSUM := Lib.hid hs
  clear hE hO hs hrow
  go_enter Tryz.func3, Tryz.ntmps3
  go_upto_region 1 with fail
  generalize w.alloc (.cells (caseA room p os.length c) 24) = w1 at *
  by_cases hroom : room < 1 ∨ 65536 < room
  · go_wp2_with fail
    refine (new_bad room w1 hroom).mono ?_
    rintro e w2 ⟨rfl, rfl⟩
    have hc1 : w1.cell? ⟨w.heap.size, 1, none⟩ = some (.slice p os.length c) := by rw [cell_of_row _ _ _ _ _ _ HROW.out]; rfl
    have HSM := Lib.hid (small20_any os p c rows w1 HO.out HSUM.out)
    generalize decide (os.length + bsum os ≤ 1000) = sb at *
    go_wp2_with fail
    refine HSM.out.mono ?_
    rintro e w3 ⟨rfl, hb3⟩
    have HA := Lib.hid (alive20_any w3 (HE.out.below hb3 HE.out.lt))
    have HB3 := Lib.hid (HB1.out.trans (hb3.mono HB1.out.size))
    cases sb with
    | true =>
      go_wp2_with fail
      refine HA.out.mono ?_
      rintro e w4 ⟨rfl, hb4⟩
      have HB4 := Lib.hid (HB3.out.trans (hb4.mono HB3.out.size))
      go_wp2_with fail
      go_ret
      exact ⟨rfl, HB4.out⟩
    | false =>
      go_wp2_with fail
      refine HA.out.mono ?_
      rintro e w4 ⟨rfl, hb4⟩
      have HB4 := Lib.hid (HB3.out.trans (hb4.mono HB3.out.size))
      go_wp2_with fail
      go_ret
      exact ⟨rfl, HB4.out⟩
  · obtain ⟨R, rfl⟩ : ∃ R : Nat, room = (R : Int) := ⟨room.toNat, by omega⟩
    have hR : 1 ≤ R ∧ R ≤ 65536 := by omega
    have HRB := Lib.hid hR
    clear hroom
    go_wp2_with fail
    refine (xnew R w1 hR).mono ?_
    rintro e w2 ⟨db, rfl, hd2, hb2⟩
    have HW2 := Lib.hid hb2
    have HX2 := Lib.hid hd2
    have hc1 : w2.cell? ⟨w.heap.size, 1, none⟩ = some (.slice p os.length c) := by rw [cell_of_row _ _ _ _ _ _ (Below.keepOld hb2 HROW.out)]; rfl
    have HSM := Lib.hid (small20_any os p c rows w2 (HO.out.below hb2) HSUM.out)
    clear hd2 hb2 hc0 hR
    go_wp2_with fail
    refine HSM.out.mono ?_
    rintro e w3 ⟨rfl, hb3⟩
    have HW3 := Lib.hid (HW2.out.trans (hb3.mono HW2.out.size))
    have HX3 := Lib.hid (HX2.out.below hb3)
    clear hb3 HX2 HW2 HSM hc1
    by_cases hsm : os.length + bsum os ≤ 1000
    rotate_left
    · have hq : decide (os.length + bsum os ≤ 1000) = false := decide_eq_false hsm
      rw [hq]
      have HA := Lib.hid (alive20_any w3 (HE.out.below HW3.out HE.out.lt))
      clear hsm hq
      go_wp2_with fail
      refine HA.out.mono ?_
      rintro e w4 ⟨rfl, hb4⟩
      have HB4 := Lib.hid (HB1.out.trans ((HW3.out.trans (hb4.mono HW3.out.size)).mono HB1.out.size))
      go_wp2_with fail
      go_ret
      exact ⟨rfl, HB4.out⟩
    have hq : decide (os.length + bsum os ≤ 1000) = true := decide_eq_true hsm
    rw [hq]
    have HSL := Lib.hid hsm
    clear hsm hq
    have hc0 : w3.cell? ⟨w.heap.size, 0, none⟩ = some (.int .i64 (R : Int)) := by rw [cell_of_row _ _ _ _ _ _ (Below.keepOld HW3.out HROW.out)]; rfl
    have hz := zeroD
    go_upto_region 4 with fail
    go_upto_region 5 with (first
      | refine Rdr.wpList_build rfl 37 _ rfl [(1, .int .i64 (R : Int))] rfl _ (built_rd R) ?_
      | refine wpList_store_row rfl 37 _ _ rfl w3.heap.size (rdA T0 (DD.new R)) rfl rfl 37 zD (heap_alloc_last _ _) (infoRD _ (rdA_size (ts := T0) (d := DD.new R) rfl rfl)) (by rw [rdA_size (ts := T0) (d := DD.new R) rfl rfl]; rfl) (rdA_one (ts := T0) (d := DD.new R) rfl rfl) ?_)
    try simp only [Act.put, List.setIfInBounds_toArray, List.set_cons_zero, List.set_cons_succ]
    clear hc0
    have hb4 : Below w3.heap.size w3 ((w3.alloc (.cells zD 37)).setRow w3.heap.size (rdA T0 (DD.new R))) := below_setRow (Below.allocs w3 _) (Nat.le_refl _) _
    have hrw : ((w3.alloc (.cells zD 37)).setRow w3.heap.size (rdA T0 (DD.new R))).heap[w3.heap.size]? = some (.cells (rdA T0 (DD.new R)) 37 (0, 0)) := setRow_heap _ _ _ _ _ _ (heap_alloc_last w3 _)
    have HX4 := Lib.hid (HX3.out.below hb4)
    have HW4 := Lib.hid (HW3.out.trans (hb4.mono HW3.out.size))
    have HK4 := Lib.hid hrw
    have HG4 : Hid (w1.heap.size ≤ w3.heap.size) := HW3.out.size
    have HRD4 := Lib.hid (rdb_new ((w3.alloc (.cells zD 37)).setRow w3.heap.size (rdA T0 (DD.new R))) R HRB.out)
    clear hb4 hrw HX3 HW3
    generalize (w3.alloc (.cells zD 37)).setRow w3.heap.size (rdA T0 (DD.new R)) = w4 at *
    generalize w3.heap.size = rg at *
    clear w3
    have h3f : (fD (DD.new R) 0).steps.length + 1 ≤ 4398046511104 := by show 0 + 1 ≤ _; omega
    have HOP := Lib.hid (open_any w4 (HE.out.below HW4.out HE.out.lt) HX4.out (i := 0) (by omega) h3f)
    have HON := Lib.hid (open_new R)
    clear h3f
    go_wp2_with fail
    refine HOP.out.mono ?_
    rintro e w5 ⟨hx5, hk5, hsay⟩
    obtain ⟨rb, he, hrl⟩ : ∃ rb, e = .returned (.tuple #[.pointer (some ⟨rb, 0, none⟩), .int .i64 0]) ∧ RolAt w5 rb db 0 := by
      rcases hsay with ⟨_, h⟩ | ⟨h, _⟩
      · exact h
      · exact absurd HON.out h
    subst he
    have HX5 := Lib.hid hx5
    have HRL5 := Lib.hid hrl
    have HW5 := Lib.hid (HW4.out.trans (hk5.below HW4.out.size))
    have HK5 := Lib.hid (hk5.row HK4.out (by decide) (by decide))
    have HRD5 := Lib.hid (HRD4.out.step (kr_of_kt hk5))
    have HRO := Lib.hid (ropen_any T0 (DD.new R) 0 (by omega) w5 HRD5.out (Nat.zero_le _) (by show 0 + 1 ≤ _; omega))
    rw [HON.out] at HRO
    have hfd : FewD (opnD (DD.new R) 0) 1 := FewD.opn (N := 0) (fun f hf => by
      have : f = FD.none := by simpa [DD.new] using hf
      subst this; exact Nat.zero_le _) 0
    have HFD := Lib.hid hfd
    clear hsay hx5 hk5 hrl HX4 HW4 HK4 HRD4 HOP hfd
    generalize opnD (DD.new R) 0 = D0 at *
    go_wp2_with (refine wpList_load_row rfl 37 _ rfl rg rfl 37 (rdA T0 (DD.new R)) (0, 0) _ HK5.out Tryz.underlying37 rfl (infoRD _ (rdA_size (ts := T0) (d := DD.new R) rfl rfl)) ?_)
    refine HRO.out.mono ?_
    rintro e w6 ⟨T1, rfl, hrd, hb6⟩
    have HX6 := Lib.hid (HX5.out.below hb6)
    have HRL6 := Lib.hid (HRL5.out.below hb6)
    have HW6 := Lib.hid (HW5.out.trans (hb6.mono HW5.out.size))
    have HK6 := Lib.hid (Below.keepOld hb6 HK5.out)
    have HRD6 := Lib.hid hrd
    clear hrd hb6 HX5 HRL5 HW5 HK5 HRD5 HRO HON
    go_upto_region 7 with (refine wpList_store_row rfl 37 _ _ rfl rg (rdA T1 D0) rfl rfl 37 (rdA T0 (DD.new R)) HK6.out (infoRD _ (rdA_size HRD6.out.n3 HRD6.out.m3)) (by rw [rdA_size HRD6.out.n3 HRD6.out.m3, rdA_size (ts := T0) (d := DD.new R) rfl rfl]) (rdA_one HRD6.out.n3 HRD6.out.m3) ?_)
    try simp only [Act.put, List.setIfInBounds_toArray, List.set_cons_zero, List.set_cons_succ]
    have HLS := Lib.hid (LS.put HX6.out HRL6.out HK6.out HRD6.out HW6.out HG4.out)
    clear HX6 HRL6 HK6 HRD6 HW6
    generalize w6.setRow rg (rdA T1 D0) = w7 at *
    have hc1 : w7.cell? ⟨w.heap.size, 1, none⟩ = some (.slice p os.length c) := by rw [cell_of_row _ _ _ _ _ _ (Below.keepOld HLS.out.low HROW.out)]; rfl
    have hle := HO.out.rs.sl.le
    have hmax := HO.out.rs.sl.max
    go_upto_region 9 with fail
    go_wp2_with fail
    obtain ⟨Z, hzo, hZ⟩ := zROp
    have HZZ := Lib.hid hZ
    clear hc1 hZ
    go_loopw [6, 7, 8, 10, 49] (fun r e f ob j wr => ∃ k : Nat, k ≤ os.length ∧ j = .int .i64 k ∧ ∃ rb T d, r = .pointer (some ⟨rb, 0, none⟩) ∧ LS w1 db rb rg T d wr ∧ FewD d (k + 1)) (fun _ _ _ _ j _ => os.length - (intOf j).toNat)
    case atStart => exact ⟨0, by omega, rfl, rb, T1, D0, rfl, HLS.out, HFD.out⟩
    case round =>
      clear HLS HFD
      obtain ⟨k, hk, rfl, rb, T, d, rfl, hls, hfd⟩ := hrel
      have HLS := Lib.hid hls
      have HFD := Lib.hid hfd
      clear hls hfd
      by_cases hlt : k < os.length
      · have hd : decide ((k : Int) < (os.length : Int)) = true := decide_eq_true (by omega)
        have hd2 : decide (k < os.length) = true := decide_eq_true hlt
        obtain ⟨b, o, rfl⟩ := HO.out.rs.sl.addr (by omega) (by omega)
        obtain ⟨pb, cb, hbs, hrg⟩ := HO.out.at k hlt
        have hnb : (os[k]).n ≤ 9223372036854775807 := by
          have hkr : k < rows.length := by rw [HO.out.rs.count, ← HO.out.count]; exact hlt
          exact (HO.out.each k _ _ (List.getElem?_eq_getElem hkr) (List.getElem?_eq_getElem hlt)).nB.2
        have hnl : -9223372036854775808 ≤ (os[k]).n := by
          have hkr : k < rows.length := by rw [HO.out.rs.count, ← HO.out.count]; exact hlt
          exact (HO.out.each k _ _ (List.getElem?_eq_getElem hkr) (List.getElem?_eq_getElem hlt)).nB.1
        have HNB := Lib.hid (And.intro hnl hnb)
        clear hnl hnb
        have HRG := Lib.hid (range_below hrg HLS.out.low)
        have hbl : (os[k]).b.length ≤ 1000 := by have h1 := bsum_mem (List.getElem_mem hlt); have h2 := HSL.out; omega
        have HBS := Lib.hid hbs
        clear hbs hrg
        generalize os[k] = oo at *
        obtain ⟨A, hA⟩ : ∃ A, A = ropA oo pb cb := ⟨_, rfl⟩
        have HOS : Hid (A.size = 3) := by show _ = _; rw [hA]; rfl
        have HOO : Hid (A.all (·.oneCell') = true) := by show _ = _; rw [hA]; exact ropA_one _ _ _
        have HOL : Hid (A.toList.length = 3) := by show _ = _; rw [Array.length_toList]; exact HOS.out
        have HNW := Lib.hid (box_new wr Z 44)
        have hbr := box_row wr Z A 44
        have HBB := Lib.hid (box_below wr Z A 44)
        have HLS2 := Lib.hid (HLS.out.next HBB.out)
        have HBR := Lib.hid hbr
        have HAE := Lib.hid hA
        rw [hA] at hbr
        obtain ⟨hk0, hk1, hk2⟩ := ropA_cell hbr
        rw [← hA] at hk0 hk1 hk2 HRG
        clear hbr hA
        go_upto_region 14 with (first
          | ((with_reducible refine wpAt 52 ?_); refine wpList_load_mid rfl 44 _ rfl b (o + k * 3) rfl A.toList _ HRG.out Tryz.underlying44 rfl (infoROp _ HOL.out) ?_)
          | ((with_reducible refine wpStoreAt 10 ?_); refine wpList_store_row rfl 44 _ _ rfl wr.heap.size A rfl rfl 44 Z HNW.out (infoROp _ HOS.out) (HZZ.out.trans HOS.out.symm) HOO.out ?_))
        generalize (wr.alloc (.cells Z 44)).setRow wr.heap.size A = w8 at *
        clear HRG HNW HBB HOS HOO HOL
        by_cases kother : ¬ oo.kind = 0 ∧ ¬ oo.kind = 1 ∧ ¬ oo.kind = 2 ∧ ¬ oo.kind = 3 ∧ ¬ oo.kind = 4
        · obtain ⟨n0, n1, n2, n3, n4⟩ := kother
          have m0 : (oo.kind == 0) = false := beq_eq_false_iff_ne.2 n0
          have m1 : (oo.kind == 1) = false := beq_eq_false_iff_ne.2 n1
          have m2 : (oo.kind == 2) = false := beq_eq_false_iff_ne.2 n2
          have m3 : (oo.kind == 3) = false := beq_eq_false_iff_ne.2 n3
          have m4 : (oo.kind == 4) = false := beq_eq_false_iff_ne.2 n4
          clear n0 n1 n2 n3 n4
          have HFD2 : Hid (FewD d (k + 1 + 1)) := HFD.out.mono (by omega)
          go_upto_region 33 with fail
          skip
          -- all is compared: world w8, HLS2 : Hid (LS w1 db rb rg T d w8), the answers 0 and 0
          have HLA : Hid (∀ w', Below w8.heap.size w8 w' → w'.rangeAt rg 0 (rdA T d).toList) := fun w' hb => row_rangeR (Below.keepOld hb HLS2.out.box)
          have HEY : Hid (∀ w', Below w8.heap.size w8 w' → Rdr.EType w') := fun w' hb => HE.out.below (HLS2.out.low.trans (hb.mono HLS2.out.low.size)) HE.out.lt
          have hqe : ((0 : Int) == 0) = true := beq_self_eq_true _
          have hql : (((scan (fD d 0).now).1.length : Int) == ((scan (fD d 0).now).1.length : Int)) = true := beq_self_eq_true _
          have hqn : (((fD d 0).now.length : Int) == ((fD d 0).now.length : Int)) = true := beq_self_eq_true _
          have hqs : ((scan (fD d 0).now).1 == (scan (fD d 0).now).1) = true := beq_self_eq_true _
          refine wp_region_eager [(0, true), (1, true), (2, true), (3, true), (4, true), (5, true), (6, false), (7, true), (8, true), (9, true), (10, true), (12, true), (11, false), (13, false), (14, false), (15, true), (16, true), (17, true), (18, true), (20, true), (19, false), (21, false), (22, true), (23, true), (24, true), (25, true), (26, true), (28, true), (27, false), (29, false), (30, true), (31, true)] (by kernel_rfl) (by kernel_rfl) (eagerOpen rfl ?_)
          have hy0 : Below w8.heap.size w8 w8.drew := below_drew1 _ _
          repeat (first
            | ((with_reducible refine eagerLoadAt 5 ?_); refine wpEager_load (by rfl) 37 _ rfl rg 0 rfl (rdA T d) _ (fun w' hb => HLA.out w' hb) Tryz.underlying37 rfl (infoRD _ (rdA_size HLS2.out.rd.n3 HLS2.out.rd.m3)) ?_; (try simp only [Act.put, List.setIfInBounds_toArray, List.set_cons_zero, List.set_cons_succ]); (try refine eagerOpen rfl ?_))
            | (first | (apply wpEager_take; (· rfl); (· (intro w' hb'; go_simp; try with_reducible rfl)); (try simp only [Act.put, List.setIfInBounds_toArray, List.set_cons_zero, List.set_cons_succ]); (try refine eagerOpen rfl ?_)) | (refine wpEager_skip (by rfl) ?_; (try simp only [Act.put, List.setIfInBounds_toArray, List.set_cons_zero, List.set_cons_succ]); (try refine eagerOpen rfl ?_)) | (refine wpEager_off (by rfl) ?_; (try simp only [Act.put, List.setIfInBounds_toArray, List.set_cons_zero, List.set_cons_succ]); (try refine eagerOpen rfl ?_))))
          (refine wpEager_op (by rfl) (fun K hK => ?_); go_simp; (refine (like20_any _ (HLS2.out.dx.below hy0) (HLS2.out.rd.below hy0)).mono ?_; rintro e y1 ⟨rfl, hb⟩; have hy1 := hy0.trans hb; clear hb); refine Shut.out hK _ _ (by assumption) ?_; clear hK K; (try simp only [Act.put, List.setIfInBounds_toArray, List.set_cons_zero, List.set_cons_succ]); (try refine eagerOpen rfl ?_))
          repeat (first
            | ((with_reducible refine eagerLoadAt 5 ?_); refine wpEager_load (by rfl) 37 _ rfl rg 0 rfl (rdA T d) _ (fun w' hb => HLA.out w' hb) Tryz.underlying37 rfl (infoRD _ (rdA_size HLS2.out.rd.n3 HLS2.out.rd.m3)) ?_; (try simp only [Act.put, List.setIfInBounds_toArray, List.set_cons_zero, List.set_cons_succ]); (try refine eagerOpen rfl ?_))
            | (first | (apply wpEager_take; (· rfl); (· (intro w' hb'; go_simp; try with_reducible rfl)); (try simp only [Act.put, List.setIfInBounds_toArray, List.set_cons_zero, List.set_cons_succ]); (try refine eagerOpen rfl ?_)) | (refine wpEager_skip (by rfl) ?_; (try simp only [Act.put, List.setIfInBounds_toArray, List.set_cons_zero, List.set_cons_succ]); (try refine eagerOpen rfl ?_)) | (refine wpEager_off (by rfl) ?_; (try simp only [Act.put, List.setIfInBounds_toArray, List.set_cons_zero, List.set_cons_succ]); (try refine eagerOpen rfl ?_))))
          (refine wpEager_op (by rfl) (fun K hK => ?_); go_simp; (refine (bodies_pts _ (HEY.out _ hy1) (HLS2.out.dx.below hy1) (HLS2.out.rol.below hy1) (by omega)).mono ?_; rintro e y2 ⟨pa, ca, rfl, hpa, hb⟩; have hy2 := hy1.trans (hb.mono hy1.size); clear hb); refine Shut.out hK _ _ (by assumption) ?_; clear hK K; (try simp only [Act.put, List.setIfInBounds_toArray, List.set_cons_zero, List.set_cons_succ]); (try refine eagerOpen rfl ?_))
          repeat (first
            | ((with_reducible refine eagerLoadAt 5 ?_); refine wpEager_load (by rfl) 37 _ rfl rg 0 rfl (rdA T d) _ (fun w' hb => HLA.out w' hb) Tryz.underlying37 rfl (infoRD _ (rdA_size HLS2.out.rd.n3 HLS2.out.rd.m3)) ?_; (try simp only [Act.put, List.setIfInBounds_toArray, List.set_cons_zero, List.set_cons_succ]); (try refine eagerOpen rfl ?_))
            | (first | (apply wpEager_take; (· rfl); (· (intro w' hb'; go_simp; try with_reducible rfl)); (try simp only [Act.put, List.setIfInBounds_toArray, List.set_cons_zero, List.set_cons_succ]); (try refine eagerOpen rfl ?_)) | (refine wpEager_skip (by rfl) ?_; (try simp only [Act.put, List.setIfInBounds_toArray, List.set_cons_zero, List.set_cons_succ]); (try refine eagerOpen rfl ?_)) | (refine wpEager_off (by rfl) ?_; (try simp only [Act.put, List.setIfInBounds_toArray, List.set_cons_zero, List.set_cons_succ]); (try refine eagerOpen rfl ?_))))
          (refine wpEager_op (by rfl) (fun K hK => ?_); go_simp; (refine (rbodies_pts 0 (by omega) _ (HLS2.out.rd.below hy2)).mono ?_; rintro e y3 ⟨pb3, cb3, rfl, hpb, hb⟩; have hpa3 := hpa.below hb; have hy3 := hy2.trans (hb.mono hy2.size); clear hb hpa); refine Shut.out hK _ _ (by assumption) ?_; clear hK K; (try simp only [Act.put, List.setIfInBounds_toArray, List.set_cons_zero, List.set_cons_succ]); (try refine eagerOpen rfl ?_))
          repeat (first
            | ((with_reducible refine eagerLoadAt 5 ?_); refine wpEager_load (by rfl) 37 _ rfl rg 0 rfl (rdA T d) _ (fun w' hb => HLA.out w' hb) Tryz.underlying37 rfl (infoRD _ (rdA_size HLS2.out.rd.n3 HLS2.out.rd.m3)) ?_; (try simp only [Act.put, List.setIfInBounds_toArray, List.set_cons_zero, List.set_cons_succ]); (try refine eagerOpen rfl ?_))
            | (first | (apply wpEager_take; (· rfl); (· (intro w' hb'; go_simp; try with_reducible rfl)); (try simp only [Act.put, List.setIfInBounds_toArray, List.set_cons_zero, List.set_cons_succ]); (try refine eagerOpen rfl ?_)) | (refine wpEager_skip (by rfl) ?_; (try simp only [Act.put, List.setIfInBounds_toArray, List.set_cons_zero, List.set_cons_succ]); (try refine eagerOpen rfl ?_)) | (refine wpEager_off (by rfl) ?_; (try simp only [Act.put, List.setIfInBounds_toArray, List.set_cons_zero, List.set_cons_succ]); (try refine eagerOpen rfl ?_))))
          (refine wpEager_op (by rfl) (fun K hK => ?_); go_simp; (refine (Frm.same_any _ _ _ _ _ _ _ _ _ hpa3 hpb).mono ?_; rw [hqs]; rintro e y4 ⟨rfl, hb⟩; have hy4 := hy3.trans (hb.mono hy3.size); clear hb hpa3 hpb); refine Shut.out hK _ _ (by assumption) ?_; clear hK K; (try simp only [Act.put, List.setIfInBounds_toArray, List.set_cons_zero, List.set_cons_succ]); (try refine eagerOpen rfl ?_))
          repeat (first
            | ((with_reducible refine eagerLoadAt 5 ?_); refine wpEager_load (by rfl) 37 _ rfl rg 0 rfl (rdA T d) _ (fun w' hb => HLA.out w' hb) Tryz.underlying37 rfl (infoRD _ (rdA_size HLS2.out.rd.n3 HLS2.out.rd.m3)) ?_; (try simp only [Act.put, List.setIfInBounds_toArray, List.set_cons_zero, List.set_cons_succ]); (try refine eagerOpen rfl ?_))
            | (first | (apply wpEager_take; (· rfl); (· (intro w' hb'; go_simp; try with_reducible rfl)); (try simp only [Act.put, List.setIfInBounds_toArray, List.set_cons_zero, List.set_cons_succ]); (try refine eagerOpen rfl ?_)) | (refine wpEager_skip (by rfl) ?_; (try simp only [Act.put, List.setIfInBounds_toArray, List.set_cons_zero, List.set_cons_succ]); (try refine eagerOpen rfl ?_)) | (refine wpEager_off (by rfl) ?_; (try simp only [Act.put, List.setIfInBounds_toArray, List.set_cons_zero, List.set_cons_succ]); (try refine eagerOpen rfl ?_))))
          (refine wpEager_op (by rfl) (fun K hK => ?_); go_simp; (refine (len_any _ (HEY.out _ hy4) (HLS2.out.dx.below hy4) (HLS2.out.rol.below hy4) (by omega)).mono ?_; rintro e y5 ⟨rfl, hb⟩; have hy5 := hy4.trans (hb.mono hy4.size); clear hb); refine Shut.out hK _ _ (by assumption) ?_; clear hK K; (try simp only [Act.put, List.setIfInBounds_toArray, List.set_cons_zero, List.set_cons_succ]); (try refine eagerOpen rfl ?_))
          repeat (first
            | ((with_reducible refine eagerLoadAt 5 ?_); refine wpEager_load (by rfl) 37 _ rfl rg 0 rfl (rdA T d) _ (fun w' hb => HLA.out w' hb) Tryz.underlying37 rfl (infoRD _ (rdA_size HLS2.out.rd.n3 HLS2.out.rd.m3)) ?_; (try simp only [Act.put, List.setIfInBounds_toArray, List.set_cons_zero, List.set_cons_succ]); (try refine eagerOpen rfl ?_))
            | (first | (apply wpEager_take; (· rfl); (· (intro w' hb'; go_simp; try with_reducible rfl)); (try simp only [Act.put, List.setIfInBounds_toArray, List.set_cons_zero, List.set_cons_succ]); (try refine eagerOpen rfl ?_)) | (refine wpEager_skip (by rfl) ?_; (try simp only [Act.put, List.setIfInBounds_toArray, List.set_cons_zero, List.set_cons_succ]); (try refine eagerOpen rfl ?_)) | (refine wpEager_off (by rfl) ?_; (try simp only [Act.put, List.setIfInBounds_toArray, List.set_cons_zero, List.set_cons_succ]); (try refine eagerOpen rfl ?_))))
          (refine wpEager_op (by rfl) (fun K hK => ?_); go_simp; (refine (rbodies_pts 0 (by omega) _ (HLS2.out.rd.below hy5)).mono ?_; rintro e y6 ⟨pb6, cb6, rfl, _, hb⟩; have hy6 := hy5.trans (hb.mono hy5.size); clear hb); refine Shut.out hK _ _ (by assumption) ?_; clear hK K; (try simp only [Act.put, List.setIfInBounds_toArray, List.set_cons_zero, List.set_cons_succ]); (try refine eagerOpen rfl ?_))
          repeat (first
            | ((with_reducible refine eagerLoadAt 5 ?_); refine wpEager_load (by rfl) 37 _ rfl rg 0 rfl (rdA T d) _ (fun w' hb => HLA.out w' hb) Tryz.underlying37 rfl (infoRD _ (rdA_size HLS2.out.rd.n3 HLS2.out.rd.m3)) ?_; (try simp only [Act.put, List.setIfInBounds_toArray, List.set_cons_zero, List.set_cons_succ]); (try refine eagerOpen rfl ?_))
            | (first | (apply wpEager_take; (· rfl); (· (intro w' hb'; go_simp; try with_reducible rfl)); (try simp only [Act.put, List.setIfInBounds_toArray, List.set_cons_zero, List.set_cons_succ]); (try refine eagerOpen rfl ?_)) | (refine wpEager_skip (by rfl) ?_; (try simp only [Act.put, List.setIfInBounds_toArray, List.set_cons_zero, List.set_cons_succ]); (try refine eagerOpen rfl ?_)) | (refine wpEager_off (by rfl) ?_; (try simp only [Act.put, List.setIfInBounds_toArray, List.set_cons_zero, List.set_cons_succ]); (try refine eagerOpen rfl ?_))))
          (refine wpEager_op (by rfl) (fun K hK => ?_); go_simp; (refine (size_any _ (HLS2.out.dx.below hy6) (HLS2.out.rol.below hy6) (by omega)).mono ?_; rintro e y7 ⟨rfl, hb⟩; have hy7 := hy6.trans (hb.mono hy6.size); clear hb); refine Shut.out hK _ _ (by assumption) ?_; clear hK K; (try simp only [Act.put, List.setIfInBounds_toArray, List.set_cons_zero, List.set_cons_succ]); (try refine eagerOpen rfl ?_))
          repeat (first
            | ((with_reducible refine eagerLoadAt 5 ?_); refine wpEager_load (by rfl) 37 _ rfl rg 0 rfl (rdA T d) _ (fun w' hb => HLA.out w' hb) Tryz.underlying37 rfl (infoRD _ (rdA_size HLS2.out.rd.n3 HLS2.out.rd.m3)) ?_; (try simp only [Act.put, List.setIfInBounds_toArray, List.set_cons_zero, List.set_cons_succ]); (try refine eagerOpen rfl ?_))
            | (first | (apply wpEager_take; (· rfl); (· (intro w' hb'; go_simp; try with_reducible rfl)); (try simp only [Act.put, List.setIfInBounds_toArray, List.set_cons_zero, List.set_cons_succ]); (try refine eagerOpen rfl ?_)) | (refine wpEager_skip (by rfl) ?_; (try simp only [Act.put, List.setIfInBounds_toArray, List.set_cons_zero, List.set_cons_succ]); (try refine eagerOpen rfl ?_)) | (refine wpEager_off (by rfl) ?_; (try simp only [Act.put, List.setIfInBounds_toArray, List.set_cons_zero, List.set_cons_succ]); (try refine eagerOpen rfl ?_))))
          (refine wpEager_op (by rfl) (fun K hK => ?_); go_simp; (refine (xsize _ (HLS2.out.dx.below hy7) 0 (by omega)).mono ?_; rintro e y8 ⟨rfl, hb⟩; have hy8 := hy7.trans (hb.mono hy7.size); clear hb); refine Shut.out hK _ _ (by assumption) ?_; clear hK K; (try simp only [Act.put, List.setIfInBounds_toArray, List.set_cons_zero, List.set_cons_succ]); (try refine eagerOpen rfl ?_))
          repeat (first
            | ((with_reducible refine eagerLoadAt 5 ?_); refine wpEager_load (by rfl) 37 _ rfl rg 0 rfl (rdA T d) _ (fun w' hb => HLA.out w' hb) Tryz.underlying37 rfl (infoRD _ (rdA_size HLS2.out.rd.n3 HLS2.out.rd.m3)) ?_; (try simp only [Act.put, List.setIfInBounds_toArray, List.set_cons_zero, List.set_cons_succ]); (try refine eagerOpen rfl ?_))
            | (first | (apply wpEager_take; (· rfl); (· (intro w' hb'; go_simp; try with_reducible rfl)); (try simp only [Act.put, List.setIfInBounds_toArray, List.set_cons_zero, List.set_cons_succ]); (try refine eagerOpen rfl ?_)) | (refine wpEager_skip (by rfl) ?_; (try simp only [Act.put, List.setIfInBounds_toArray, List.set_cons_zero, List.set_cons_succ]); (try refine eagerOpen rfl ?_)) | (refine wpEager_off (by rfl) ?_; (try simp only [Act.put, List.setIfInBounds_toArray, List.set_cons_zero, List.set_cons_succ]); (try refine eagerOpen rfl ?_))))
          refine eagerEnd ?_
          have HLE := Lib.hid (HLS2.out.next hy8)
          clear hy0 hy1 hy2 hy3 hy4 hy5 hy6 hy7 hy8 HLA HEY
          go_wp2_with fail
          go_roundw
          case rel => exact ⟨k + 1, by omega, by go_num, _, _, _, rfl, HLE.out, HFD2.out⟩
          case measure => simp [intOf]; omega
        · by_cases n0 : oo.kind = 0
          · have m0 : (oo.kind == 0) = true := beq_iff_eq.2 n0
            clear n0 kother
            skip
            -- a call both ways: regions 15 and 16; append_any w8 HLS2.out.dx HLS2.out.rol (by omega) pb oo.b.length cb oo.b hbs8 (by omega) (by omega), rapp_any T d 0 (by omega) pb oo.b cb wA hrd hur hbsA (by omega) (by omega) the calls; appD d 0 oo.b, appE d 0 oo.b what they leave
            have hlen : k < 1000 := by have := HSL.out; omega
            have hf0 : (fD d 0).steps.length ≤ k + 1 := HFD.out.fd
            have hbs8 := HBS.out.below HLS2.out.low
            clear hk0 hk1
            go_upto_region 15 with fail
            go_wp2_with fail
            refine (append_any w8 HLS2.out.dx HLS2.out.rol (by omega) pb oo.b.length cb oo.b hbs8 (by omega) (by omega)).mono ?_
            rintro e wA ⟨rfl, hdx, hkt⟩
            have hlo := HLS2.out.low.trans (hkt.below HLS2.out.low.size)
            have hro := HLS2.out.rol.kt hkt
            have hbx := hkt.row HLS2.out.box (by decide) (by decide)
            have hrd := HLS2.out.rd.step (kr_of_kt hkt)
            have hbr := hkt.row HBR.out (by decide) (by decide)
            have hur := HLS2.out.dx.room.2.2
            have hag := HLS2.out.at_
            clear hk2 hbs8
            rw [HAE.out] at hbr
            obtain ⟨hk0, hk1, hk2⟩ := ropA_cell hbr
            have hbsA := HBS.out.below hlo
            have HC2 := Lib.hid (rapp_any T d 0 (by omega) pb oo.b cb wA hrd hur hbsA (by omega) (by omega))
            have HDX := Lib.hid hdx
            have HLO := Lib.hid hlo
            have HRO := Lib.hid hro
            have HBX := Lib.hid hbx
            have HRD := Lib.hid hrd
            have HAG := Lib.hid hag
            clear hdx hkt hlo hro hbx hrd hbr hur hag hbsA HLS2 HBR hf0 hlen
            go_upto_region 16 with fail
            go_wp2_with (refine wpList_load_row rfl 37 _ rfl rg rfl 37 (rdA T d) (0, 0) _ HBX.out Tryz.underlying37 rfl (infoRD _ (rdA_size HRD.out.n3 HRD.out.m3)) ?_)
            refine HC2.out.mono ?_
            rintro e wB ⟨TN, rfl, hrd2, hb2⟩
            have HDX2 := Lib.hid (HDX.out.below hb2)
            have HLO2 := Lib.hid (HLO.out.trans (hb2.mono HLO.out.size))
            have HRO2 := Lib.hid (HRO.out.below hb2)
            have HBX2 := Lib.hid (Below.keepOld hb2 HBX.out)
            have HRD2 := Lib.hid hrd2
            have HN3 := Lib.hid HRD.out.n3
            have HM3 := Lib.hid HRD.out.m3
            clear hk0 hk1 hk2 hrd2 hb2 HDX HLO HRO HBX HRD HC2
            have HFD2 : Hid (FewD (appD d 0 oo.b) (k + 1 + 1)) := HFD.out.app 0 oo.b
            obtain ⟨DM, hDM⟩ : ∃ DM, (appD d 0 oo.b) = DM := ⟨_, rfl⟩
            obtain ⟨EM, hEM⟩ : ∃ EM, (appE d 0 oo.b) = EM := ⟨_, rfl⟩
            rw [hDM] at HDX2 HRD2 HFD2 ⊢
            rw [hEM]
            clear hDM hEM
            go_upto_region 33 with (refine wpList_store_row rfl 37 _ _ rfl rg (rdA TN DM) rfl rfl 37 (rdA T d) HBX2.out (infoRD _ (rdA_size HRD2.out.n3 HRD2.out.m3)) (by rw [rdA_size HRD2.out.n3 HRD2.out.m3, rdA_size HN3.out HM3.out]) (rdA_one HRD2.out.n3 HRD2.out.m3) ?_)
            try simp only [Act.put, List.setIfInBounds_toArray, List.set_cons_zero, List.set_cons_succ]
            have HLS3 := Lib.hid (LS.put HDX2.out HRO2.out HBX2.out HRD2.out HLO2.out HAG.out)
            clear HDX2 HRO2 HBX2 HRD2 HLO2 HAG
            generalize wB.setRow rg (rdA TN DM) = wC at *
            skip
            -- all is compared: world wC, HLS3 : Hid (LS w1 db rb rg TN DM wC), the answers EM and EM
            have HLA : Hid (∀ w', Below wC.heap.size wC w' → w'.rangeAt rg 0 (rdA TN DM).toList) := fun w' hb => row_rangeR (Below.keepOld hb HLS3.out.box)
            have HEY : Hid (∀ w', Below wC.heap.size wC w' → Rdr.EType w') := fun w' hb => HE.out.below (HLS3.out.low.trans (hb.mono HLS3.out.low.size)) HE.out.lt
            have hqe : ((EM : Int) == EM) = true := beq_self_eq_true _
            have hql : (((scan (fD DM 0).now).1.length : Int) == ((scan (fD DM 0).now).1.length : Int)) = true := beq_self_eq_true _
            have hqn : (((fD DM 0).now.length : Int) == ((fD DM 0).now.length : Int)) = true := beq_self_eq_true _
            have hqs : ((scan (fD DM 0).now).1 == (scan (fD DM 0).now).1) = true := beq_self_eq_true _
            refine wp_region_eager [(0, true), (1, true), (2, true), (3, true), (4, true), (5, true), (6, false), (7, true), (8, true), (9, true), (10, true), (12, true), (11, false), (13, false), (14, false), (15, true), (16, true), (17, true), (18, true), (20, true), (19, false), (21, false), (22, true), (23, true), (24, true), (25, true), (26, true), (28, true), (27, false), (29, false), (30, true), (31, true)] (by kernel_rfl) (by kernel_rfl) (eagerOpen rfl ?_)
            have hy0 : Below wC.heap.size wC wC.drew := below_drew1 _ _
            repeat (first
              | ((with_reducible refine eagerLoadAt 5 ?_); refine wpEager_load (by rfl) 37 _ rfl rg 0 rfl (rdA TN DM) _ (fun w' hb => HLA.out w' hb) Tryz.underlying37 rfl (infoRD _ (rdA_size HLS3.out.rd.n3 HLS3.out.rd.m3)) ?_; (try simp only [Act.put, List.setIfInBounds_toArray, List.set_cons_zero, List.set_cons_succ]); (try refine eagerOpen rfl ?_))
              | (first | (apply wpEager_take; (· rfl); (· (intro w' hb'; go_simp; try with_reducible rfl)); (try simp only [Act.put, List.setIfInBounds_toArray, List.set_cons_zero, List.set_cons_succ]); (try refine eagerOpen rfl ?_)) | (refine wpEager_skip (by rfl) ?_; (try simp only [Act.put, List.setIfInBounds_toArray, List.set_cons_zero, List.set_cons_succ]); (try refine eagerOpen rfl ?_)) | (refine wpEager_off (by rfl) ?_; (try simp only [Act.put, List.setIfInBounds_toArray, List.set_cons_zero, List.set_cons_succ]); (try refine eagerOpen rfl ?_))))
            (refine wpEager_op (by rfl) (fun K hK => ?_); go_simp; (refine (like20_any _ (HLS3.out.dx.below hy0) (HLS3.out.rd.below hy0)).mono ?_; rintro e y1 ⟨rfl, hb⟩; have hy1 := hy0.trans hb; clear hb); refine Shut.out hK _ _ (by assumption) ?_; clear hK K; (try simp only [Act.put, List.setIfInBounds_toArray, List.set_cons_zero, List.set_cons_succ]); (try refine eagerOpen rfl ?_))
            repeat (first
              | ((with_reducible refine eagerLoadAt 5 ?_); refine wpEager_load (by rfl) 37 _ rfl rg 0 rfl (rdA TN DM) _ (fun w' hb => HLA.out w' hb) Tryz.underlying37 rfl (infoRD _ (rdA_size HLS3.out.rd.n3 HLS3.out.rd.m3)) ?_; (try simp only [Act.put, List.setIfInBounds_toArray, List.set_cons_zero, List.set_cons_succ]); (try refine eagerOpen rfl ?_))
              | (first | (apply wpEager_take; (· rfl); (· (intro w' hb'; go_simp; try with_reducible rfl)); (try simp only [Act.put, List.setIfInBounds_toArray, List.set_cons_zero, List.set_cons_succ]); (try refine eagerOpen rfl ?_)) | (refine wpEager_skip (by rfl) ?_; (try simp only [Act.put, List.setIfInBounds_toArray, List.set_cons_zero, List.set_cons_succ]); (try refine eagerOpen rfl ?_)) | (refine wpEager_off (by rfl) ?_; (try simp only [Act.put, List.setIfInBounds_toArray, List.set_cons_zero, List.set_cons_succ]); (try refine eagerOpen rfl ?_))))
            (refine wpEager_op (by rfl) (fun K hK => ?_); go_simp; (refine (bodies_pts _ (HEY.out _ hy1) (HLS3.out.dx.below hy1) (HLS3.out.rol.below hy1) (by omega)).mono ?_; rintro e y2 ⟨pa, ca, rfl, hpa, hb⟩; have hy2 := hy1.trans (hb.mono hy1.size); clear hb); refine Shut.out hK _ _ (by assumption) ?_; clear hK K; (try simp only [Act.put, List.setIfInBounds_toArray, List.set_cons_zero, List.set_cons_succ]); (try refine eagerOpen rfl ?_))
            repeat (first
              | ((with_reducible refine eagerLoadAt 5 ?_); refine wpEager_load (by rfl) 37 _ rfl rg 0 rfl (rdA TN DM) _ (fun w' hb => HLA.out w' hb) Tryz.underlying37 rfl (infoRD _ (rdA_size HLS3.out.rd.n3 HLS3.out.rd.m3)) ?_; (try simp only [Act.put, List.setIfInBounds_toArray, List.set_cons_zero, List.set_cons_succ]); (try refine eagerOpen rfl ?_))
              | (first | (apply wpEager_take; (· rfl); (· (intro w' hb'; go_simp; try with_reducible rfl)); (try simp only [Act.put, List.setIfInBounds_toArray, List.set_cons_zero, List.set_cons_succ]); (try refine eagerOpen rfl ?_)) | (refine wpEager_skip (by rfl) ?_; (try simp only [Act.put, List.setIfInBounds_toArray, List.set_cons_zero, List.set_cons_succ]); (try refine eagerOpen rfl ?_)) | (refine wpEager_off (by rfl) ?_; (try simp only [Act.put, List.setIfInBounds_toArray, List.set_cons_zero, List.set_cons_succ]); (try refine eagerOpen rfl ?_))))
            (refine wpEager_op (by rfl) (fun K hK => ?_); go_simp; (refine (rbodies_pts 0 (by omega) _ (HLS3.out.rd.below hy2)).mono ?_; rintro e y3 ⟨pb3, cb3, rfl, hpb, hb⟩; have hpa3 := hpa.below hb; have hy3 := hy2.trans (hb.mono hy2.size); clear hb hpa); refine Shut.out hK _ _ (by assumption) ?_; clear hK K; (try simp only [Act.put, List.setIfInBounds_toArray, List.set_cons_zero, List.set_cons_succ]); (try refine eagerOpen rfl ?_))
            repeat (first
              | ((with_reducible refine eagerLoadAt 5 ?_); refine wpEager_load (by rfl) 37 _ rfl rg 0 rfl (rdA TN DM) _ (fun w' hb => HLA.out w' hb) Tryz.underlying37 rfl (infoRD _ (rdA_size HLS3.out.rd.n3 HLS3.out.rd.m3)) ?_; (try simp only [Act.put, List.setIfInBounds_toArray, List.set_cons_zero, List.set_cons_succ]); (try refine eagerOpen rfl ?_))
              | (first | (apply wpEager_take; (· rfl); (· (intro w' hb'; go_simp; try with_reducible rfl)); (try simp only [Act.put, List.setIfInBounds_toArray, List.set_cons_zero, List.set_cons_succ]); (try refine eagerOpen rfl ?_)) | (refine wpEager_skip (by rfl) ?_; (try simp only [Act.put, List.setIfInBounds_toArray, List.set_cons_zero, List.set_cons_succ]); (try refine eagerOpen rfl ?_)) | (refine wpEager_off (by rfl) ?_; (try simp only [Act.put, List.setIfInBounds_toArray, List.set_cons_zero, List.set_cons_succ]); (try refine eagerOpen rfl ?_))))
            (refine wpEager_op (by rfl) (fun K hK => ?_); go_simp; (refine (Frm.same_any _ _ _ _ _ _ _ _ _ hpa3 hpb).mono ?_; rw [hqs]; rintro e y4 ⟨rfl, hb⟩; have hy4 := hy3.trans (hb.mono hy3.size); clear hb hpa3 hpb); refine Shut.out hK _ _ (by assumption) ?_; clear hK K; (try simp only [Act.put, List.setIfInBounds_toArray, List.set_cons_zero, List.set_cons_succ]); (try refine eagerOpen rfl ?_))
            repeat (first
              | ((with_reducible refine eagerLoadAt 5 ?_); refine wpEager_load (by rfl) 37 _ rfl rg 0 rfl (rdA TN DM) _ (fun w' hb => HLA.out w' hb) Tryz.underlying37 rfl (infoRD _ (rdA_size HLS3.out.rd.n3 HLS3.out.rd.m3)) ?_; (try simp only [Act.put, List.setIfInBounds_toArray, List.set_cons_zero, List.set_cons_succ]); (try refine eagerOpen rfl ?_))
              | (first | (apply wpEager_take; (· rfl); (· (intro w' hb'; go_simp; try with_reducible rfl)); (try simp only [Act.put, List.setIfInBounds_toArray, List.set_cons_zero, List.set_cons_succ]); (try refine eagerOpen rfl ?_)) | (refine wpEager_skip (by rfl) ?_; (try simp only [Act.put, List.setIfInBounds_toArray, List.set_cons_zero, List.set_cons_succ]); (try refine eagerOpen rfl ?_)) | (refine wpEager_off (by rfl) ?_; (try simp only [Act.put, List.setIfInBounds_toArray, List.set_cons_zero, List.set_cons_succ]); (try refine eagerOpen rfl ?_))))
            (refine wpEager_op (by rfl) (fun K hK => ?_); go_simp; (refine (len_any _ (HEY.out _ hy4) (HLS3.out.dx.below hy4) (HLS3.out.rol.below hy4) (by omega)).mono ?_; rintro e y5 ⟨rfl, hb⟩; have hy5 := hy4.trans (hb.mono hy4.size); clear hb); refine Shut.out hK _ _ (by assumption) ?_; clear hK K; (try simp only [Act.put, List.setIfInBounds_toArray, List.set_cons_zero, List.set_cons_succ]); (try refine eagerOpen rfl ?_))
            repeat (first
              | ((with_reducible refine eagerLoadAt 5 ?_); refine wpEager_load (by rfl) 37 _ rfl rg 0 rfl (rdA TN DM) _ (fun w' hb => HLA.out w' hb) Tryz.underlying37 rfl (infoRD _ (rdA_size HLS3.out.rd.n3 HLS3.out.rd.m3)) ?_; (try simp only [Act.put, List.setIfInBounds_toArray, List.set_cons_zero, List.set_cons_succ]); (try refine eagerOpen rfl ?_))
              | (first | (apply wpEager_take; (· rfl); (· (intro w' hb'; go_simp; try with_reducible rfl)); (try simp only [Act.put, List.setIfInBounds_toArray, List.set_cons_zero, List.set_cons_succ]); (try refine eagerOpen rfl ?_)) | (refine wpEager_skip (by rfl) ?_; (try simp only [Act.put, List.setIfInBounds_toArray, List.set_cons_zero, List.set_cons_succ]); (try refine eagerOpen rfl ?_)) | (refine wpEager_off (by rfl) ?_; (try simp only [Act.put, List.setIfInBounds_toArray, List.set_cons_zero, List.set_cons_succ]); (try refine eagerOpen rfl ?_))))
            (refine wpEager_op (by rfl) (fun K hK => ?_); go_simp; (refine (rbodies_pts 0 (by omega) _ (HLS3.out.rd.below hy5)).mono ?_; rintro e y6 ⟨pb6, cb6, rfl, _, hb⟩; have hy6 := hy5.trans (hb.mono hy5.size); clear hb); refine Shut.out hK _ _ (by assumption) ?_; clear hK K; (try simp only [Act.put, List.setIfInBounds_toArray, List.set_cons_zero, List.set_cons_succ]); (try refine eagerOpen rfl ?_))
            repeat (first
              | ((with_reducible refine eagerLoadAt 5 ?_); refine wpEager_load (by rfl) 37 _ rfl rg 0 rfl (rdA TN DM) _ (fun w' hb => HLA.out w' hb) Tryz.underlying37 rfl (infoRD _ (rdA_size HLS3.out.rd.n3 HLS3.out.rd.m3)) ?_; (try simp only [Act.put, List.setIfInBounds_toArray, List.set_cons_zero, List.set_cons_succ]); (try refine eagerOpen rfl ?_))
              | (first | (apply wpEager_take; (· rfl); (· (intro w' hb'; go_simp; try with_reducible rfl)); (try simp only [Act.put, List.setIfInBounds_toArray, List.set_cons_zero, List.set_cons_succ]); (try refine eagerOpen rfl ?_)) | (refine wpEager_skip (by rfl) ?_; (try simp only [Act.put, List.setIfInBounds_toArray, List.set_cons_zero, List.set_cons_succ]); (try refine eagerOpen rfl ?_)) | (refine wpEager_off (by rfl) ?_; (try simp only [Act.put, List.setIfInBounds_toArray, List.set_cons_zero, List.set_cons_succ]); (try refine eagerOpen rfl ?_))))
            (refine wpEager_op (by rfl) (fun K hK => ?_); go_simp; (refine (size_any _ (HLS3.out.dx.below hy6) (HLS3.out.rol.below hy6) (by omega)).mono ?_; rintro e y7 ⟨rfl, hb⟩; have hy7 := hy6.trans (hb.mono hy6.size); clear hb); refine Shut.out hK _ _ (by assumption) ?_; clear hK K; (try simp only [Act.put, List.setIfInBounds_toArray, List.set_cons_zero, List.set_cons_succ]); (try refine eagerOpen rfl ?_))
            repeat (first
              | ((with_reducible refine eagerLoadAt 5 ?_); refine wpEager_load (by rfl) 37 _ rfl rg 0 rfl (rdA TN DM) _ (fun w' hb => HLA.out w' hb) Tryz.underlying37 rfl (infoRD _ (rdA_size HLS3.out.rd.n3 HLS3.out.rd.m3)) ?_; (try simp only [Act.put, List.setIfInBounds_toArray, List.set_cons_zero, List.set_cons_succ]); (try refine eagerOpen rfl ?_))
              | (first | (apply wpEager_take; (· rfl); (· (intro w' hb'; go_simp; try with_reducible rfl)); (try simp only [Act.put, List.setIfInBounds_toArray, List.set_cons_zero, List.set_cons_succ]); (try refine eagerOpen rfl ?_)) | (refine wpEager_skip (by rfl) ?_; (try simp only [Act.put, List.setIfInBounds_toArray, List.set_cons_zero, List.set_cons_succ]); (try refine eagerOpen rfl ?_)) | (refine wpEager_off (by rfl) ?_; (try simp only [Act.put, List.setIfInBounds_toArray, List.set_cons_zero, List.set_cons_succ]); (try refine eagerOpen rfl ?_))))
            (refine wpEager_op (by rfl) (fun K hK => ?_); go_simp; (refine (xsize _ (HLS3.out.dx.below hy7) 0 (by omega)).mono ?_; rintro e y8 ⟨rfl, hb⟩; have hy8 := hy7.trans (hb.mono hy7.size); clear hb); refine Shut.out hK _ _ (by assumption) ?_; clear hK K; (try simp only [Act.put, List.setIfInBounds_toArray, List.set_cons_zero, List.set_cons_succ]); (try refine eagerOpen rfl ?_))
            repeat (first
              | ((with_reducible refine eagerLoadAt 5 ?_); refine wpEager_load (by rfl) 37 _ rfl rg 0 rfl (rdA TN DM) _ (fun w' hb => HLA.out w' hb) Tryz.underlying37 rfl (infoRD _ (rdA_size HLS3.out.rd.n3 HLS3.out.rd.m3)) ?_; (try simp only [Act.put, List.setIfInBounds_toArray, List.set_cons_zero, List.set_cons_succ]); (try refine eagerOpen rfl ?_))
              | (first | (apply wpEager_take; (· rfl); (· (intro w' hb'; go_simp; try with_reducible rfl)); (try simp only [Act.put, List.setIfInBounds_toArray, List.set_cons_zero, List.set_cons_succ]); (try refine eagerOpen rfl ?_)) | (refine wpEager_skip (by rfl) ?_; (try simp only [Act.put, List.setIfInBounds_toArray, List.set_cons_zero, List.set_cons_succ]); (try refine eagerOpen rfl ?_)) | (refine wpEager_off (by rfl) ?_; (try simp only [Act.put, List.setIfInBounds_toArray, List.set_cons_zero, List.set_cons_succ]); (try refine eagerOpen rfl ?_))))
            refine eagerEnd ?_
            have HLE := Lib.hid (HLS3.out.next hy8)
            clear hy0 hy1 hy2 hy3 hy4 hy5 hy6 hy7 hy8 HLA HEY
            go_wp2_with fail
            go_roundw
            case rel => exact ⟨k + 1, by omega, by go_num, _, _, _, rfl, HLE.out, HFD2.out⟩
            case measure => simp [intOf]; omega
          have m0 : (oo.kind == 0) = false := beq_eq_false_iff_ne.2 n0
          by_cases n1 : oo.kind = 1
          · have m1 : (oo.kind == 1) = true := beq_iff_eq.2 n1
            clear n0 n1 kother
            skip
            -- a call both ways: regions 18 and 19; clear_any w8 HLS2.out.dx HLS2.out.rol (by omega) (by omega), rclr_any T d 0 (by omega) wA hrd hur (by omega) the calls; clrD d 0 0, clrE d 0 0 what they leave
            have hlen : k < 1000 := by have := HSL.out; omega
            have hf0 : (fD d 0).steps.length ≤ k + 1 := HFD.out.fd
            have hbs8 := HBS.out.below HLS2.out.low
            clear hk0 hk1
            go_upto_region 18 with fail
            go_wp2_with fail
            refine (clear_any w8 HLS2.out.dx HLS2.out.rol (by omega) (by omega)).mono ?_
            rintro e wA ⟨rfl, hdx, hkt⟩
            have hlo := HLS2.out.low.trans (hkt.below HLS2.out.low.size)
            have hro := HLS2.out.rol.kt hkt
            have hbx := hkt.row HLS2.out.box (by decide) (by decide)
            have hrd := HLS2.out.rd.step (kr_of_kt hkt)
            have hbr := hkt.row HBR.out (by decide) (by decide)
            have hur := HLS2.out.dx.room.2.2
            have hag := HLS2.out.at_
            clear hk2 hbs8
            rw [HAE.out] at hbr
            obtain ⟨hk0, hk1, hk2⟩ := ropA_cell hbr
            have hbsA := HBS.out.below hlo
            have HC2 := Lib.hid (rclr_any T d 0 (by omega) wA hrd hur (by omega))
            have HDX := Lib.hid hdx
            have HLO := Lib.hid hlo
            have HRO := Lib.hid hro
            have HBX := Lib.hid hbx
            have HRD := Lib.hid hrd
            have HAG := Lib.hid hag
            clear hdx hkt hlo hro hbx hrd hbr hur hag hbsA HLS2 HBR hf0 hlen
            go_upto_region 19 with fail
            go_wp2_with (refine wpList_load_row rfl 37 _ rfl rg rfl 37 (rdA T d) (0, 0) _ HBX.out Tryz.underlying37 rfl (infoRD _ (rdA_size HRD.out.n3 HRD.out.m3)) ?_)
            refine HC2.out.mono ?_
            rintro e wB ⟨TN, rfl, hrd2, hb2⟩
            have HDX2 := Lib.hid (HDX.out.below hb2)
            have HLO2 := Lib.hid (HLO.out.trans (hb2.mono HLO.out.size))
            have HRO2 := Lib.hid (HRO.out.below hb2)
            have HBX2 := Lib.hid (Below.keepOld hb2 HBX.out)
            have HRD2 := Lib.hid hrd2
            have HN3 := Lib.hid HRD.out.n3
            have HM3 := Lib.hid HRD.out.m3
            clear hk0 hk1 hk2 hrd2 hb2 HDX HLO HRO HBX HRD HC2
            have HFD2 : Hid (FewD (clrD d 0 0) (k + 1 + 1)) := HFD.out.clr 0 0
            obtain ⟨DM, hDM⟩ : ∃ DM, (clrD d 0 0) = DM := ⟨_, rfl⟩
            obtain ⟨EM, hEM⟩ : ∃ EM, (clrE d 0 0) = EM := ⟨_, rfl⟩
            rw [hDM] at HDX2 HRD2 HFD2 ⊢
            rw [hEM]
            clear hDM hEM
            go_upto_region 33 with (refine wpList_store_row rfl 37 _ _ rfl rg (rdA TN DM) rfl rfl 37 (rdA T d) HBX2.out (infoRD _ (rdA_size HRD2.out.n3 HRD2.out.m3)) (by rw [rdA_size HRD2.out.n3 HRD2.out.m3, rdA_size HN3.out HM3.out]) (rdA_one HRD2.out.n3 HRD2.out.m3) ?_)
            try simp only [Act.put, List.setIfInBounds_toArray, List.set_cons_zero, List.set_cons_succ]
            have HLS3 := Lib.hid (LS.put HDX2.out HRO2.out HBX2.out HRD2.out HLO2.out HAG.out)
            clear HDX2 HRO2 HBX2 HRD2 HLO2 HAG
            generalize wB.setRow rg (rdA TN DM) = wC at *
            skip
            -- all is compared: world wC, HLS3 : Hid (LS w1 db rb rg TN DM wC), the answers EM and EM
            have HLA : Hid (∀ w', Below wC.heap.size wC w' → w'.rangeAt rg 0 (rdA TN DM).toList) := fun w' hb => row_rangeR (Below.keepOld hb HLS3.out.box)
            have HEY : Hid (∀ w', Below wC.heap.size wC w' → Rdr.EType w') := fun w' hb => HE.out.below (HLS3.out.low.trans (hb.mono HLS3.out.low.size)) HE.out.lt
            have hqe : ((EM : Int) == EM) = true := beq_self_eq_true _
            have hql : (((scan (fD DM 0).now).1.length : Int) == ((scan (fD DM 0).now).1.length : Int)) = true := beq_self_eq_true _
            have hqn : (((fD DM 0).now.length : Int) == ((fD DM 0).now.length : Int)) = true := beq_self_eq_true _
            have hqs : ((scan (fD DM 0).now).1 == (scan (fD DM 0).now).1) = true := beq_self_eq_true _
            refine wp_region_eager [(0, true), (1, true), (2, true), (3, true), (4, true), (5, true), (6, false), (7, true), (8, true), (9, true), (10, true), (12, true), (11, false), (13, false), (14, false), (15, true), (16, true), (17, true), (18, true), (20, true), (19, false), (21, false), (22, true), (23, true), (24, true), (25, true), (26, true), (28, true), (27, false), (29, false), (30, true), (31, true)] (by kernel_rfl) (by kernel_rfl) (eagerOpen rfl ?_)
            have hy0 : Below wC.heap.size wC wC.drew := below_drew1 _ _
            repeat (first
              | ((with_reducible refine eagerLoadAt 5 ?_); refine wpEager_load (by rfl) 37 _ rfl rg 0 rfl (rdA TN DM) _ (fun w' hb => HLA.out w' hb) Tryz.underlying37 rfl (infoRD _ (rdA_size HLS3.out.rd.n3 HLS3.out.rd.m3)) ?_; (try simp only [Act.put, List.setIfInBounds_toArray, List.set_cons_zero, List.set_cons_succ]); (try refine eagerOpen rfl ?_))
              | (first | (apply wpEager_take; (· rfl); (· (intro w' hb'; go_simp; try with_reducible rfl)); (try simp only [Act.put, List.setIfInBounds_toArray, List.set_cons_zero, List.set_cons_succ]); (try refine eagerOpen rfl ?_)) | (refine wpEager_skip (by rfl) ?_; (try simp only [Act.put, List.setIfInBounds_toArray, List.set_cons_zero, List.set_cons_succ]); (try refine eagerOpen rfl ?_)) | (refine wpEager_off (by rfl) ?_; (try simp only [Act.put, List.setIfInBounds_toArray, List.set_cons_zero, List.set_cons_succ]); (try refine eagerOpen rfl ?_))))
            (refine wpEager_op (by rfl) (fun K hK => ?_); go_simp; (refine (like20_any _ (HLS3.out.dx.below hy0) (HLS3.out.rd.below hy0)).mono ?_; rintro e y1 ⟨rfl, hb⟩; have hy1 := hy0.trans hb; clear hb); refine Shut.out hK _ _ (by assumption) ?_; clear hK K; (try simp only [Act.put, List.setIfInBounds_toArray, List.set_cons_zero, List.set_cons_succ]); (try refine eagerOpen rfl ?_))
            repeat (first
              | ((with_reducible refine eagerLoadAt 5 ?_); refine wpEager_load (by rfl) 37 _ rfl rg 0 rfl (rdA TN DM) _ (fun w' hb => HLA.out w' hb) Tryz.underlying37 rfl (infoRD _ (rdA_size HLS3.out.rd.n3 HLS3.out.rd.m3)) ?_; (try simp only [Act.put, List.setIfInBounds_toArray, List.set_cons_zero, List.set_cons_succ]); (try refine eagerOpen rfl ?_))
              | (first | (apply wpEager_take; (· rfl); (· (intro w' hb'; go_simp; try with_reducible rfl)); (try simp only [Act.put, List.setIfInBounds_toArray, List.set_cons_zero, List.set_cons_succ]); (try refine eagerOpen rfl ?_)) | (refine wpEager_skip (by rfl) ?_; (try simp only [Act.put, List.setIfInBounds_toArray, List.set_cons_zero, List.set_cons_succ]); (try refine eagerOpen rfl ?_)) | (refine wpEager_off (by rfl) ?_; (try simp only [Act.put, List.setIfInBounds_toArray, List.set_cons_zero, List.set_cons_succ]); (try refine eagerOpen rfl ?_))))
            (refine wpEager_op (by rfl) (fun K hK => ?_); go_simp; (refine (bodies_pts _ (HEY.out _ hy1) (HLS3.out.dx.below hy1) (HLS3.out.rol.below hy1) (by omega)).mono ?_; rintro e y2 ⟨pa, ca, rfl, hpa, hb⟩; have hy2 := hy1.trans (hb.mono hy1.size); clear hb); refine Shut.out hK _ _ (by assumption) ?_; clear hK K; (try simp only [Act.put, List.setIfInBounds_toArray, List.set_cons_zero, List.set_cons_succ]); (try refine eagerOpen rfl ?_))
            repeat (first
              | ((with_reducible refine eagerLoadAt 5 ?_); refine wpEager_load (by rfl) 37 _ rfl rg 0 rfl (rdA TN DM) _ (fun w' hb => HLA.out w' hb) Tryz.underlying37 rfl (infoRD _ (rdA_size HLS3.out.rd.n3 HLS3.out.rd.m3)) ?_; (try simp only [Act.put, List.setIfInBounds_toArray, List.set_cons_zero, List.set_cons_succ]); (try refine eagerOpen rfl ?_))
              | (first | (apply wpEager_take; (· rfl); (· (intro w' hb'; go_simp; try with_reducible rfl)); (try simp only [Act.put, List.setIfInBounds_toArray, List.set_cons_zero, List.set_cons_succ]); (try refine eagerOpen rfl ?_)) | (refine wpEager_skip (by rfl) ?_; (try simp only [Act.put, List.setIfInBounds_toArray, List.set_cons_zero, List.set_cons_succ]); (try refine eagerOpen rfl ?_)) | (refine wpEager_off (by rfl) ?_; (try simp only [Act.put, List.setIfInBounds_toArray, List.set_cons_zero, List.set_cons_succ]); (try refine eagerOpen rfl ?_))))
            (refine wpEager_op (by rfl) (fun K hK => ?_); go_simp; (refine (rbodies_pts 0 (by omega) _ (HLS3.out.rd.below hy2)).mono ?_; rintro e y3 ⟨pb3, cb3, rfl, hpb, hb⟩; have hpa3 := hpa.below hb; have hy3 := hy2.trans (hb.mono hy2.size); clear hb hpa); refine Shut.out hK _ _ (by assumption) ?_; clear hK K; (try simp only [Act.put, List.setIfInBounds_toArray, List.set_cons_zero, List.set_cons_succ]); (try refine eagerOpen rfl ?_))
            repeat (first
              | ((with_reducible refine eagerLoadAt 5 ?_); refine wpEager_load (by rfl) 37 _ rfl rg 0 rfl (rdA TN DM) _ (fun w' hb => HLA.out w' hb) Tryz.underlying37 rfl (infoRD _ (rdA_size HLS3.out.rd.n3 HLS3.out.rd.m3)) ?_; (try simp only [Act.put, List.setIfInBounds_toArray, List.set_cons_zero, List.set_cons_succ]); (try refine eagerOpen rfl ?_))
              | (first | (apply wpEager_take; (· rfl); (· (intro w' hb'; go_simp; try with_reducible rfl)); (try simp only [Act.put, List.setIfInBounds_toArray, List.set_cons_zero, List.set_cons_succ]); (try refine eagerOpen rfl ?_)) | (refine wpEager_skip (by rfl) ?_; (try simp only [Act.put, List.setIfInBounds_toArray, List.set_cons_zero, List.set_cons_succ]); (try refine eagerOpen rfl ?_)) | (refine wpEager_off (by rfl) ?_; (try simp only [Act.put, List.setIfInBounds_toArray, List.set_cons_zero, List.set_cons_succ]); (try refine eagerOpen rfl ?_))))
            (refine wpEager_op (by rfl) (fun K hK => ?_); go_simp; (refine (Frm.same_any _ _ _ _ _ _ _ _ _ hpa3 hpb).mono ?_; rw [hqs]; rintro e y4 ⟨rfl, hb⟩; have hy4 := hy3.trans (hb.mono hy3.size); clear hb hpa3 hpb); refine Shut.out hK _ _ (by assumption) ?_; clear hK K; (try simp only [Act.put, List.setIfInBounds_toArray, List.set_cons_zero, List.set_cons_succ]); (try refine eagerOpen rfl ?_))
            repeat (first
              | ((with_reducible refine eagerLoadAt 5 ?_); refine wpEager_load (by rfl) 37 _ rfl rg 0 rfl (rdA TN DM) _ (fun w' hb => HLA.out w' hb) Tryz.underlying37 rfl (infoRD _ (rdA_size HLS3.out.rd.n3 HLS3.out.rd.m3)) ?_; (try simp only [Act.put, List.setIfInBounds_toArray, List.set_cons_zero, List.set_cons_succ]); (try refine eagerOpen rfl ?_))
              | (first | (apply wpEager_take; (· rfl); (· (intro w' hb'; go_simp; try with_reducible rfl)); (try simp only [Act.put, List.setIfInBounds_toArray, List.set_cons_zero, List.set_cons_succ]); (try refine eagerOpen rfl ?_)) | (refine wpEager_skip (by rfl) ?_; (try simp only [Act.put, List.setIfInBounds_toArray, List.set_cons_zero, List.set_cons_succ]); (try refine eagerOpen rfl ?_)) | (refine wpEager_off (by rfl) ?_; (try simp only [Act.put, List.setIfInBounds_toArray, List.set_cons_zero, List.set_cons_succ]); (try refine eagerOpen rfl ?_))))
            (refine wpEager_op (by rfl) (fun K hK => ?_); go_simp; (refine (len_any _ (HEY.out _ hy4) (HLS3.out.dx.below hy4) (HLS3.out.rol.below hy4) (by omega)).mono ?_; rintro e y5 ⟨rfl, hb⟩; have hy5 := hy4.trans (hb.mono hy4.size); clear hb); refine Shut.out hK _ _ (by assumption) ?_; clear hK K; (try simp only [Act.put, List.setIfInBounds_toArray, List.set_cons_zero, List.set_cons_succ]); (try refine eagerOpen rfl ?_))
            repeat (first
              | ((with_reducible refine eagerLoadAt 5 ?_); refine wpEager_load (by rfl) 37 _ rfl rg 0 rfl (rdA TN DM) _ (fun w' hb => HLA.out w' hb) Tryz.underlying37 rfl (infoRD _ (rdA_size HLS3.out.rd.n3 HLS3.out.rd.m3)) ?_; (try simp only [Act.put, List.setIfInBounds_toArray, List.set_cons_zero, List.set_cons_succ]); (try refine eagerOpen rfl ?_))
              | (first | (apply wpEager_take; (· rfl); (· (intro w' hb'; go_simp; try with_reducible rfl)); (try simp only [Act.put, List.setIfInBounds_toArray, List.set_cons_zero, List.set_cons_succ]); (try refine eagerOpen rfl ?_)) | (refine wpEager_skip (by rfl) ?_; (try simp only [Act.put, List.setIfInBounds_toArray, List.set_cons_zero, List.set_cons_succ]); (try refine eagerOpen rfl ?_)) | (refine wpEager_off (by rfl) ?_; (try simp only [Act.put, List.setIfInBounds_toArray, List.set_cons_zero, List.set_cons_succ]); (try refine eagerOpen rfl ?_))))
            (refine wpEager_op (by rfl) (fun K hK => ?_); go_simp; (refine (rbodies_pts 0 (by omega) _ (HLS3.out.rd.below hy5)).mono ?_; rintro e y6 ⟨pb6, cb6, rfl, _, hb⟩; have hy6 := hy5.trans (hb.mono hy5.size); clear hb); refine Shut.out hK _ _ (by assumption) ?_; clear hK K; (try simp only [Act.put, List.setIfInBounds_toArray, List.set_cons_zero, List.set_cons_succ]); (try refine eagerOpen rfl ?_))
            repeat (first
              | ((with_reducible refine eagerLoadAt 5 ?_); refine wpEager_load (by rfl) 37 _ rfl rg 0 rfl (rdA TN DM) _ (fun w' hb => HLA.out w' hb) Tryz.underlying37 rfl (infoRD _ (rdA_size HLS3.out.rd.n3 HLS3.out.rd.m3)) ?_; (try simp only [Act.put, List.setIfInBounds_toArray, List.set_cons_zero, List.set_cons_succ]); (try refine eagerOpen rfl ?_))
              | (first | (apply wpEager_take; (· rfl); (· (intro w' hb'; go_simp; try with_reducible rfl)); (try simp only [Act.put, List.setIfInBounds_toArray, List.set_cons_zero, List.set_cons_succ]); (try refine eagerOpen rfl ?_)) | (refine wpEager_skip (by rfl) ?_; (try simp only [Act.put, List.setIfInBounds_toArray, List.set_cons_zero, List.set_cons_succ]); (try refine eagerOpen rfl ?_)) | (refine wpEager_off (by rfl) ?_; (try simp only [Act.put, List.setIfInBounds_toArray, List.set_cons_zero, List.set_cons_succ]); (try refine eagerOpen rfl ?_))))
            (refine wpEager_op (by rfl) (fun K hK => ?_); go_simp; (refine (size_any _ (HLS3.out.dx.below hy6) (HLS3.out.rol.below hy6) (by omega)).mono ?_; rintro e y7 ⟨rfl, hb⟩; have hy7 := hy6.trans (hb.mono hy6.size); clear hb); refine Shut.out hK _ _ (by assumption) ?_; clear hK K; (try simp only [Act.put, List.setIfInBounds_toArray, List.set_cons_zero, List.set_cons_succ]); (try refine eagerOpen rfl ?_))
            repeat (first
              | ((with_reducible refine eagerLoadAt 5 ?_); refine wpEager_load (by rfl) 37 _ rfl rg 0 rfl (rdA TN DM) _ (fun w' hb => HLA.out w' hb) Tryz.underlying37 rfl (infoRD _ (rdA_size HLS3.out.rd.n3 HLS3.out.rd.m3)) ?_; (try simp only [Act.put, List.setIfInBounds_toArray, List.set_cons_zero, List.set_cons_succ]); (try refine eagerOpen rfl ?_))
              | (first | (apply wpEager_take; (· rfl); (· (intro w' hb'; go_simp; try with_reducible rfl)); (try simp only [Act.put, List.setIfInBounds_toArray, List.set_cons_zero, List.set_cons_succ]); (try refine eagerOpen rfl ?_)) | (refine wpEager_skip (by rfl) ?_; (try simp only [Act.put, List.setIfInBounds_toArray, List.set_cons_zero, List.set_cons_succ]); (try refine eagerOpen rfl ?_)) | (refine wpEager_off (by rfl) ?_; (try simp only [Act.put, List.setIfInBounds_toArray, List.set_cons_zero, List.set_cons_succ]); (try refine eagerOpen rfl ?_))))
            (refine wpEager_op (by rfl) (fun K hK => ?_); go_simp; (refine (xsize _ (HLS3.out.dx.below hy7) 0 (by omega)).mono ?_; rintro e y8 ⟨rfl, hb⟩; have hy8 := hy7.trans (hb.mono hy7.size); clear hb); refine Shut.out hK _ _ (by assumption) ?_; clear hK K; (try simp only [Act.put, List.setIfInBounds_toArray, List.set_cons_zero, List.set_cons_succ]); (try refine eagerOpen rfl ?_))
            repeat (first
              | ((with_reducible refine eagerLoadAt 5 ?_); refine wpEager_load (by rfl) 37 _ rfl rg 0 rfl (rdA TN DM) _ (fun w' hb => HLA.out w' hb) Tryz.underlying37 rfl (infoRD _ (rdA_size HLS3.out.rd.n3 HLS3.out.rd.m3)) ?_; (try simp only [Act.put, List.setIfInBounds_toArray, List.set_cons_zero, List.set_cons_succ]); (try refine eagerOpen rfl ?_))
              | (first | (apply wpEager_take; (· rfl); (· (intro w' hb'; go_simp; try with_reducible rfl)); (try simp only [Act.put, List.setIfInBounds_toArray, List.set_cons_zero, List.set_cons_succ]); (try refine eagerOpen rfl ?_)) | (refine wpEager_skip (by rfl) ?_; (try simp only [Act.put, List.setIfInBounds_toArray, List.set_cons_zero, List.set_cons_succ]); (try refine eagerOpen rfl ?_)) | (refine wpEager_off (by rfl) ?_; (try simp only [Act.put, List.setIfInBounds_toArray, List.set_cons_zero, List.set_cons_succ]); (try refine eagerOpen rfl ?_))))
            refine eagerEnd ?_
            have HLE := Lib.hid (HLS3.out.next hy8)
            clear hy0 hy1 hy2 hy3 hy4 hy5 hy6 hy7 hy8 HLA HEY
            go_wp2_with fail
            go_roundw
            case rel => exact ⟨k + 1, by omega, by go_num, _, _, _, rfl, HLE.out, HFD2.out⟩
            case measure => simp [intOf]; omega
          have m1 : (oo.kind == 1) = false := beq_eq_false_iff_ne.2 n1
          by_cases n2 : oo.kind = 2
          · have m2 : (oo.kind == 2) = true := beq_iff_eq.2 n2
            clear n0 n1 n2 kother
            skip
            -- a call both ways: regions 21 and 22; xappend w8 HLS2.out.dx 0 (by omega) pb oo.b.length cb oo.b hbs8 (by omega) (by omega), rput_in T d 0 (by omega) pb oo.b cb wA hrd hur hbsA (by omega) (by omega) the calls; doD d 0 (fD d 0) (.put oo.b), doE d 0 (fD d 0) (.put oo.b) what they leave
            have hlen : k < 1000 := by have := HSL.out; omega
            have hf0 : (fD d 0).steps.length ≤ k + 1 := HFD.out.fd
            have hbs8 := HBS.out.below HLS2.out.low
            clear hk0 hk1
            go_upto_region 21 with fail
            go_wp2_with fail
            refine (xappend w8 HLS2.out.dx 0 (by omega) pb oo.b.length cb oo.b hbs8 (by omega) (by omega)).mono ?_
            rintro e wA ⟨rfl, hdx, hkt⟩
            have hlo := HLS2.out.low.trans (hkt.below HLS2.out.low.size)
            have hro := HLS2.out.rol.kt hkt
            have hbx := hkt.row HLS2.out.box (by decide) (by decide)
            have hrd := HLS2.out.rd.step (kr_of_kt hkt)
            have hbr := hkt.row HBR.out (by decide) (by decide)
            have hur := HLS2.out.dx.room.2.2
            have hag := HLS2.out.at_
            clear hk2 hbs8
            rw [HAE.out] at hbr
            obtain ⟨hk0, hk1, hk2⟩ := ropA_cell hbr
            have hbsA := HBS.out.below hlo
            have HC2 := Lib.hid (rput_in T d 0 (by omega) pb oo.b cb wA hrd hur hbsA (by omega) (by omega))
            have HDX := Lib.hid hdx
            have HLO := Lib.hid hlo
            have HRO := Lib.hid hro
            have HBX := Lib.hid hbx
            have HRD := Lib.hid hrd
            have HAG := Lib.hid hag
            clear hdx hkt hlo hro hbx hrd hbr hur hag hbsA HLS2 HBR hf0 hlen
            go_upto_region 22 with fail
            go_wp2_with (refine wpList_load_row rfl 37 _ rfl rg rfl 37 (rdA T d) (0, 0) _ HBX.out Tryz.underlying37 rfl (infoRD _ (rdA_size HRD.out.n3 HRD.out.m3)) ?_)
            refine HC2.out.mono ?_
            rintro e wB ⟨TN, rfl, hrd2, hb2⟩
            have HDX2 := Lib.hid (HDX.out.below hb2)
            have HLO2 := Lib.hid (HLO.out.trans (hb2.mono HLO.out.size))
            have HRO2 := Lib.hid (HRO.out.below hb2)
            have HBX2 := Lib.hid (Below.keepOld hb2 HBX.out)
            have HRD2 := Lib.hid hrd2
            have HN3 := Lib.hid HRD.out.n3
            have HM3 := Lib.hid HRD.out.m3
            clear hk0 hk1 hk2 hrd2 hb2 HDX HLO HRO HBX HRD HC2
            have HFD2 : Hid (FewD (doD d 0 (fD d 0) (.put oo.b)) (k + 1 + 1)) := HFD.out.doD HFD.out.fd
            obtain ⟨DM, hDM⟩ : ∃ DM, (doD d 0 (fD d 0) (.put oo.b)) = DM := ⟨_, rfl⟩
            obtain ⟨EM, hEM⟩ : ∃ EM, (doE d 0 (fD d 0) (.put oo.b)) = EM := ⟨_, rfl⟩
            rw [hDM] at HDX2 HRD2 HFD2 ⊢
            rw [hEM]
            clear hDM hEM
            go_upto_region 33 with (refine wpList_store_row rfl 37 _ _ rfl rg (rdA TN DM) rfl rfl 37 (rdA T d) HBX2.out (infoRD _ (rdA_size HRD2.out.n3 HRD2.out.m3)) (by rw [rdA_size HRD2.out.n3 HRD2.out.m3, rdA_size HN3.out HM3.out]) (rdA_one HRD2.out.n3 HRD2.out.m3) ?_)
            try simp only [Act.put, List.setIfInBounds_toArray, List.set_cons_zero, List.set_cons_succ]
            have HLS3 := Lib.hid (LS.put HDX2.out HRO2.out HBX2.out HRD2.out HLO2.out HAG.out)
            clear HDX2 HRO2 HBX2 HRD2 HLO2 HAG
            generalize wB.setRow rg (rdA TN DM) = wC at *
            skip
            -- all is compared: world wC, HLS3 : Hid (LS w1 db rb rg TN DM wC), the answers EM and EM
            have HLA : Hid (∀ w', Below wC.heap.size wC w' → w'.rangeAt rg 0 (rdA TN DM).toList) := fun w' hb => row_rangeR (Below.keepOld hb HLS3.out.box)
            have HEY : Hid (∀ w', Below wC.heap.size wC w' → Rdr.EType w') := fun w' hb => HE.out.below (HLS3.out.low.trans (hb.mono HLS3.out.low.size)) HE.out.lt
            have hqe : ((EM : Int) == EM) = true := beq_self_eq_true _
            have hql : (((scan (fD DM 0).now).1.length : Int) == ((scan (fD DM 0).now).1.length : Int)) = true := beq_self_eq_true _
            have hqn : (((fD DM 0).now.length : Int) == ((fD DM 0).now.length : Int)) = true := beq_self_eq_true _
            have hqs : ((scan (fD DM 0).now).1 == (scan (fD DM 0).now).1) = true := beq_self_eq_true _
            refine wp_region_eager [(0, true), (1, true), (2, true), (3, true), (4, true), (5, true), (6, false), (7, true), (8, true), (9, true), (10, true), (12, true), (11, false), (13, false), (14, false), (15, true), (16, true), (17, true), (18, true), (20, true), (19, false), (21, false), (22, true), (23, true), (24, true), (25, true), (26, true), (28, true), (27, false), (29, false), (30, true), (31, true)] (by kernel_rfl) (by kernel_rfl) (eagerOpen rfl ?_)
            have hy0 : Below wC.heap.size wC wC.drew := below_drew1 _ _
            repeat (first
              | ((with_reducible refine eagerLoadAt 5 ?_); refine wpEager_load (by rfl) 37 _ rfl rg 0 rfl (rdA TN DM) _ (fun w' hb => HLA.out w' hb) Tryz.underlying37 rfl (infoRD _ (rdA_size HLS3.out.rd.n3 HLS3.out.rd.m3)) ?_; (try simp only [Act.put, List.setIfInBounds_toArray, List.set_cons_zero, List.set_cons_succ]); (try refine eagerOpen rfl ?_))
              | (first | (apply wpEager_take; (· rfl); (· (intro w' hb'; go_simp; try with_reducible rfl)); (try simp only [Act.put, List.setIfInBounds_toArray, List.set_cons_zero, List.set_cons_succ]); (try refine eagerOpen rfl ?_)) | (refine wpEager_skip (by rfl) ?_; (try simp only [Act.put, List.setIfInBounds_toArray, List.set_cons_zero, List.set_cons_succ]); (try refine eagerOpen rfl ?_)) | (refine wpEager_off (by rfl) ?_; (try simp only [Act.put, List.setIfInBounds_toArray, List.set_cons_zero, List.set_cons_succ]); (try refine eagerOpen rfl ?_))))
            (refine wpEager_op (by rfl) (fun K hK => ?_); go_simp; (refine (like20_any _ (HLS3.out.dx.below hy0) (HLS3.out.rd.below hy0)).mono ?_; rintro e y1 ⟨rfl, hb⟩; have hy1 := hy0.trans hb; clear hb); refine Shut.out hK _ _ (by assumption) ?_; clear hK K; (try simp only [Act.put, List.setIfInBounds_toArray, List.set_cons_zero, List.set_cons_succ]); (try refine eagerOpen rfl ?_))
            repeat (first
              | ((with_reducible refine eagerLoadAt 5 ?_); refine wpEager_load (by rfl) 37 _ rfl rg 0 rfl (rdA TN DM) _ (fun w' hb => HLA.out w' hb) Tryz.underlying37 rfl (infoRD _ (rdA_size HLS3.out.rd.n3 HLS3.out.rd.m3)) ?_; (try simp only [Act.put, List.setIfInBounds_toArray, List.set_cons_zero, List.set_cons_succ]); (try refine eagerOpen rfl ?_))
              | (first | (apply wpEager_take; (· rfl); (· (intro w' hb'; go_simp; try with_reducible rfl)); (try simp only [Act.put, List.setIfInBounds_toArray, List.set_cons_zero, List.set_cons_succ]); (try refine eagerOpen rfl ?_)) | (refine wpEager_skip (by rfl) ?_; (try simp only [Act.put, List.setIfInBounds_toArray, List.set_cons_zero, List.set_cons_succ]); (try refine eagerOpen rfl ?_)) | (refine wpEager_off (by rfl) ?_; (try simp only [Act.put, List.setIfInBounds_toArray, List.set_cons_zero, List.set_cons_succ]); (try refine eagerOpen rfl ?_))))
            (refine wpEager_op (by rfl) (fun K hK => ?_); go_simp; (refine (bodies_pts _ (HEY.out _ hy1) (HLS3.out.dx.below hy1) (HLS3.out.rol.below hy1) (by omega)).mono ?_; rintro e y2 ⟨pa, ca, rfl, hpa, hb⟩; have hy2 := hy1.trans (hb.mono hy1.size); clear hb); refine Shut.out hK _ _ (by assumption) ?_; clear hK K; (try simp only [Act.put, List.setIfInBounds_toArray, List.set_cons_zero, List.set_cons_succ]); (try refine eagerOpen rfl ?_))
            repeat (first
              | ((with_reducible refine eagerLoadAt 5 ?_); refine wpEager_load (by rfl) 37 _ rfl rg 0 rfl (rdA TN DM) _ (fun w' hb => HLA.out w' hb) Tryz.underlying37 rfl (infoRD _ (rdA_size HLS3.out.rd.n3 HLS3.out.rd.m3)) ?_; (try simp only [Act.put, List.setIfInBounds_toArray, List.set_cons_zero, List.set_cons_succ]); (try refine eagerOpen rfl ?_))
              | (first | (apply wpEager_take; (· rfl); (· (intro w' hb'; go_simp; try with_reducible rfl)); (try simp only [Act.put, List.setIfInBounds_toArray, List.set_cons_zero, List.set_cons_succ]); (try refine eagerOpen rfl ?_)) | (refine wpEager_skip (by rfl) ?_; (try simp only [Act.put, List.setIfInBounds_toArray, List.set_cons_zero, List.set_cons_succ]); (try refine eagerOpen rfl ?_)) | (refine wpEager_off (by rfl) ?_; (try simp only [Act.put, List.setIfInBounds_toArray, List.set_cons_zero, List.set_cons_succ]); (try refine eagerOpen rfl ?_))))
            (refine wpEager_op (by rfl) (fun K hK => ?_); go_simp; (refine (rbodies_pts 0 (by omega) _ (HLS3.out.rd.below hy2)).mono ?_; rintro e y3 ⟨pb3, cb3, rfl, hpb, hb⟩; have hpa3 := hpa.below hb; have hy3 := hy2.trans (hb.mono hy2.size); clear hb hpa); refine Shut.out hK _ _ (by assumption) ?_; clear hK K; (try simp only [Act.put, List.setIfInBounds_toArray, List.set_cons_zero, List.set_cons_succ]); (try refine eagerOpen rfl ?_))
            repeat (first
              | ((with_reducible refine eagerLoadAt 5 ?_); refine wpEager_load (by rfl) 37 _ rfl rg 0 rfl (rdA TN DM) _ (fun w' hb => HLA.out w' hb) Tryz.underlying37 rfl (infoRD _ (rdA_size HLS3.out.rd.n3 HLS3.out.rd.m3)) ?_; (try simp only [Act.put, List.setIfInBounds_toArray, List.set_cons_zero, List.set_cons_succ]); (try refine eagerOpen rfl ?_))
              | (first | (apply wpEager_take; (· rfl); (· (intro w' hb'; go_simp; try with_reducible rfl)); (try simp only [Act.put, List.setIfInBounds_toArray, List.set_cons_zero, List.set_cons_succ]); (try refine eagerOpen rfl ?_)) | (refine wpEager_skip (by rfl) ?_; (try simp only [Act.put, List.setIfInBounds_toArray, List.set_cons_zero, List.set_cons_succ]); (try refine eagerOpen rfl ?_)) | (refine wpEager_off (by rfl) ?_; (try simp only [Act.put, List.setIfInBounds_toArray, List.set_cons_zero, List.set_cons_succ]); (try refine eagerOpen rfl ?_))))
            (refine wpEager_op (by rfl) (fun K hK => ?_); go_simp; (refine (Frm.same_any _ _ _ _ _ _ _ _ _ hpa3 hpb).mono ?_; rw [hqs]; rintro e y4 ⟨rfl, hb⟩; have hy4 := hy3.trans (hb.mono hy3.size); clear hb hpa3 hpb); refine Shut.out hK _ _ (by assumption) ?_; clear hK K; (try simp only [Act.put, List.setIfInBounds_toArray, List.set_cons_zero, List.set_cons_succ]); (try refine eagerOpen rfl ?_))
            repeat (first
              | ((with_reducible refine eagerLoadAt 5 ?_); refine wpEager_load (by rfl) 37 _ rfl rg 0 rfl (rdA TN DM) _ (fun w' hb => HLA.out w' hb) Tryz.underlying37 rfl (infoRD _ (rdA_size HLS3.out.rd.n3 HLS3.out.rd.m3)) ?_; (try simp only [Act.put, List.setIfInBounds_toArray, List.set_cons_zero, List.set_cons_succ]); (try refine eagerOpen rfl ?_))
              | (first | (apply wpEager_take; (· rfl); (· (intro w' hb'; go_simp; try with_reducible rfl)); (try simp only [Act.put, List.setIfInBounds_toArray, List.set_cons_zero, List.set_cons_succ]); (try refine eagerOpen rfl ?_)) | (refine wpEager_skip (by rfl) ?_; (try simp only [Act.put, List.setIfInBounds_toArray, List.set_cons_zero, List.set_cons_succ]); (try refine eagerOpen rfl ?_)) | (refine wpEager_off (by rfl) ?_; (try simp only [Act.put, List.setIfInBounds_toArray, List.set_cons_zero, List.set_cons_succ]); (try refine eagerOpen rfl ?_))))
            (refine wpEager_op (by rfl) (fun K hK => ?_); go_simp; (refine (len_any _ (HEY.out _ hy4) (HLS3.out.dx.below hy4) (HLS3.out.rol.below hy4) (by omega)).mono ?_; rintro e y5 ⟨rfl, hb⟩; have hy5 := hy4.trans (hb.mono hy4.size); clear hb); refine Shut.out hK _ _ (by assumption) ?_; clear hK K; (try simp only [Act.put, List.setIfInBounds_toArray, List.set_cons_zero, List.set_cons_succ]); (try refine eagerOpen rfl ?_))
            repeat (first
              | ((with_reducible refine eagerLoadAt 5 ?_); refine wpEager_load (by rfl) 37 _ rfl rg 0 rfl (rdA TN DM) _ (fun w' hb => HLA.out w' hb) Tryz.underlying37 rfl (infoRD _ (rdA_size HLS3.out.rd.n3 HLS3.out.rd.m3)) ?_; (try simp only [Act.put, List.setIfInBounds_toArray, List.set_cons_zero, List.set_cons_succ]); (try refine eagerOpen rfl ?_))
              | (first | (apply wpEager_take; (· rfl); (· (intro w' hb'; go_simp; try with_reducible rfl)); (try simp only [Act.put, List.setIfInBounds_toArray, List.set_cons_zero, List.set_cons_succ]); (try refine eagerOpen rfl ?_)) | (refine wpEager_skip (by rfl) ?_; (try simp only [Act.put, List.setIfInBounds_toArray, List.set_cons_zero, List.set_cons_succ]); (try refine eagerOpen rfl ?_)) | (refine wpEager_off (by rfl) ?_; (try simp only [Act.put, List.setIfInBounds_toArray, List.set_cons_zero, List.set_cons_succ]); (try refine eagerOpen rfl ?_))))
            (refine wpEager_op (by rfl) (fun K hK => ?_); go_simp; (refine (rbodies_pts 0 (by omega) _ (HLS3.out.rd.below hy5)).mono ?_; rintro e y6 ⟨pb6, cb6, rfl, _, hb⟩; have hy6 := hy5.trans (hb.mono hy5.size); clear hb); refine Shut.out hK _ _ (by assumption) ?_; clear hK K; (try simp only [Act.put, List.setIfInBounds_toArray, List.set_cons_zero, List.set_cons_succ]); (try refine eagerOpen rfl ?_))
            repeat (first
              | ((with_reducible refine eagerLoadAt 5 ?_); refine wpEager_load (by rfl) 37 _ rfl rg 0 rfl (rdA TN DM) _ (fun w' hb => HLA.out w' hb) Tryz.underlying37 rfl (infoRD _ (rdA_size HLS3.out.rd.n3 HLS3.out.rd.m3)) ?_; (try simp only [Act.put, List.setIfInBounds_toArray, List.set_cons_zero, List.set_cons_succ]); (try refine eagerOpen rfl ?_))
              | (first | (apply wpEager_take; (· rfl); (· (intro w' hb'; go_simp; try with_reducible rfl)); (try simp only [Act.put, List.setIfInBounds_toArray, List.set_cons_zero, List.set_cons_succ]); (try refine eagerOpen rfl ?_)) | (refine wpEager_skip (by rfl) ?_; (try simp only [Act.put, List.setIfInBounds_toArray, List.set_cons_zero, List.set_cons_succ]); (try refine eagerOpen rfl ?_)) | (refine wpEager_off (by rfl) ?_; (try simp only [Act.put, List.setIfInBounds_toArray, List.set_cons_zero, List.set_cons_succ]); (try refine eagerOpen rfl ?_))))
            (refine wpEager_op (by rfl) (fun K hK => ?_); go_simp; (refine (size_any _ (HLS3.out.dx.below hy6) (HLS3.out.rol.below hy6) (by omega)).mono ?_; rintro e y7 ⟨rfl, hb⟩; have hy7 := hy6.trans (hb.mono hy6.size); clear hb); refine Shut.out hK _ _ (by assumption) ?_; clear hK K; (try simp only [Act.put, List.setIfInBounds_toArray, List.set_cons_zero, List.set_cons_succ]); (try refine eagerOpen rfl ?_))
            repeat (first
              | ((with_reducible refine eagerLoadAt 5 ?_); refine wpEager_load (by rfl) 37 _ rfl rg 0 rfl (rdA TN DM) _ (fun w' hb => HLA.out w' hb) Tryz.underlying37 rfl (infoRD _ (rdA_size HLS3.out.rd.n3 HLS3.out.rd.m3)) ?_; (try simp only [Act.put, List.setIfInBounds_toArray, List.set_cons_zero, List.set_cons_succ]); (try refine eagerOpen rfl ?_))
              | (first | (apply wpEager_take; (· rfl); (· (intro w' hb'; go_simp; try with_reducible rfl)); (try simp only [Act.put, List.setIfInBounds_toArray, List.set_cons_zero, List.set_cons_succ]); (try refine eagerOpen rfl ?_)) | (refine wpEager_skip (by rfl) ?_; (try simp only [Act.put, List.setIfInBounds_toArray, List.set_cons_zero, List.set_cons_succ]); (try refine eagerOpen rfl ?_)) | (refine wpEager_off (by rfl) ?_; (try simp only [Act.put, List.setIfInBounds_toArray, List.set_cons_zero, List.set_cons_succ]); (try refine eagerOpen rfl ?_))))
            (refine wpEager_op (by rfl) (fun K hK => ?_); go_simp; (refine (xsize _ (HLS3.out.dx.below hy7) 0 (by omega)).mono ?_; rintro e y8 ⟨rfl, hb⟩; have hy8 := hy7.trans (hb.mono hy7.size); clear hb); refine Shut.out hK _ _ (by assumption) ?_; clear hK K; (try simp only [Act.put, List.setIfInBounds_toArray, List.set_cons_zero, List.set_cons_succ]); (try refine eagerOpen rfl ?_))
            repeat (first
              | ((with_reducible refine eagerLoadAt 5 ?_); refine wpEager_load (by rfl) 37 _ rfl rg 0 rfl (rdA TN DM) _ (fun w' hb => HLA.out w' hb) Tryz.underlying37 rfl (infoRD _ (rdA_size HLS3.out.rd.n3 HLS3.out.rd.m3)) ?_; (try simp only [Act.put, List.setIfInBounds_toArray, List.set_cons_zero, List.set_cons_succ]); (try refine eagerOpen rfl ?_))
              | (first | (apply wpEager_take; (· rfl); (· (intro w' hb'; go_simp; try with_reducible rfl)); (try simp only [Act.put, List.setIfInBounds_toArray, List.set_cons_zero, List.set_cons_succ]); (try refine eagerOpen rfl ?_)) | (refine wpEager_skip (by rfl) ?_; (try simp only [Act.put, List.setIfInBounds_toArray, List.set_cons_zero, List.set_cons_succ]); (try refine eagerOpen rfl ?_)) | (refine wpEager_off (by rfl) ?_; (try simp only [Act.put, List.setIfInBounds_toArray, List.set_cons_zero, List.set_cons_succ]); (try refine eagerOpen rfl ?_))))
            refine eagerEnd ?_
            have HLE := Lib.hid (HLS3.out.next hy8)
            clear hy0 hy1 hy2 hy3 hy4 hy5 hy6 hy7 hy8 HLA HEY
            go_wp2_with fail
            go_roundw
            case rel => exact ⟨k + 1, by omega, by go_num, _, _, _, rfl, HLE.out, HFD2.out⟩
            case measure => simp [intOf]; omega
          have m2 : (oo.kind == 2) = false := beq_eq_false_iff_ne.2 n2
          by_cases n3 : oo.kind = 3
          · have m3 : (oo.kind == 3) = true := beq_iff_eq.2 n3
            clear n0 n1 n2 n3 kother
            skip
            -- a call both ways that answers nothing: regions 24 and 25; xarm w8 HLS2.out.dx oo.n HNB.out.2, rarm_ox T d oo.n wA hrd HNB.out.2 the calls; (⟨d.fs, d.room, oo.n.toNat, d.down⟩ : DD) what they leave
            have hlen : k < 1000 := by have := HSL.out; omega
            have hf0 : (fD d 0).steps.length ≤ k + 1 := HFD.out.fd
            have hbs8 := HBS.out.below HLS2.out.low
            clear hk0 hk2
            go_upto_region 24 with fail
            go_wp2_with fail
            refine (xarm w8 HLS2.out.dx oo.n HNB.out.2).mono ?_
            rintro e wA ⟨rfl, hdx, hkt⟩
            have hlo := HLS2.out.low.trans (hkt.below HLS2.out.low.size)
            have hro := HLS2.out.rol.kt hkt
            have hbx := hkt.row HLS2.out.box (by decide) (by decide)
            have hrd := HLS2.out.rd.step (kr_of_kt hkt)
            have hbr := hkt.row HBR.out (by decide) (by decide)
            have hur := HLS2.out.dx.room.2.2
            have hag := HLS2.out.at_
            clear hk1 hbs8
            rw [HAE.out] at hbr
            obtain ⟨hk0, hk1, hk2⟩ := ropA_cell hbr
            have hbsA := HBS.out.below hlo
            have HC2 := Lib.hid (rarm_ox T d oo.n wA hrd HNB.out.2)
            have HDX := Lib.hid hdx
            have HLO := Lib.hid hlo
            have HRO := Lib.hid hro
            have HBX := Lib.hid hbx
            have HRD := Lib.hid hrd
            have HAG := Lib.hid hag
            clear hdx hkt hlo hro hbx hrd hbr hur hag hbsA HLS2 HBR hf0 hlen
            go_upto_region 25 with fail
            go_wp2_with (refine wpList_load_row rfl 37 _ rfl rg rfl 37 (rdA T d) (0, 0) _ HBX.out Tryz.underlying37 rfl (infoRD _ (rdA_size HRD.out.n3 HRD.out.m3)) ?_)
            refine HC2.out.mono ?_
            rintro e wB ⟨TN, rfl, hrd2, hb2⟩
            have HDX2 := Lib.hid (HDX.out.below hb2)
            have HLO2 := Lib.hid (HLO.out.trans (hb2.mono HLO.out.size))
            have HRO2 := Lib.hid (HRO.out.below hb2)
            have HBX2 := Lib.hid (Below.keepOld hb2 HBX.out)
            have HRD2 := Lib.hid hrd2
            have HN3 := Lib.hid HRD.out.n3
            have HM3 := Lib.hid HRD.out.m3
            clear hk0 hk1 hk2 hrd2 hb2 HDX HLO HRO HBX HRD HC2
            have HFD2 : Hid (FewD ((⟨d.fs, d.room, oo.n.toNat, d.down⟩ : DD)) (k + 1 + 1)) := HFD.out.mono (by omega)
            obtain ⟨DM, hDM⟩ : ∃ DM, ((⟨d.fs, d.room, oo.n.toNat, d.down⟩ : DD)) = DM := ⟨_, rfl⟩
            rw [hDM] at HDX2 HRD2 HFD2 ⊢
            clear hDM
            go_upto_region 33 with (refine wpList_store_row rfl 37 _ _ rfl rg (rdA TN DM) rfl rfl 37 (rdA T d) HBX2.out (infoRD _ (rdA_size HRD2.out.n3 HRD2.out.m3)) (by rw [rdA_size HRD2.out.n3 HRD2.out.m3, rdA_size HN3.out HM3.out]) (rdA_one HRD2.out.n3 HRD2.out.m3) ?_)
            try simp only [Act.put, List.setIfInBounds_toArray, List.set_cons_zero, List.set_cons_succ]
            have HLS3 := Lib.hid (LS.put HDX2.out HRO2.out HBX2.out HRD2.out HLO2.out HAG.out)
            clear HDX2 HRO2 HBX2 HRD2 HLO2 HAG
            generalize wB.setRow rg (rdA TN DM) = wC at *
            skip
            -- all is compared: world wC, HLS3 : Hid (LS w1 db rb rg TN DM wC), the answers 0 and 0
            have HLA : Hid (∀ w', Below wC.heap.size wC w' → w'.rangeAt rg 0 (rdA TN DM).toList) := fun w' hb => row_rangeR (Below.keepOld hb HLS3.out.box)
            have HEY : Hid (∀ w', Below wC.heap.size wC w' → Rdr.EType w') := fun w' hb => HE.out.below (HLS3.out.low.trans (hb.mono HLS3.out.low.size)) HE.out.lt
            have hqe : ((0 : Int) == 0) = true := beq_self_eq_true _
            have hql : (((scan (fD DM 0).now).1.length : Int) == ((scan (fD DM 0).now).1.length : Int)) = true := beq_self_eq_true _
            have hqn : (((fD DM 0).now.length : Int) == ((fD DM 0).now.length : Int)) = true := beq_self_eq_true _
            have hqs : ((scan (fD DM 0).now).1 == (scan (fD DM 0).now).1) = true := beq_self_eq_true _
            refine wp_region_eager [(0, true), (1, true), (2, true), (3, true), (4, true), (5, true), (6, false), (7, true), (8, true), (9, true), (10, true), (12, true), (11, false), (13, false), (14, false), (15, true), (16, true), (17, true), (18, true), (20, true), (19, false), (21, false), (22, true), (23, true), (24, true), (25, true), (26, true), (28, true), (27, false), (29, false), (30, true), (31, true)] (by kernel_rfl) (by kernel_rfl) (eagerOpen rfl ?_)
            have hy0 : Below wC.heap.size wC wC.drew := below_drew1 _ _
            repeat (first
              | ((with_reducible refine eagerLoadAt 5 ?_); refine wpEager_load (by rfl) 37 _ rfl rg 0 rfl (rdA TN DM) _ (fun w' hb => HLA.out w' hb) Tryz.underlying37 rfl (infoRD _ (rdA_size HLS3.out.rd.n3 HLS3.out.rd.m3)) ?_; (try simp only [Act.put, List.setIfInBounds_toArray, List.set_cons_zero, List.set_cons_succ]); (try refine eagerOpen rfl ?_))
              | (first | (apply wpEager_take; (· rfl); (· (intro w' hb'; go_simp; try with_reducible rfl)); (try simp only [Act.put, List.setIfInBounds_toArray, List.set_cons_zero, List.set_cons_succ]); (try refine eagerOpen rfl ?_)) | (refine wpEager_skip (by rfl) ?_; (try simp only [Act.put, List.setIfInBounds_toArray, List.set_cons_zero, List.set_cons_succ]); (try refine eagerOpen rfl ?_)) | (refine wpEager_off (by rfl) ?_; (try simp only [Act.put, List.setIfInBounds_toArray, List.set_cons_zero, List.set_cons_succ]); (try refine eagerOpen rfl ?_))))
            (refine wpEager_op (by rfl) (fun K hK => ?_); go_simp; (refine (like20_any _ (HLS3.out.dx.below hy0) (HLS3.out.rd.below hy0)).mono ?_; rintro e y1 ⟨rfl, hb⟩; have hy1 := hy0.trans hb; clear hb); refine Shut.out hK _ _ (by assumption) ?_; clear hK K; (try simp only [Act.put, List.setIfInBounds_toArray, List.set_cons_zero, List.set_cons_succ]); (try refine eagerOpen rfl ?_))
            repeat (first
              | ((with_reducible refine eagerLoadAt 5 ?_); refine wpEager_load (by rfl) 37 _ rfl rg 0 rfl (rdA TN DM) _ (fun w' hb => HLA.out w' hb) Tryz.underlying37 rfl (infoRD _ (rdA_size HLS3.out.rd.n3 HLS3.out.rd.m3)) ?_; (try simp only [Act.put, List.setIfInBounds_toArray, List.set_cons_zero, List.set_cons_succ]); (try refine eagerOpen rfl ?_))
              | (first | (apply wpEager_take; (· rfl); (· (intro w' hb'; go_simp; try with_reducible rfl)); (try simp only [Act.put, List.setIfInBounds_toArray, List.set_cons_zero, List.set_cons_succ]); (try refine eagerOpen rfl ?_)) | (refine wpEager_skip (by rfl) ?_; (try simp only [Act.put, List.setIfInBounds_toArray, List.set_cons_zero, List.set_cons_succ]); (try refine eagerOpen rfl ?_)) | (refine wpEager_off (by rfl) ?_; (try simp only [Act.put, List.setIfInBounds_toArray, List.set_cons_zero, List.set_cons_succ]); (try refine eagerOpen rfl ?_))))
            (refine wpEager_op (by rfl) (fun K hK => ?_); go_simp; (refine (bodies_pts _ (HEY.out _ hy1) (HLS3.out.dx.below hy1) (HLS3.out.rol.below hy1) (by omega)).mono ?_; rintro e y2 ⟨pa, ca, rfl, hpa, hb⟩; have hy2 := hy1.trans (hb.mono hy1.size); clear hb); refine Shut.out hK _ _ (by assumption) ?_; clear hK K; (try simp only [Act.put, List.setIfInBounds_toArray, List.set_cons_zero, List.set_cons_succ]); (try refine eagerOpen rfl ?_))
            repeat (first
              | ((with_reducible refine eagerLoadAt 5 ?_); refine wpEager_load (by rfl) 37 _ rfl rg 0 rfl (rdA TN DM) _ (fun w' hb => HLA.out w' hb) Tryz.underlying37 rfl (infoRD _ (rdA_size HLS3.out.rd.n3 HLS3.out.rd.m3)) ?_; (try simp only [Act.put, List.setIfInBounds_toArray, List.set_cons_zero, List.set_cons_succ]); (try refine eagerOpen rfl ?_))
              | (first | (apply wpEager_take; (· rfl); (· (intro w' hb'; go_simp; try with_reducible rfl)); (try simp only [Act.put, List.setIfInBounds_toArray, List.set_cons_zero, List.set_cons_succ]); (try refine eagerOpen rfl ?_)) | (refine wpEager_skip (by rfl) ?_; (try simp only [Act.put, List.setIfInBounds_toArray, List.set_cons_zero, List.set_cons_succ]); (try refine eagerOpen rfl ?_)) | (refine wpEager_off (by rfl) ?_; (try simp only [Act.put, List.setIfInBounds_toArray, List.set_cons_zero, List.set_cons_succ]); (try refine eagerOpen rfl ?_))))
            (refine wpEager_op (by rfl) (fun K hK => ?_); go_simp; (refine (rbodies_pts 0 (by omega) _ (HLS3.out.rd.below hy2)).mono ?_; rintro e y3 ⟨pb3, cb3, rfl, hpb, hb⟩; have hpa3 := hpa.below hb; have hy3 := hy2.trans (hb.mono hy2.size); clear hb hpa); refine Shut.out hK _ _ (by assumption) ?_; clear hK K; (try simp only [Act.put, List.setIfInBounds_toArray, List.set_cons_zero, List.set_cons_succ]); (try refine eagerOpen rfl ?_))
            repeat (first
              | ((with_reducible refine eagerLoadAt 5 ?_); refine wpEager_load (by rfl) 37 _ rfl rg 0 rfl (rdA TN DM) _ (fun w' hb => HLA.out w' hb) Tryz.underlying37 rfl (infoRD _ (rdA_size HLS3.out.rd.n3 HLS3.out.rd.m3)) ?_; (try simp only [Act.put, List.setIfInBounds_toArray, List.set_cons_zero, List.set_cons_succ]); (try refine eagerOpen rfl ?_))
              | (first | (apply wpEager_take; (· rfl); (· (intro w' hb'; go_simp; try with_reducible rfl)); (try simp only [Act.put, List.setIfInBounds_toArray, List.set_cons_zero, List.set_cons_succ]); (try refine eagerOpen rfl ?_)) | (refine wpEager_skip (by rfl) ?_; (try simp only [Act.put, List.setIfInBounds_toArray, List.set_cons_zero, List.set_cons_succ]); (try refine eagerOpen rfl ?_)) | (refine wpEager_off (by rfl) ?_; (try simp only [Act.put, List.setIfInBounds_toArray, List.set_cons_zero, List.set_cons_succ]); (try refine eagerOpen rfl ?_))))
            (refine wpEager_op (by rfl) (fun K hK => ?_); go_simp; (refine (Frm.same_any _ _ _ _ _ _ _ _ _ hpa3 hpb).mono ?_; rw [hqs]; rintro e y4 ⟨rfl, hb⟩; have hy4 := hy3.trans (hb.mono hy3.size); clear hb hpa3 hpb); refine Shut.out hK _ _ (by assumption) ?_; clear hK K; (try simp only [Act.put, List.setIfInBounds_toArray, List.set_cons_zero, List.set_cons_succ]); (try refine eagerOpen rfl ?_))
            repeat (first
              | ((with_reducible refine eagerLoadAt 5 ?_); refine wpEager_load (by rfl) 37 _ rfl rg 0 rfl (rdA TN DM) _ (fun w' hb => HLA.out w' hb) Tryz.underlying37 rfl (infoRD _ (rdA_size HLS3.out.rd.n3 HLS3.out.rd.m3)) ?_; (try simp only [Act.put, List.setIfInBounds_toArray, List.set_cons_zero, List.set_cons_succ]); (try refine eagerOpen rfl ?_))
              | (first | (apply wpEager_take; (· rfl); (· (intro w' hb'; go_simp; try with_reducible rfl)); (try simp only [Act.put, List.setIfInBounds_toArray, List.set_cons_zero, List.set_cons_succ]); (try refine eagerOpen rfl ?_)) | (refine wpEager_skip (by rfl) ?_; (try simp only [Act.put, List.setIfInBounds_toArray, List.set_cons_zero, List.set_cons_succ]); (try refine eagerOpen rfl ?_)) | (refine wpEager_off (by rfl) ?_; (try simp only [Act.put, List.setIfInBounds_toArray, List.set_cons_zero, List.set_cons_succ]); (try refine eagerOpen rfl ?_))))
            (refine wpEager_op (by rfl) (fun K hK => ?_); go_simp; (refine (len_any _ (HEY.out _ hy4) (HLS3.out.dx.below hy4) (HLS3.out.rol.below hy4) (by omega)).mono ?_; rintro e y5 ⟨rfl, hb⟩; have hy5 := hy4.trans (hb.mono hy4.size); clear hb); refine Shut.out hK _ _ (by assumption) ?_; clear hK K; (try simp only [Act.put, List.setIfInBounds_toArray, List.set_cons_zero, List.set_cons_succ]); (try refine eagerOpen rfl ?_))
            repeat (first
              | ((with_reducible refine eagerLoadAt 5 ?_); refine wpEager_load (by rfl) 37 _ rfl rg 0 rfl (rdA TN DM) _ (fun w' hb => HLA.out w' hb) Tryz.underlying37 rfl (infoRD _ (rdA_size HLS3.out.rd.n3 HLS3.out.rd.m3)) ?_; (try simp only [Act.put, List.setIfInBounds_toArray, List.set_cons_zero, List.set_cons_succ]); (try refine eagerOpen rfl ?_))
              | (first | (apply wpEager_take; (· rfl); (· (intro w' hb'; go_simp; try with_reducible rfl)); (try simp only [Act.put, List.setIfInBounds_toArray, List.set_cons_zero, List.set_cons_succ]); (try refine eagerOpen rfl ?_)) | (refine wpEager_skip (by rfl) ?_; (try simp only [Act.put, List.setIfInBounds_toArray, List.set_cons_zero, List.set_cons_succ]); (try refine eagerOpen rfl ?_)) | (refine wpEager_off (by rfl) ?_; (try simp only [Act.put, List.setIfInBounds_toArray, List.set_cons_zero, List.set_cons_succ]); (try refine eagerOpen rfl ?_))))
            (refine wpEager_op (by rfl) (fun K hK => ?_); go_simp; (refine (rbodies_pts 0 (by omega) _ (HLS3.out.rd.below hy5)).mono ?_; rintro e y6 ⟨pb6, cb6, rfl, _, hb⟩; have hy6 := hy5.trans (hb.mono hy5.size); clear hb); refine Shut.out hK _ _ (by assumption) ?_; clear hK K; (try simp only [Act.put, List.setIfInBounds_toArray, List.set_cons_zero, List.set_cons_succ]); (try refine eagerOpen rfl ?_))
            repeat (first
              | ((with_reducible refine eagerLoadAt 5 ?_); refine wpEager_load (by rfl) 37 _ rfl rg 0 rfl (rdA TN DM) _ (fun w' hb => HLA.out w' hb) Tryz.underlying37 rfl (infoRD _ (rdA_size HLS3.out.rd.n3 HLS3.out.rd.m3)) ?_; (try simp only [Act.put, List.setIfInBounds_toArray, List.set_cons_zero, List.set_cons_succ]); (try refine eagerOpen rfl ?_))
              | (first | (apply wpEager_take; (· rfl); (· (intro w' hb'; go_simp; try with_reducible rfl)); (try simp only [Act.put, List.setIfInBounds_toArray, List.set_cons_zero, List.set_cons_succ]); (try refine eagerOpen rfl ?_)) | (refine wpEager_skip (by rfl) ?_; (try simp only [Act.put, List.setIfInBounds_toArray, List.set_cons_zero, List.set_cons_succ]); (try refine eagerOpen rfl ?_)) | (refine wpEager_off (by rfl) ?_; (try simp only [Act.put, List.setIfInBounds_toArray, List.set_cons_zero, List.set_cons_succ]); (try refine eagerOpen rfl ?_))))
            (refine wpEager_op (by rfl) (fun K hK => ?_); go_simp; (refine (size_any _ (HLS3.out.dx.below hy6) (HLS3.out.rol.below hy6) (by omega)).mono ?_; rintro e y7 ⟨rfl, hb⟩; have hy7 := hy6.trans (hb.mono hy6.size); clear hb); refine Shut.out hK _ _ (by assumption) ?_; clear hK K; (try simp only [Act.put, List.setIfInBounds_toArray, List.set_cons_zero, List.set_cons_succ]); (try refine eagerOpen rfl ?_))
            repeat (first
              | ((with_reducible refine eagerLoadAt 5 ?_); refine wpEager_load (by rfl) 37 _ rfl rg 0 rfl (rdA TN DM) _ (fun w' hb => HLA.out w' hb) Tryz.underlying37 rfl (infoRD _ (rdA_size HLS3.out.rd.n3 HLS3.out.rd.m3)) ?_; (try simp only [Act.put, List.setIfInBounds_toArray, List.set_cons_zero, List.set_cons_succ]); (try refine eagerOpen rfl ?_))
              | (first | (apply wpEager_take; (· rfl); (· (intro w' hb'; go_simp; try with_reducible rfl)); (try simp only [Act.put, List.setIfInBounds_toArray, List.set_cons_zero, List.set_cons_succ]); (try refine eagerOpen rfl ?_)) | (refine wpEager_skip (by rfl) ?_; (try simp only [Act.put, List.setIfInBounds_toArray, List.set_cons_zero, List.set_cons_succ]); (try refine eagerOpen rfl ?_)) | (refine wpEager_off (by rfl) ?_; (try simp only [Act.put, List.setIfInBounds_toArray, List.set_cons_zero, List.set_cons_succ]); (try refine eagerOpen rfl ?_))))
            (refine wpEager_op (by rfl) (fun K hK => ?_); go_simp; (refine (xsize _ (HLS3.out.dx.below hy7) 0 (by omega)).mono ?_; rintro e y8 ⟨rfl, hb⟩; have hy8 := hy7.trans (hb.mono hy7.size); clear hb); refine Shut.out hK _ _ (by assumption) ?_; clear hK K; (try simp only [Act.put, List.setIfInBounds_toArray, List.set_cons_zero, List.set_cons_succ]); (try refine eagerOpen rfl ?_))
            repeat (first
              | ((with_reducible refine eagerLoadAt 5 ?_); refine wpEager_load (by rfl) 37 _ rfl rg 0 rfl (rdA TN DM) _ (fun w' hb => HLA.out w' hb) Tryz.underlying37 rfl (infoRD _ (rdA_size HLS3.out.rd.n3 HLS3.out.rd.m3)) ?_; (try simp only [Act.put, List.setIfInBounds_toArray, List.set_cons_zero, List.set_cons_succ]); (try refine eagerOpen rfl ?_))
              | (first | (apply wpEager_take; (· rfl); (· (intro w' hb'; go_simp; try with_reducible rfl)); (try simp only [Act.put, List.setIfInBounds_toArray, List.set_cons_zero, List.set_cons_succ]); (try refine eagerOpen rfl ?_)) | (refine wpEager_skip (by rfl) ?_; (try simp only [Act.put, List.setIfInBounds_toArray, List.set_cons_zero, List.set_cons_succ]); (try refine eagerOpen rfl ?_)) | (refine wpEager_off (by rfl) ?_; (try simp only [Act.put, List.setIfInBounds_toArray, List.set_cons_zero, List.set_cons_succ]); (try refine eagerOpen rfl ?_))))
            refine eagerEnd ?_
            have HLE := Lib.hid (HLS3.out.next hy8)
            clear hy0 hy1 hy2 hy3 hy4 hy5 hy6 hy7 hy8 HLA HEY
            go_wp2_with fail
            go_roundw
            case rel => exact ⟨k + 1, by omega, by go_num, _, _, _, rfl, HLE.out, HFD2.out⟩
            case measure => simp [intOf]; omega
          have m3 : (oo.kind == 3) = false := beq_eq_false_iff_ne.2 n3
          have n4 : oo.kind = 4 := Classical.byContradiction fun h => kother ⟨n0, n1, n2, n3, h⟩
          have m4 : (oo.kind == 4) = true := beq_iff_eq.2 n4
          clear n0 n1 n2 n3 n4 kother
          have hlen : k < 1000 := by have := HSL.out; omega
          have hal := Below.allocs w8 (.cells #[.int .i64 oo.n] 3)
          have HC1 := Lib.hid (xcrash _ (HLS2.out.dx.below hal) [oo.n] _ 1 (ns1 w8 oo.n HNB.out) (fun a ha => by
            obtain rfl := Option.some.inj ha
            refine ⟨fun hk => ?_, by simp⟩
            obtain ⟨_, M, t, fr, e, ht⟩ := hk
            have e0 := heap_alloc_last w8 (.cells #[.int .i64 oo.n] 3)
            rw [e0] at e
            injection e with e1
            injection e1 with _ e2
            subst e2
            rcases ht with h | h <;> exact absurd h (by decide)))
          have HAL := Lib.hid hal
          clear hk0 hk2 hal
          go_upto_region 27 with fail
          go_wp2_with fail
          refine HC1.out.mono ?_
          rintro e wA ⟨rfl, hdx, hkt⟩
          have hlo1 := HLS2.out.low.trans (HAL.out.mono HLS2.out.low.size)
          have hlo := hlo1.trans (hkt.below hlo1.size)
          have hro := (HLS2.out.rol.below HAL.out).kt hkt
          have hbx := hkt.row (Below.keepOld HAL.out HLS2.out.box) (by decide) (by decide)
          have hrd := (HLS2.out.rd.below HAL.out).step (kr_of_kt hkt)
          have hbr := hkt.row (Below.keepOld HAL.out HBR.out) (by decide) (by decide)
          have hag := HLS2.out.at_
          have h3 : (crashD [oo.n] d).fs.length = 3 := hdx.len3
          have hoe : opnE (crashD [oo.n] d) 0 = 0 := open_crash (by omega) (hdx.ok (by omega)) hdx.room.2.2
          have hf0 : FewD (crashD [oo.n] d) 0 := FewD.crash _
          clear hk1 hlo1 h3
          rw [HAE.out] at hbr
          obtain ⟨hk0, hk1, hk2⟩ := ropA_cell hbr
          clear hk0 hk2
          have halA := Below.allocs wA (.cells #[.int .i64 oo.n] 3)
          have HC2 := Lib.hid (rcrash_any T d [oo.n] _ 1 _ (hrd.below halA) (ns1 wA oo.n HNB.out))
          have HALA := Lib.hid halA
          have HDX := Lib.hid hdx
          have HLO := Lib.hid hlo
          have HRO := Lib.hid hro
          have HBX := Lib.hid hbx
          have HRD := Lib.hid hrd
          have HAG := Lib.hid hag
          have HOE := Lib.hid hoe
          have HF0 := Lib.hid hf0
          clear hdx hkt hlo hro hbx hrd hbr hag hoe hf0 halA HLS2 HBR HAL HC1
          go_upto_region 28 with fail
          go_wp2_with (refine wpList_load_row rfl 37 _ rfl rg rfl 37 (rdA T d) (0, 0) _ HBX.out Tryz.underlying37 rfl (infoRD _ (rdA_size HRD.out.n3 HRD.out.m3)) ?_)
          refine HC2.out.mono ?_
          rintro e wB ⟨TN, rfl, hrd2, hb2⟩
          have hb3 := HALA.out.trans (hb2.mono HALA.out.size)
          have HDX2 := Lib.hid (HDX.out.below hb3)
          have HLO2 := Lib.hid (HLO.out.trans (hb3.mono HLO.out.size))
          have HRO2 := Lib.hid (HRO.out.below hb3)
          have HBX2 := Lib.hid (Below.keepOld hb3 HBX.out)
          have HRD2 := Lib.hid hrd2
          have HN3 := Lib.hid HRD.out.n3
          have HM3 := Lib.hid HRD.out.m3
          clear hk1 hrd2 hb2 hb3 HDX HLO HRO HBX HRD HC2 HALA
          generalize crashD [oo.n] d = DC at *
          go_upto_region 29 with (refine wpList_store_row rfl 37 _ _ rfl rg (rdA TN DC) rfl rfl 37 (rdA T d) HBX2.out (infoRD _ (rdA_size HRD2.out.n3 HRD2.out.m3)) (by rw [rdA_size HRD2.out.n3 HRD2.out.m3, rdA_size HN3.out HM3.out]) (rdA_one HRD2.out.n3 HRD2.out.m3) ?_)
          try simp only [Act.put, List.setIfInBounds_toArray, List.set_cons_zero, List.set_cons_succ]
          have HLS3 := Lib.hid (LS.put HDX2.out HRO2.out HBX2.out HRD2.out HLO2.out HAG.out)
          clear HDX2 HRO2 HBX2 HRD2 HLO2 HN3 HM3
          generalize wB.setRow rg (rdA TN DC) = wC at *
          have hfw : (fD DC 0).steps.length ≤ 0 := HF0.out.fd
          have HOP := Lib.hid (open_any wC (HE.out.below HLS3.out.low HE.out.lt) HLS3.out.dx (i := 0) (by omega) (by omega))
          clear hfw
          go_wp2_with fail
          refine HOP.out.mono ?_
          rintro e wD ⟨hx5, hk5, hsay⟩
          obtain ⟨rb2, he, hrl⟩ : ∃ rb2, e = .returned (.tuple #[.pointer (some ⟨rb2, 0, none⟩), .int .i64 0]) ∧ RolAt wD rb2 db 0 := by
            rcases hsay with ⟨_, h⟩ | ⟨h, _⟩
            · exact h
            · exact absurd HOE.out h
          subst he
          have hfw : (fD DC 0).steps.length ≤ 0 := HF0.out.fd
          have HX5 := Lib.hid hx5
          have HRL5 := Lib.hid hrl
          have HW5 := Lib.hid (HLS3.out.low.trans (hk5.below HLS3.out.low.size))
          have HK5 := Lib.hid (hk5.row HLS3.out.box (by decide) (by decide))
          have HRD5 := Lib.hid (HLS3.out.rd.step (kr_of_kt hk5))
          have HRP := Lib.hid (ropen_any TN DC 0 (by omega) wD HRD5.out HLS3.out.dx.room.2.2 (by omega))
          rw [HOE.out] at HRP
          have HFD2 : Hid (FewD (opnD DC 0) (k + 1 + 1)) := (FewD.opn HF0.out 0).mono (by omega)
          clear hsay hx5 hk5 hrl hfw HLS3 HOP HOE HF0
          generalize opnD DC 0 = D0 at *
          go_wp2_with (refine wpList_load_row rfl 37 _ rfl rg rfl 37 (rdA TN DC) (0, 0) _ HK5.out Tryz.underlying37 rfl (infoRD _ (rdA_size HRD5.out.n3 HRD5.out.m3)) ?_)
          refine HRP.out.mono ?_
          rintro e wE ⟨T1, rfl, hrd, hb6⟩
          have HX6 := Lib.hid (HX5.out.below hb6)
          have HRL6 := Lib.hid (HRL5.out.below hb6)
          have HW6 := Lib.hid (HW5.out.trans (hb6.mono HW5.out.size))
          have HK6 := Lib.hid (Below.keepOld hb6 HK5.out)
          have HRD6 := Lib.hid hrd
          have HN3 := Lib.hid HRD5.out.n3
          have HM3 := Lib.hid HRD5.out.m3
          clear hrd hb6 HX5 HRL5 HW5 HK5 HRD5 HRP
          go_upto_region 33 with (refine wpList_store_row rfl 37 _ _ rfl rg (rdA T1 D0) rfl rfl 37 (rdA TN DC) HK6.out (infoRD _ (rdA_size HRD6.out.n3 HRD6.out.m3)) (by rw [rdA_size HRD6.out.n3 HRD6.out.m3, rdA_size HN3.out HM3.out]) (rdA_one HRD6.out.n3 HRD6.out.m3) ?_)
          try simp only [Act.put, List.setIfInBounds_toArray, List.set_cons_zero, List.set_cons_succ]
          have HLS6 := Lib.hid (LS.put HX6.out HRL6.out HK6.out HRD6.out HW6.out HAG.out)
          clear HX6 HRL6 HK6 HRD6 HW6 HAG HN3 HM3
          generalize wE.setRow rg (rdA T1 D0) = wF at *
          skip
          -- all is compared: world wF, HLS6 : Hid (LS w1 db rb2 rg T1 D0 wF), the answers 0 and 0
          have HLA : Hid (∀ w', Below wF.heap.size wF w' → w'.rangeAt rg 0 (rdA T1 D0).toList) := fun w' hb => row_rangeR (Below.keepOld hb HLS6.out.box)
          have HEY : Hid (∀ w', Below wF.heap.size wF w' → Rdr.EType w') := fun w' hb => HE.out.below (HLS6.out.low.trans (hb.mono HLS6.out.low.size)) HE.out.lt
          have hqe : ((0 : Int) == 0) = true := beq_self_eq_true _
          have hql : (((scan (fD D0 0).now).1.length : Int) == ((scan (fD D0 0).now).1.length : Int)) = true := beq_self_eq_true _
          have hqn : (((fD D0 0).now.length : Int) == ((fD D0 0).now.length : Int)) = true := beq_self_eq_true _
          have hqs : ((scan (fD D0 0).now).1 == (scan (fD D0 0).now).1) = true := beq_self_eq_true _
          refine wp_region_eager [(0, true), (1, true), (2, true), (3, true), (4, true), (5, true), (6, false), (7, true), (8, true), (9, true), (10, true), (12, true), (11, false), (13, false), (14, false), (15, true), (16, true), (17, true), (18, true), (20, true), (19, false), (21, false), (22, true), (23, true), (24, true), (25, true), (26, true), (28, true), (27, false), (29, false), (30, true), (31, true)] (by kernel_rfl) (by kernel_rfl) (eagerOpen rfl ?_)
          have hy0 : Below wF.heap.size wF wF.drew := below_drew1 _ _
          repeat (first
            | ((with_reducible refine eagerLoadAt 5 ?_); refine wpEager_load (by rfl) 37 _ rfl rg 0 rfl (rdA T1 D0) _ (fun w' hb => HLA.out w' hb) Tryz.underlying37 rfl (infoRD _ (rdA_size HLS6.out.rd.n3 HLS6.out.rd.m3)) ?_; (try simp only [Act.put, List.setIfInBounds_toArray, List.set_cons_zero, List.set_cons_succ]); (try refine eagerOpen rfl ?_))
            | (first | (apply wpEager_take; (· rfl); (· (intro w' hb'; go_simp; try with_reducible rfl)); (try simp only [Act.put, List.setIfInBounds_toArray, List.set_cons_zero, List.set_cons_succ]); (try refine eagerOpen rfl ?_)) | (refine wpEager_skip (by rfl) ?_; (try simp only [Act.put, List.setIfInBounds_toArray, List.set_cons_zero, List.set_cons_succ]); (try refine eagerOpen rfl ?_)) | (refine wpEager_off (by rfl) ?_; (try simp only [Act.put, List.setIfInBounds_toArray, List.set_cons_zero, List.set_cons_succ]); (try refine eagerOpen rfl ?_))))
          (refine wpEager_op (by rfl) (fun K hK => ?_); go_simp; (refine (like20_any _ (HLS6.out.dx.below hy0) (HLS6.out.rd.below hy0)).mono ?_; rintro e y1 ⟨rfl, hb⟩; have hy1 := hy0.trans hb; clear hb); refine Shut.out hK _ _ (by assumption) ?_; clear hK K; (try simp only [Act.put, List.setIfInBounds_toArray, List.set_cons_zero, List.set_cons_succ]); (try refine eagerOpen rfl ?_))
          repeat (first
            | ((with_reducible refine eagerLoadAt 5 ?_); refine wpEager_load (by rfl) 37 _ rfl rg 0 rfl (rdA T1 D0) _ (fun w' hb => HLA.out w' hb) Tryz.underlying37 rfl (infoRD _ (rdA_size HLS6.out.rd.n3 HLS6.out.rd.m3)) ?_; (try simp only [Act.put, List.setIfInBounds_toArray, List.set_cons_zero, List.set_cons_succ]); (try refine eagerOpen rfl ?_))
            | (first | (apply wpEager_take; (· rfl); (· (intro w' hb'; go_simp; try with_reducible rfl)); (try simp only [Act.put, List.setIfInBounds_toArray, List.set_cons_zero, List.set_cons_succ]); (try refine eagerOpen rfl ?_)) | (refine wpEager_skip (by rfl) ?_; (try simp only [Act.put, List.setIfInBounds_toArray, List.set_cons_zero, List.set_cons_succ]); (try refine eagerOpen rfl ?_)) | (refine wpEager_off (by rfl) ?_; (try simp only [Act.put, List.setIfInBounds_toArray, List.set_cons_zero, List.set_cons_succ]); (try refine eagerOpen rfl ?_))))
          (refine wpEager_op (by rfl) (fun K hK => ?_); go_simp; (refine (bodies_pts _ (HEY.out _ hy1) (HLS6.out.dx.below hy1) (HLS6.out.rol.below hy1) (by omega)).mono ?_; rintro e y2 ⟨pa, ca, rfl, hpa, hb⟩; have hy2 := hy1.trans (hb.mono hy1.size); clear hb); refine Shut.out hK _ _ (by assumption) ?_; clear hK K; (try simp only [Act.put, List.setIfInBounds_toArray, List.set_cons_zero, List.set_cons_succ]); (try refine eagerOpen rfl ?_))
          repeat (first
            | ((with_reducible refine eagerLoadAt 5 ?_); refine wpEager_load (by rfl) 37 _ rfl rg 0 rfl (rdA T1 D0) _ (fun w' hb => HLA.out w' hb) Tryz.underlying37 rfl (infoRD _ (rdA_size HLS6.out.rd.n3 HLS6.out.rd.m3)) ?_; (try simp only [Act.put, List.setIfInBounds_toArray, List.set_cons_zero, List.set_cons_succ]); (try refine eagerOpen rfl ?_))
            | (first | (apply wpEager_take; (· rfl); (· (intro w' hb'; go_simp; try with_reducible rfl)); (try simp only [Act.put, List.setIfInBounds_toArray, List.set_cons_zero, List.set_cons_succ]); (try refine eagerOpen rfl ?_)) | (refine wpEager_skip (by rfl) ?_; (try simp only [Act.put, List.setIfInBounds_toArray, List.set_cons_zero, List.set_cons_succ]); (try refine eagerOpen rfl ?_)) | (refine wpEager_off (by rfl) ?_; (try simp only [Act.put, List.setIfInBounds_toArray, List.set_cons_zero, List.set_cons_succ]); (try refine eagerOpen rfl ?_))))
          (refine wpEager_op (by rfl) (fun K hK => ?_); go_simp; (refine (rbodies_pts 0 (by omega) _ (HLS6.out.rd.below hy2)).mono ?_; rintro e y3 ⟨pb3, cb3, rfl, hpb, hb⟩; have hpa3 := hpa.below hb; have hy3 := hy2.trans (hb.mono hy2.size); clear hb hpa); refine Shut.out hK _ _ (by assumption) ?_; clear hK K; (try simp only [Act.put, List.setIfInBounds_toArray, List.set_cons_zero, List.set_cons_succ]); (try refine eagerOpen rfl ?_))
          repeat (first
            | ((with_reducible refine eagerLoadAt 5 ?_); refine wpEager_load (by rfl) 37 _ rfl rg 0 rfl (rdA T1 D0) _ (fun w' hb => HLA.out w' hb) Tryz.underlying37 rfl (infoRD _ (rdA_size HLS6.out.rd.n3 HLS6.out.rd.m3)) ?_; (try simp only [Act.put, List.setIfInBounds_toArray, List.set_cons_zero, List.set_cons_succ]); (try refine eagerOpen rfl ?_))
            | (first | (apply wpEager_take; (· rfl); (· (intro w' hb'; go_simp; try with_reducible rfl)); (try simp only [Act.put, List.setIfInBounds_toArray, List.set_cons_zero, List.set_cons_succ]); (try refine eagerOpen rfl ?_)) | (refine wpEager_skip (by rfl) ?_; (try simp only [Act.put, List.setIfInBounds_toArray, List.set_cons_zero, List.set_cons_succ]); (try refine eagerOpen rfl ?_)) | (refine wpEager_off (by rfl) ?_; (try simp only [Act.put, List.setIfInBounds_toArray, List.set_cons_zero, List.set_cons_succ]); (try refine eagerOpen rfl ?_))))
          (refine wpEager_op (by rfl) (fun K hK => ?_); go_simp; (refine (Frm.same_any _ _ _ _ _ _ _ _ _ hpa3 hpb).mono ?_; rw [hqs]; rintro e y4 ⟨rfl, hb⟩; have hy4 := hy3.trans (hb.mono hy3.size); clear hb hpa3 hpb); refine Shut.out hK _ _ (by assumption) ?_; clear hK K; (try simp only [Act.put, List.setIfInBounds_toArray, List.set_cons_zero, List.set_cons_succ]); (try refine eagerOpen rfl ?_))
          repeat (first
            | ((with_reducible refine eagerLoadAt 5 ?_); refine wpEager_load (by rfl) 37 _ rfl rg 0 rfl (rdA T1 D0) _ (fun w' hb => HLA.out w' hb) Tryz.underlying37 rfl (infoRD _ (rdA_size HLS6.out.rd.n3 HLS6.out.rd.m3)) ?_; (try simp only [Act.put, List.setIfInBounds_toArray, List.set_cons_zero, List.set_cons_succ]); (try refine eagerOpen rfl ?_))
            | (first | (apply wpEager_take; (· rfl); (· (intro w' hb'; go_simp; try with_reducible rfl)); (try simp only [Act.put, List.setIfInBounds_toArray, List.set_cons_zero, List.set_cons_succ]); (try refine eagerOpen rfl ?_)) | (refine wpEager_skip (by rfl) ?_; (try simp only [Act.put, List.setIfInBounds_toArray, List.set_cons_zero, List.set_cons_succ]); (try refine eagerOpen rfl ?_)) | (refine wpEager_off (by rfl) ?_; (try simp only [Act.put, List.setIfInBounds_toArray, List.set_cons_zero, List.set_cons_succ]); (try refine eagerOpen rfl ?_))))
          (refine wpEager_op (by rfl) (fun K hK => ?_); go_simp; (refine (len_any _ (HEY.out _ hy4) (HLS6.out.dx.below hy4) (HLS6.out.rol.below hy4) (by omega)).mono ?_; rintro e y5 ⟨rfl, hb⟩; have hy5 := hy4.trans (hb.mono hy4.size); clear hb); refine Shut.out hK _ _ (by assumption) ?_; clear hK K; (try simp only [Act.put, List.setIfInBounds_toArray, List.set_cons_zero, List.set_cons_succ]); (try refine eagerOpen rfl ?_))
          repeat (first
            | ((with_reducible refine eagerLoadAt 5 ?_); refine wpEager_load (by rfl) 37 _ rfl rg 0 rfl (rdA T1 D0) _ (fun w' hb => HLA.out w' hb) Tryz.underlying37 rfl (infoRD _ (rdA_size HLS6.out.rd.n3 HLS6.out.rd.m3)) ?_; (try simp only [Act.put, List.setIfInBounds_toArray, List.set_cons_zero, List.set_cons_succ]); (try refine eagerOpen rfl ?_))
            | (first | (apply wpEager_take; (· rfl); (· (intro w' hb'; go_simp; try with_reducible rfl)); (try simp only [Act.put, List.setIfInBounds_toArray, List.set_cons_zero, List.set_cons_succ]); (try refine eagerOpen rfl ?_)) | (refine wpEager_skip (by rfl) ?_; (try simp only [Act.put, List.setIfInBounds_toArray, List.set_cons_zero, List.set_cons_succ]); (try refine eagerOpen rfl ?_)) | (refine wpEager_off (by rfl) ?_; (try simp only [Act.put, List.setIfInBounds_toArray, List.set_cons_zero, List.set_cons_succ]); (try refine eagerOpen rfl ?_))))
          (refine wpEager_op (by rfl) (fun K hK => ?_); go_simp; (refine (rbodies_pts 0 (by omega) _ (HLS6.out.rd.below hy5)).mono ?_; rintro e y6 ⟨pb6, cb6, rfl, _, hb⟩; have hy6 := hy5.trans (hb.mono hy5.size); clear hb); refine Shut.out hK _ _ (by assumption) ?_; clear hK K; (try simp only [Act.put, List.setIfInBounds_toArray, List.set_cons_zero, List.set_cons_succ]); (try refine eagerOpen rfl ?_))
          repeat (first
            | ((with_reducible refine eagerLoadAt 5 ?_); refine wpEager_load (by rfl) 37 _ rfl rg 0 rfl (rdA T1 D0) _ (fun w' hb => HLA.out w' hb) Tryz.underlying37 rfl (infoRD _ (rdA_size HLS6.out.rd.n3 HLS6.out.rd.m3)) ?_; (try simp only [Act.put, List.setIfInBounds_toArray, List.set_cons_zero, List.set_cons_succ]); (try refine eagerOpen rfl ?_))
            | (first | (apply wpEager_take; (· rfl); (· (intro w' hb'; go_simp; try with_reducible rfl)); (try simp only [Act.put, List.setIfInBounds_toArray, List.set_cons_zero, List.set_cons_succ]); (try refine eagerOpen rfl ?_)) | (refine wpEager_skip (by rfl) ?_; (try simp only [Act.put, List.setIfInBounds_toArray, List.set_cons_zero, List.set_cons_succ]); (try refine eagerOpen rfl ?_)) | (refine wpEager_off (by rfl) ?_; (try simp only [Act.put, List.setIfInBounds_toArray, List.set_cons_zero, List.set_cons_succ]); (try refine eagerOpen rfl ?_))))
          (refine wpEager_op (by rfl) (fun K hK => ?_); go_simp; (refine (size_any _ (HLS6.out.dx.below hy6) (HLS6.out.rol.below hy6) (by omega)).mono ?_; rintro e y7 ⟨rfl, hb⟩; have hy7 := hy6.trans (hb.mono hy6.size); clear hb); refine Shut.out hK _ _ (by assumption) ?_; clear hK K; (try simp only [Act.put, List.setIfInBounds_toArray, List.set_cons_zero, List.set_cons_succ]); (try refine eagerOpen rfl ?_))
          repeat (first
            | ((with_reducible refine eagerLoadAt 5 ?_); refine wpEager_load (by rfl) 37 _ rfl rg 0 rfl (rdA T1 D0) _ (fun w' hb => HLA.out w' hb) Tryz.underlying37 rfl (infoRD _ (rdA_size HLS6.out.rd.n3 HLS6.out.rd.m3)) ?_; (try simp only [Act.put, List.setIfInBounds_toArray, List.set_cons_zero, List.set_cons_succ]); (try refine eagerOpen rfl ?_))
            | (first | (apply wpEager_take; (· rfl); (· (intro w' hb'; go_simp; try with_reducible rfl)); (try simp only [Act.put, List.setIfInBounds_toArray, List.set_cons_zero, List.set_cons_succ]); (try refine eagerOpen rfl ?_)) | (refine wpEager_skip (by rfl) ?_; (try simp only [Act.put, List.setIfInBounds_toArray, List.set_cons_zero, List.set_cons_succ]); (try refine eagerOpen rfl ?_)) | (refine wpEager_off (by rfl) ?_; (try simp only [Act.put, List.setIfInBounds_toArray, List.set_cons_zero, List.set_cons_succ]); (try refine eagerOpen rfl ?_))))
          (refine wpEager_op (by rfl) (fun K hK => ?_); go_simp; (refine (xsize _ (HLS6.out.dx.below hy7) 0 (by omega)).mono ?_; rintro e y8 ⟨rfl, hb⟩; have hy8 := hy7.trans (hb.mono hy7.size); clear hb); refine Shut.out hK _ _ (by assumption) ?_; clear hK K; (try simp only [Act.put, List.setIfInBounds_toArray, List.set_cons_zero, List.set_cons_succ]); (try refine eagerOpen rfl ?_))
          repeat (first
            | ((with_reducible refine eagerLoadAt 5 ?_); refine wpEager_load (by rfl) 37 _ rfl rg 0 rfl (rdA T1 D0) _ (fun w' hb => HLA.out w' hb) Tryz.underlying37 rfl (infoRD _ (rdA_size HLS6.out.rd.n3 HLS6.out.rd.m3)) ?_; (try simp only [Act.put, List.setIfInBounds_toArray, List.set_cons_zero, List.set_cons_succ]); (try refine eagerOpen rfl ?_))
            | (first | (apply wpEager_take; (· rfl); (· (intro w' hb'; go_simp; try with_reducible rfl)); (try simp only [Act.put, List.setIfInBounds_toArray, List.set_cons_zero, List.set_cons_succ]); (try refine eagerOpen rfl ?_)) | (refine wpEager_skip (by rfl) ?_; (try simp only [Act.put, List.setIfInBounds_toArray, List.set_cons_zero, List.set_cons_succ]); (try refine eagerOpen rfl ?_)) | (refine wpEager_off (by rfl) ?_; (try simp only [Act.put, List.setIfInBounds_toArray, List.set_cons_zero, List.set_cons_succ]); (try refine eagerOpen rfl ?_))))
          refine eagerEnd ?_
          have HLE := Lib.hid (HLS6.out.next hy8)
          clear hy0 hy1 hy2 hy3 hy4 hy5 hy6 hy7 hy8 HLA HEY
          go_wp2_with fail
          go_roundw
          case rel => exact ⟨k + 1, by omega, by go_num, _, _, _, rfl, HLE.out, HFD2.out⟩
          case measure => simp [intOf]; omega
      · have hd : decide ((k : Int) < (os.length : Int)) = false := decide_eq_false (by omega)
        have hd2 : decide (k < os.length) = false := decide_eq_false hlt
        have HA := Lib.hid (alive20_any wr (HE.out.below HLS.out.low HE.out.lt))
        have HBF := Lib.hid (HB1.out.trans (HLS.out.low.mono HB1.out.size))
        go_wp2_with fail
        refine HA.out.mono ?_
        rintro e w9 ⟨rfl, hb9⟩
        have HB9 := Lib.hid (HBF.out.trans (hb9.mono HBF.out.size))
        go_wp2_with fail
        go_ret
        exact ⟨rfl, HB9.out⟩
end Go.Proofs.YtkacmgfehmjijaaGreatDoor.Rk
