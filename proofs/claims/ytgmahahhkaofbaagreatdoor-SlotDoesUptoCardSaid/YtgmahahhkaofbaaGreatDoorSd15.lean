/- PARTS, JOINED: THE LAW SlotDoes. Conditions: the laid cell of errors.errorType; a bulk that fits. WHAT THE BOUND OF AN '..UptoSaid' GIVES: sizes of what came in. Conditions: the bound. CALLS OF A STATEMENT ON SLOTS, that came in. Conditions: none. -/
import Derived.Test.YtgmahahhkaofbaaGreatDoorSd1
import Derived.Test.YtgmahahhkaofbaaGreatDoorSd2
import Derived.Test.YtgmahahhkaofbaaGreatDoorSd3
import Derived.Test.YtgmahahhkaofbaaGreatDoorSd4
import Derived.Test.YtgmahahhkaofbaaGreatDoorSd5
import Derived.Test.YtgmahahhkaofbaaGreatDoorSd6
import Derived.Test.YtgmahahhkaofbaaGreatDoorSd7
import Derived.Test.YtgmahahhkaofbaaGreatDoorSd8
import Derived.Test.YtgmahahhkaofbaaGreatDoorSd9
import Derived.Test.YtgmahahhkaofbaaGreatDoorSd10
import Derived.Test.YtgmahahhkaofbaaGreatDoorSd11
import Derived.Test.YtgmahahhkaofbaaGreatDoorSd12
import Derived.Test.YtgmahahhkaofbaaGreatDoorSd13
import Derived.Test.YtgmahahhkaofbaaGreatDoorSd14
import Derived.Test.YtgmahahhkaofbaaGreatDoorRows
import Derived.SizedLaws
namespace Go.Proofs.YtgmahahhkaofbaaGreatDoor.Slt
open Go.RowKit Go.Mir Go.Mir.Parts Dk Rol Rk Wr

def T0 : List RF := [⟨none, 0, none, 0⟩, ⟨none, 0, none, 0⟩, ⟨none, 0, none, 0⟩]
theorem rb_none (w : World) : Rb 0 w ⟨none, 0, none, 0⟩ FD.none := ⟨[], fun _y _ =>
  ⟨Cut.own_bs (World.ownsRow_nil _ 0 _ _), ⟨Sl.nil _ _, fun _ h => (nomatch h), rfl⟩, fun _i _r _s h => (nomatch h), ⟨rfl, trivial, fun _u => Nat.le_refl _, Nat.le_refl _, fun _s hs => (nomatch hs)⟩, Nat.zero_le _⟩⟩
theorem rdb_new (w : World) (room : Nat) (h : 1 ≤ room ∧ room ≤ 65536) : RDB w T0 (DD.new room) := by
  refine ⟨rfl, rfl, fun i t f a b => ?_, h, Nat.zero_le _, Nat.zero_le _⟩
  match i, a, b with
  | 0, a, b => cases a; cases b; exact ⟨rb_none w, nd_none⟩
  | 1, a, b => cases a; cases b; exact ⟨rb_none w, nd_none⟩
  | 2, a, b => cases a; cases b; exact ⟨rb_none w, nd_none⟩
  | i + 3, a, b => cases a
theorem built_rd (room : Nat) : Tryz.prog.built 37 [(1, .int .i64 (room : Int))] = some (rdA T0 (DD.new room)) := by kernel_rfl
theorem fewD_new (R : Nat) : FewD (DD.new R) 0 := fun f hf => by
  have : f = FD.none := by simpa [DD.new] using hf
  subst this; exact Nat.zero_le _
/-- a disk without a fuse does not go down -/
theorem do_up {d : DD} {i : Nat} {f : FD} {s : St} (h1 : d.down = false) (h2 : d.fuse = 0) : (doD d i f s).down = false ∧ (doD d i f s).fuse = 0 := by
  unfold doD
  rw [if_neg (by rw [h1]; decide)]
  split
  · exact ⟨h1, h2⟩
  · have h3 : (setF d i (f.take s)).burn = setF d i (f.take s) := by
      unfold DD.burn
      rw [if_neg (by show ¬ 0 < d.fuse; omega)]
    rw [h3]
    exact ⟨h1, h2⟩
/-- what stands at the loop's head -/
structure LT (w1 : World) (db sb rg xg : Nat) (T : List RF) (d : DD) (s : SS) (p : Option Addr) (c : Nat) (wr : World) : Prop where
  sx : SX w1.heap.size sb db 1 2 d s wr
  box : wr.heap[rg]? = some (.cells (rdA T d) 37 (0, 0))
  xbox : wr.heap[xg]? = some (.cells (rsA 1 2 s p c) 46 (0, 0))
  rd : RDB wr T d
  rb : RBs wr p s.body.length c s.body
  low : Below w1.heap.size w1 wr
  at_ : w1.heap.size ≤ rg
  xat : w1.heap.size ≤ xg
theorem LT.next {w1 wr y : World} {db sb rg xg : Nat} {T : List RF} {d : DD} {s : SS} {p : Option Addr} {c : Nat} (h : LT w1 db sb rg xg T d s p c wr) (hb : Below wr.heap.size wr y) : LT w1 db sb rg xg T d s p c y :=
  ⟨h.sx.below hb, Below.keepOld hb h.box, Below.keepOld hb h.xbox, h.rd.below hb, h.rb.below hb, h.low.trans (hb.mono h.low.size), h.at_, h.xat⟩
theorem boxes_ne {X : World} {rg xg : Nat} {M M2 : Array Value} (h1 : X.heap[rg]? = some (.cells M 37 (0, 0))) (h2 : X.heap[xg]? = some (.cells M2 46 (0, 0))) : rg ≠ xg := fun e => by
  rw [e, h2] at h1
  injection h1 with e1
  injection e1 with _ e2
  exact absurd e2 (by decide)
/-- both boxes stored anew -/
theorem LT.store {w1 X : World} {db sb rg xg : Nat} {T : List RF} {d : DD} {s : SS} {p : Option Addr} {c : Nat} {M M2 : Array Value} (hS : SX w1.heap.size sb db 1 2 d s X) (hR : RDB X T d) (hb : RBs X p s.body.length c s.body)
    (h1 : X.heap[rg]? = some (.cells M 37 (0, 0))) (h2 : X.heap[xg]? = some (.cells M2 46 (0, 0))) (hl : Below w1.heap.size w1 X) (a1 : w1.heap.size ≤ rg) (a2 : w1.heap.size ≤ xg) :
    LT w1 db sb rg xg T d s p c ((X.setRow rg (rdA T d)).setRow xg (rsA 1 2 s p c)) ∧ (X.setRow rg (rdA T d)).heap[xg]? = some (.cells M2 46 (0, 0)) := by
  have hne := boxes_ne h1 h2
  have hz4 : (X.setRow rg (rdA T d)).heap[xg]? = some (.cells M2 46 (0, 0)) := by rw [setRow_other _ _ _ _ hne.symm]; exact h2
  have hz3 := setRow_heap _ _ _ (rdA T d) _ _ h1
  have t1 := turns_setRow X rg (rdA T d)
  have hs1 := hS.off t1 h1 (by decide) (by decide) (by decide) (by decide) (by decide)
  have k1 := kr_turn (base := 0) t1 h1 (by decide) (by decide)
  have hl1 := below_setRow hl a1 (rdA T d)
  generalize X.setRow rg (rdA T d) = Y at *
  have t2 := turns_setRow Y xg (rsA 1 2 s p c)
  have hs2 := hs1.off t2 hz4 (by decide) (by decide) (by decide) (by decide) (by decide)
  have k2 := k1.trans (kr_turn (base := 0) t2 hz4 (by decide) (by decide))
  exact ⟨⟨hs2, by rw [setRow_other _ _ _ _ hne]; exact hz3, setRow_heap _ _ _ _ _ _ hz4, hR.step k2, hb.step k2, below_setRow hl1 a2 _, a1, a2⟩, hz4⟩
set_option maxRecDepth 100000 in
set_option maxHeartbeats 25600000 in
theorem law_does21 (room : Int) (pa : Option Addr) (ca : Nat) (A : List UInt8) (pb : Option Addr) (cb : Nat) (B : List UInt8) (p : Option Addr) (c : Nat) (os : List SOp) (rows : List (List Value)) (w : World) (hE : Rdr.EType w) (hA : Bs w pa A.length ca A) (hB : Bs w pb B.length cb B) (hO : SOps w p os.length c os rows) (hs : os.length + A.length + B.length + bsum os ≤ 4611686018427387904) :
    Calls Tryz.prog 3 #[.agg (case4 room pa A.length ca pb B.length cb p os.length c)] w fun e w' => e = .returned (.bool true) ∧ Below w.heap.size w w' := by
  obtain ⟨CA, hCA⟩ : ∃ CA, CA = case4 room pa A.length ca pb B.length cb p os.length c := ⟨_, rfl⟩
  have HCS : Hid (CA.size = 4) := by show _ = _; rw [hCA]; rfl
  have hal := Below.allocs w (.cells CA 25)
  have hrow : (w.alloc (.cells CA 25)).heap[w.heap.size]? = some (.cells CA 25 (0, 0)) := heap_alloc_last _ _
  have HCELL : Hid (∀ y : World, y.heap[w.heap.size]? = some (.cells CA 25 (0, 0)) → y.cell? ⟨w.heap.size, 0, none⟩ = some (.int .i64 room) ∧ y.cell? ⟨w.heap.size, 1, none⟩ = some (.slice pa A.length ca) ∧ y.cell? ⟨w.heap.size, 2, none⟩ = some (.slice pb B.length cb) ∧ y.cell? ⟨w.heap.size, 3, none⟩ = some (.slice p os.length c)) := fun y hy => case4_cells (by rw [hCA] at hy; exact hy)
  have hsm := small21_any room pa A.length ca pb B.length cb os p c rows
  rw [← hCA] at hsm ⊢
  have HSMA := Lib.hid hsm
  have HB1 := Lib.hid hal
  have HROW := Lib.hid hrow
  have HO := Lib.hid (hO.below hal)
  have HA1 := Lib.hid (hA.below hal)
  have HB0 := Lib.hid (hB.below hal)
  have HE := Lib.hid (hE.below hal hE.lt)
  have HSUM := Lib.hid hs
  obtain ⟨hc0, _, _, _⟩ := HCELL.out _ hrow
  clear hE hA hB hO hs hal hrow hCA hsm
  go_enter Tryz.func3, Tryz.ntmps3
  go_upto_region 1 with fail
  generalize w.alloc (.cells CA 25) = w1 at *
  by_cases hroom : room < 1 ∨ 65536 < room
  · go_wp2_with fail
    refine (new_bad room w1 hroom).mono ?_
    rintro e w2 ⟨rfl, rfl⟩
    have HSM := Lib.hid (HSMA.out w1 HO.out HSUM.out)
    generalize decide (os.length + A.length + B.length + bsum os ≤ 1000) = q at *
    go_wp2_with ((with_reducible refine wpAt 22 ?_); refine wpList_load_row rfl 25 _ rfl w.heap.size rfl 25 CA (0, 0) _ HROW.out Tryz.underlying25 rfl (infoCase21 _ HCS.out) ?_)
    refine HSM.out.mono ?_
    rintro e w3 ⟨rfl, hb3⟩
    have HE3 := Lib.hid (HE.out.below hb3 HE.out.lt)
    have HB3 := Lib.hid (HB1.out.trans (hb3.mono HB1.out.size))
    cases q with
    | true =>
      skip
      -- alive, in world w3, with HB3 : Below w.heap.size w w3; HE3.out : EType w3
      have HA := Lib.hid (alive21_any w3 HE3.out)
      go_wp2_with fail
      refine HA.out.mono ?_
      rintro e w9 ⟨rfl, hb9⟩
      have HB9 := Lib.hid (HB3.out.trans (hb9.mono HB3.out.size))
      go_wp2_with fail
      go_ret
      exact ⟨rfl, HB9.out⟩
    | false =>
      skip
      -- alive, in world w3, with HB3 : Below w.heap.size w w3; HE3.out : EType w3
      have HA := Lib.hid (alive21_any w3 HE3.out)
      go_wp2_with fail
      refine HA.out.mono ?_
      rintro e w9 ⟨rfl, hb9⟩
      have HB9 := Lib.hid (HB3.out.trans (hb9.mono HB3.out.size))
      go_wp2_with fail
      go_ret
      exact ⟨rfl, HB9.out⟩
  obtain ⟨R, rfl⟩ : ∃ R : Nat, room = (R : Int) := ⟨room.toNat, by omega⟩
  have hR : 1 ≤ R ∧ R ≤ 65536 := by omega
  have HRB := Lib.hid hR
  clear hroom
  have HNW := Lib.hid (snew R w1 hR)
  clear hR
  go_wp2_with fail
  refine HNW.out.mono ?_
  rintro e w2 ⟨db, rfl, hd2, hb2⟩
  have HX2 := Lib.hid hd2
  have HW2 := Lib.hid hb2
  have HROW2 := Lib.hid (Below.keepOld hb2 HROW.out)
  have HSM := Lib.hid (HSMA.out w2 (HO.out.below hb2) HSUM.out)
  clear hd2 hb2 hc0 HNW
  go_wp2_with ((with_reducible refine wpAt 22 ?_); refine wpList_load_row rfl 25 _ rfl w.heap.size rfl 25 CA (0, 0) _ HROW2.out Tryz.underlying25 rfl (infoCase21 _ HCS.out) ?_)
  refine HSM.out.mono ?_
  rintro e w3 ⟨rfl, hb3⟩
  have HW3 := Lib.hid (HW2.out.trans (hb3.mono HW2.out.size))
  have HX3 := Lib.hid (HX2.out.below hb3)
  have HROW3 := Lib.hid (Below.keepOld hb3 HROW2.out)
  clear hb3 HX2 HW2 HROW2 HSM HSMA HSUM
  by_cases hsm : os.length + A.length + B.length + bsum os ≤ 1000
  rotate_left
  · have hq : decide (os.length + A.length + B.length + bsum os ≤ 1000) = false := decide_eq_false hsm
    rw [hq]
    have HB3 := Lib.hid (HB1.out.trans (HW3.out.mono HB1.out.size))
    have HE3 := Lib.hid (HE.out.below HW3.out HE.out.lt)
    clear hsm hq
    skip
    -- alive, in world w3, with HB3 : Below w.heap.size w w3; HE3.out : EType w3
    have HA := Lib.hid (alive21_any w3 HE3.out)
    go_wp2_with fail
    refine HA.out.mono ?_
    rintro e w9 ⟨rfl, hb9⟩
    have HB9 := Lib.hid (HB3.out.trans (hb9.mono HB3.out.size))
    go_wp2_with fail
    go_ret
    exact ⟨rfl, HB9.out⟩
  have hq : decide (os.length + A.length + B.length + bsum os ≤ 1000) = true := decide_eq_true hsm
  rw [hq]
  have HSL := Lib.hid hsm
  clear hsm hq
  have hz := zeroD
  have hz2 := zeroRS
  obtain ⟨hc0, hc1, hc2, hc3⟩ := HCELL.out _ HROW3.out
  go_upto_region 4 with fail
  go_upto_region 5 with (first
    | refine Rdr.wpList_build rfl 37 _ rfl [(1, .int .i64 (R : Int))] rfl _ (built_rd R) ?_
    | refine wpList_store_row rfl 37 _ _ rfl w3.heap.size (rdA T0 (DD.new R)) rfl rfl 37 zD (heap_alloc_last _ _) (infoRD _ (rdA_size (ts := T0) (d := DD.new R) rfl rfl)) (by rw [rdA_size (ts := T0) (d := DD.new R) rfl rfl]; rfl) (rdA_one (ts := T0) (d := DD.new R) rfl rfl) ?_)
  try simp only [Act.put]
  have hal := Below.allocs w3 (.cells zD 37)
  have hnew := heap_alloc_last w3 (.cells zD 37)
  have hb4 : Below w3.heap.size w3 ((w3.alloc (.cells zD 37)).setRow w3.heap.size (rdA T0 (DD.new R))) := below_setRow hal (Nat.le_refl _) _
  have HX4 := Lib.hid (HX3.out.below hb4)
  have HK4 := Lib.hid (setRow_heap _ _ _ (rdA T0 (DD.new R)) _ _ hnew)
  have HW4 := Lib.hid (HW3.out.trans (hb4.mono HW3.out.size))
  have HROW4 := Lib.hid (Below.keepOld hb4 HROW3.out)
  have HG4 : Hid (w1.heap.size ≤ w3.heap.size) := HW3.out.size
  clear hal hnew hb4 hc0 hc1 hc2 hc3 HX3 HW3 HROW3
  generalize (w3.alloc (.cells zD 37)).setRow w3.heap.size (rdA T0 (DD.new R)) = w4 at *
  generalize w3.heap.size = rg at *
  clear w3
  have HRD4 := Lib.hid (rdb_new w4 R HRB.out)
  have HF0 := Lib.hid (fewD_new R)
  have HD0 : Hid ((DD.new R).down = false ∧ (DD.new R).fuse = 0) := ⟨rfl, rfl⟩
  have HU0 : Hid (usedL (DD.new R).fs ≤ (DD.new R).room) := HX4.out.room.2.2
  generalize DD.new R = D0 at *
  obtain ⟨hc0, hc1, hc2, hc3⟩ := HCELL.out _ HROW4.out
  have HC1 := Lib.hid (xappend w4 HX4.out 1 (by omega) pa A.length ca A (HA1.out.below HW4.out) (by have := HSL.out; omega) (by have := fewfd (i := 1) HF0.out; omega))
  have HE1 : Hid (∀ y, Below w1.heap.size w1 y → Rdr.EType y) := fun y hy => HE.out.below hy HE.out.lt
  go_wp2_with fail
  refine HC1.out.mono ?_
  rintro e w5 ⟨rfl, hd5, hk5⟩
  have HX5 := Lib.hid hd5
  have HW5 := Lib.hid (HW4.out.trans (hk5.below HW4.out.size))
  have HK5 := Lib.hid (hk5.row HK4.out (by decide) (by decide))
  have HRD5 := Lib.hid (HRD4.out.step (kr_of_ks (KS.of_kt hk5)))
  have HROW5 := Lib.hid (hk5.row HROW4.out (by decide) (by decide))
  have HF1 : Hid (FewD (doD D0 1 (fD D0 1) (.put A)) 1) := HF0.out.doD (fewfd HF0.out)
  have HD1 : Hid ((doD D0 1 (fD D0 1) (.put A)).down = false ∧ (doD D0 1 (fD D0 1) (.put A)).fuse = 0) := do_up HD0.out.1 HD0.out.2
  have HR1 : Hid (∀ y, RDB y T0 D0 → Below w1.heap.size w1 y → Calls Tryz.prog 8 #[.agg (rdA T0 D0), .int .i64 ((1 : Nat) : Int), .slice pa A.length ca] y (ROut (doD D0 1 (fD D0 1) (.put A)) (doE D0 1 (fD D0 1) (.put A)) y)) :=
    fun y h1 h2 => rput_in T0 D0 1 (by omega) pa A ca y h1 HU0.out (HA1.out.below h2) (by have := HSL.out; omega) (by have := fewfd (i := 1) HF0.out; omega)
  clear hd5 hk5 HX4 HW4 HK4 HRD4 HROW4 HC1 hc0 hc1 hc2 hc3
  generalize doD D0 1 (fD D0 1) (.put A) = D1 at *
  generalize doE D0 1 (fD D0 1) (.put A) = E1 at *
  by_cases he1 : E1 = 0
  rotate_left
  · have q1 : (E1 != 0) = true := bne_iff_ne.2 he1
    have HB5 := Lib.hid (HB1.out.trans (HW5.out.mono HB1.out.size))
    have HE5 := Lib.hid (HE1.out _ HW5.out)
    clear he1
    skip
    -- alive, in world w5, with HB5 : Below w.heap.size w w5; HE5.out : EType w5
    have HA := Lib.hid (alive21_any w5 HE5.out)
    go_wp2_with fail
    refine HA.out.mono ?_
    rintro e w9 ⟨rfl, hb9⟩
    have HB9 := Lib.hid (HB5.out.trans (hb9.mono HB5.out.size))
    go_wp2_with fail
    go_ret
    exact ⟨rfl, HB9.out⟩
  have q1 : (E1 != 0) = false := by rw [bne_eq_false_iff_eq]; exact he1
  clear he1
  have HC2 := Lib.hid (xappend w5 HX5.out 2 (by omega) pb B.length cb B (HB0.out.below HW5.out) (by have := HSL.out; omega) (by have := fewfd (i := 2) HF1.out; omega))
  have HU1 : Hid (usedL D1.fs ≤ D1.room) := HX5.out.room.2.2
  obtain ⟨hc0, hc1, hc2, hc3⟩ := HCELL.out _ HROW5.out
  go_wp2_with fail
  refine HC2.out.mono ?_
  rintro e w6 ⟨rfl, hd6, hk6⟩
  have HX6 := Lib.hid hd6
  have HW6 := Lib.hid (HW5.out.trans (hk6.below HW5.out.size))
  have HK6 := Lib.hid (hk6.row HK5.out (by decide) (by decide))
  have HRD6 := Lib.hid (HRD5.out.step (kr_of_ks (KS.of_kt hk6)))
  have HROW6 := Lib.hid (hk6.row HROW5.out (by decide) (by decide))
  have HF2 : Hid (FewD (doD D1 2 (fD D1 2) (.put B)) 2) := HF1.out.doD (fewfd HF1.out)
  have HD2 : Hid ((doD D1 2 (fD D1 2) (.put B)).down = false ∧ (doD D1 2 (fD D1 2) (.put B)).fuse = 0) := do_up HD1.out.1 HD1.out.2
  have HR2 : Hid (∀ T y, RDB y T D1 → Below w1.heap.size w1 y → Calls Tryz.prog 8 #[.agg (rdA T D1), .int .i64 ((2 : Nat) : Int), .slice pb B.length cb] y (ROut (doD D1 2 (fD D1 2) (.put B)) (doE D1 2 (fD D1 2) (.put B)) y)) :=
    fun T y h1 h2 => rput_in T D1 2 (by omega) pb B cb y h1 HU1.out (HB0.out.below h2) (by have := HSL.out; omega) (by have := fewfd (i := 2) HF1.out; omega)
  clear hd6 hk6 HX5 HW5 HK5 HRD5 HROW5 HC2 hc0 hc1 hc2 hc3 q1
  generalize doD D1 2 (fD D1 2) (.put B) = D2 at *
  generalize doE D1 2 (fD D1 2) (.put B) = E2 at *
  by_cases he2 : E2 = 0
  rotate_left
  · have q2 : (E2 != 0) = true := bne_iff_ne.2 he2
    have HB6 := Lib.hid (HB1.out.trans (HW6.out.mono HB1.out.size))
    have HE6 := Lib.hid (HE1.out _ HW6.out)
    clear he2
    skip
    -- alive, in world w6, with HB6 : Below w.heap.size w w6; HE6.out : EType w6
    have HA := Lib.hid (alive21_any w6 HE6.out)
    go_wp2_with fail
    refine HA.out.mono ?_
    rintro e w9 ⟨rfl, hb9⟩
    have HB9 := Lib.hid (HB6.out.trans (hb9.mono HB6.out.size))
    go_wp2_with fail
    go_ret
    exact ⟨rfl, HB9.out⟩
  have q2 : (E2 != 0) = false := by rw [bne_eq_false_iff_eq]; exact he2
  clear he2
  obtain ⟨hc0, hc1, hc2, hc3⟩ := HCELL.out _ HROW6.out
  have HN0 := Lib.hid HRD6.out.n3
  have HM0 := Lib.hid HRD6.out.m3
  go_upto_region 7 with fail
  clear q2
  go_wp2_with (refine wpList_load_row rfl 37 _ rfl rg rfl 37 (rdA T0 D0) (0, 0) _ HK6.out Tryz.underlying37 rfl (infoRD _ (rdA_size HN0.out HM0.out)) ?_)
  refine (HR1.out w6 HRD6.out HW6.out).mono ?_
  rintro e w7 ⟨T1, rfl, hrd, hb7⟩
  have hk7 := Below.keepOld hb7 HK6.out
  have K7 := Lib.hid hk7
  have hkr := kr_turn (base := 0) (turns_setRow w7 rg (rdA T1 D1)) hk7 (by decide) (by decide)
  have HRD8 := Lib.hid (hrd.step hkr)
  have HN1 := Lib.hid hrd.n3
  have HM1 := Lib.hid hrd.m3
  have hw7 := HW6.out.trans (hb7.mono HW6.out.size)
  have HW8 := Lib.hid (below_setRow hw7 HG4.out (rdA T1 D1))
  have hx7 := HX6.out.below hb7
  have HX8 := Lib.hid (dx_turn hx7 (turns_setRow w7 rg (rdA T1 D1)) (fun k M t fr hk hm => by
    have hk : k = rg := hk
    subst hk
    rw [hk7] at hm
    injection hm with e1
    injection e1 with _ e2
    subst e2
    exact ⟨by decide, by decide, by decide⟩))
  have HK8 := Lib.hid (setRow_heap _ _ _ (rdA T1 D1) _ _ hk7)
  have hlr : w.heap.size ≠ rg := by
    have h1 := (Array.getElem?_eq_some_iff.1 HROW.out).1
    have h2 := HG4.out
    omega
  have hr7 := Below.keepOld hb7 HROW6.out
  have HROW8 : Hid ((w7.setRow rg (rdA T1 D1)).heap[w.heap.size]? = some (.cells CA 25 (0, 0))) := by
    show _ = _
    rw [setRow_other _ _ _ _ hlr]; exact hr7
  have HLR := Lib.hid hlr
  clear hk7 hkr hrd hb7 hw7 hx7 hlr hr7 hc0 hc1 hc2 hc3 HX6 HW6 HK6 HRD6 HROW6 HR1
  go_upto_region 8 with (refine wpList_store_row rfl 37 _ _ rfl rg (rdA T1 D1) rfl rfl 37 (rdA T0 D0) K7.out (infoRD _ (rdA_size HN1.out HM1.out)) (by rw [rdA_size HN1.out HM1.out, rdA_size HN0.out HM0.out]) (rdA_one HN1.out HM1.out) ?_)
  try simp only [Act.put]
  clear K7
  generalize w7.setRow rg (rdA T1 D1) = w8 at *
  obtain ⟨hc0, hc1, hc2, hc3⟩ := HCELL.out _ HROW8.out
  go_wp2_with (refine wpList_load_row rfl 37 _ rfl rg rfl 37 (rdA T1 D1) (0, 0) _ HK8.out Tryz.underlying37 rfl (infoRD _ (rdA_size HN1.out HM1.out)) ?_)
  refine (HR2.out T1 w8 HRD8.out HW8.out).mono ?_
  rintro e w9 ⟨T2, rfl, hrd, hb9⟩
  have hk9 := Below.keepOld hb9 HK8.out
  have K9 := Lib.hid hk9
  have hkr := kr_turn (base := 0) (turns_setRow w9 rg (rdA T2 D2)) hk9 (by decide) (by decide)
  have HRDA := Lib.hid (hrd.step hkr)
  have HN2 := Lib.hid hrd.n3
  have HM2 := Lib.hid hrd.m3
  have hw9 := HW8.out.trans (hb9.mono HW8.out.size)
  have HWA := Lib.hid (below_setRow hw9 HG4.out (rdA T2 D2))
  have hx9 := HX8.out.below hb9
  have HXA := Lib.hid (dx_turn hx9 (turns_setRow w9 rg (rdA T2 D2)) (fun k M t fr hk hm => by
    have hk : k = rg := hk
    subst hk
    rw [hk9] at hm
    injection hm with e1
    injection e1 with _ e2
    subst e2
    exact ⟨by decide, by decide, by decide⟩))
  have HKA := Lib.hid (setRow_heap _ _ _ (rdA T2 D2) _ _ hk9)
  have hr9 := Below.keepOld hb9 HROW8.out
  have HROWA : Hid ((w9.setRow rg (rdA T2 D2)).heap[w.heap.size]? = some (.cells CA 25 (0, 0))) := by
    show _ = _
    rw [setRow_other _ _ _ _ HLR.out]; exact hr9
  clear hk9 hkr hrd hb9 hw9 hx9 hr9 hc0 hc1 hc2 hc3 HX8 HW8 HK8 HRD8 HROW8 HR2
  go_upto_region 9 with (refine wpList_store_row rfl 37 _ _ rfl rg (rdA T2 D2) rfl rfl 37 (rdA T1 D1) K9.out (infoRD _ (rdA_size HN2.out HM2.out)) (by rw [rdA_size HN2.out HM2.out, rdA_size HN1.out HM1.out]) (rdA_one HN2.out HM2.out) ?_)
  try simp only [Act.put]
  clear K9 HN0 HM0 HN1 HM1 HF0 HF1 HD0 HD1 HU0 HU1
  generalize w9.setRow rg (rdA T2 D2) = wA at *
  have HOP := Lib.hid (sopen_any wA (HE1.out _ HWA.out) HXA.out 1 2 (by omega) (by omega) (by omega) HD2.out.1)
  go_wp2_with fail
  refine HOP.out.mono ?_
  rintro e wB ⟨sb, rfl, hsB, hbB⟩
  have HROP := Lib.hid (ropenS_any T2 D2 1 2 (by omega) (by omega) (by omega) HD2.out.1 wB (HRDA.out.below hbB))
  unfold ROpP at HROP
  have HSB := Lib.hid hsB
  have HWB := Lib.hid (HWA.out.trans (hbB.mono HWA.out.size))
  have HKB := Lib.hid (Below.keepOld hbB HKA.out)
  have HRDB := Lib.hid (HRDA.out.below hbB)
  have HROWB := Lib.hid (Below.keepOld hbB HROWA.out)
  have HBO : Hid (BodyOk (opnS D2 1 2)) := BodyOk.opn D2 1 2
  clear hsB hbB HOP HWA HKA HRDA HROWA HXA
  generalize opnS D2 1 2 = S0 at *
  go_upto_region 10 with fail
  go_wp2_with (refine wpList_load_row rfl 37 _ rfl rg rfl 37 (rdA T2 D2) (0, 0) _ HKB.out Tryz.underlying37 rfl (infoRD _ (rdA_size HN2.out HM2.out)) ?_)
  refine HROP.out.mono ?_
  rintro e wC ⟨q, k0, rfl, hrb, hbC⟩
  have hal := Below.allocs wC (.cells zS 46)
  have hnew := heap_alloc_last wC (.cells zS 46)
  have hbX := below_setRow (hbC.trans (hal.mono hbC.size)) hbC.size (rsA 1 2 S0 q k0)
  have hkr := kr_turn (base := 0) (turns_setRow (wC.alloc (.cells zS 46)) wC.heap.size (rsA 1 2 S0 q k0)) hnew (by decide) (by decide)
  have NEW := Lib.hid hnew
  have hgx : w1.heap.size ≤ wC.heap.size := Nat.le_trans HWB.out.size hbC.size
  have HLT : Hid (LT w1 db sb rg wC.heap.size T2 D2 S0 q k0 ((wC.alloc (.cells zS 46)).setRow wC.heap.size (rsA 1 2 S0 q k0))) :=
    ⟨HSB.out.below hbX, Below.keepOld hbX HKB.out, setRow_heap _ _ _ (rsA 1 2 S0 q k0) _ _ hnew, HRDB.out.below hbX, (hrb.below hal).step hkr, HWB.out.trans (hbX.mono HWB.out.size), HG4.out, hgx⟩
  have HROWC := Lib.hid (Below.keepOld hbX HROWB.out)
  clear hal hnew hbX hkr hrb hbC hgx HSB HWB HKB HRDB HROWB HROP HN2 HM2 HRB
  go_upto_region 11 with (refine wpList_store_row rfl 46 _ _ rfl wC.heap.size (rsA 1 2 S0 q k0) rfl rfl 46 zS NEW.out (infoRS _ rfl) rfl (rsA_one _ _ _ _ _) ?_)
  try simp only [Act.put, List.setIfInBounds_toArray, List.set_cons_zero, List.set_cons_succ]
  clear NEW
  generalize (wC.alloc (.cells zS 46)).setRow wC.heap.size (rsA 1 2 S0 q k0) = wD at *
  generalize wC.heap.size = xg at *
  clear wC wB w9 w7 w6 w5 w2
  have HLK := Lib.hid (like21_any wD HLT.out.sx HLT.out.rd HLT.out.rb HBO.out)
  go_wp2_with (first
    | ((with_reducible refine wpAt 80 ?_); refine wpList_load_row_g (by rfl) 37 _ rfl rg rfl 37 (rdA T2 D2) (0, 0) _ HLT.out.box Tryz.underlying37 rfl (infoRD _ (rdA_size HLT.out.rd.n3 HLT.out.rd.m3)) ?_)
    | ((with_reducible refine wpAt 81 ?_); refine wpList_load_row_g (by rfl) 46 _ rfl xg rfl 46 (rsA 1 2 S0 q k0) (0, 0) _ HLT.out.xbox Tryz.underlying46 rfl (infoRS _ rfl) ?_))
  refine HLK.out.mono ?_
  rintro e wE ⟨rfl, hbE⟩
  have HLT2 := Lib.hid (HLT.out.next hbE)
  have hrE := Below.keepOld hbE HROWC.out
  have hc3 := (HCELL.out _ hrE).2.2.2
  have HFD : Hid (FewD D2 4) := HF2.out.mono (by omega)
  have hle := HO.out.rs.sl.le
  have hmax := HO.out.rs.sl.max
  clear hbE hrE HLT HLK HROWC HF2
  go_upto_region 13 with fail
  go_wp2_with fail
  obtain ⟨Z, hzo, hZ⟩ := zSOp
  have HZZ := Lib.hid hZ
  clear hc3 hZ
  go_loopw [6, 11, 12, 13, 14, 15, 88] (fun sv _ _ _ _ _ j wr => ∃ k : Nat, k ≤ os.length ∧ j = .int .i64 k ∧ ∃ sb T d s p c, sv = .pointer (some ⟨sb, 0, none⟩) ∧ LT w1 db sb rg xg T d s p c wr ∧ FewD d (4 * (k + 1)) ∧ BodyOk s) (fun _ _ _ _ _ _ j _ => os.length - (intOf j).toNat)
  case atStart => exact ⟨0, by omega, rfl, sb, T2, D2, S0, q, k0, rfl, HLT2.out, HFD.out, HBO.out⟩
  case round =>
    clear HLT2 HFD HBO
    obtain ⟨k, hk, rfl, sb, T, d, s, p9, c9, rfl, hlt9, hfd, hbo⟩ := hrel
    have HLT := Lib.hid hlt9
    have HFD := Lib.hid hfd
    have HBO := Lib.hid hbo
    clear hlt9 hfd hbo
    by_cases hlt : k < os.length
    · have hd : decide ((k : Int) < (os.length : Int)) = true := decide_eq_true (by omega)
      have hd2 : decide (k < os.length) = true := decide_eq_true hlt
      obtain ⟨b, o, rfl⟩ := HO.out.rs.sl.addr (by omega) (by omega)
      obtain ⟨po, co, hbs, hrg⟩ := HO.out.at k hlt
      have hkr : k < rows.length := by rw [HO.out.rs.count]; exact hlt
      have hsop := HO.out.each k _ os[k] (List.getElem?_eq_getElem hkr) (List.getElem?_eq_getElem hlt)
      have HNB := Lib.hid hsop.nB
      have HMB := Lib.hid hsop.mB
      have HRG := Lib.hid (range_below hrg HLT.out.low)
      have HBLN : Hid ((os[k]).b.length ≤ 1000) := by
        show _ ≤ _
        have h1 := bsum_mem (List.getElem_mem hlt)
        have h2 := HSL.out
        omega
      have HKL : Hid (4 * (k + 1) ≤ 100000) := by show _ ≤ _; have := HSL.out; omega
      have HBS := Lib.hid hbs
      clear hbs hrg hkr hsop
      generalize os[k] = oo at *
      obtain ⟨OA, hOA⟩ : ∃ OA, OA = sopA oo po co := ⟨_, rfl⟩
      have HOS : Hid (OA.size = 4) := by show _ = _; rw [hOA]; rfl
      have HOO : Hid (OA.all (·.oneCell') = true) := by show _ = _; rw [hOA]; exact sopA_one _ _ _
      have HOL : Hid (OA.toList.length = 4) := by show _ = _; rw [Array.length_toList]; exact HOS.out
      have HNW := Lib.hid (box_new wr Z 51)
      have HBR := Lib.hid (box_row wr Z OA 51)
      have HBB := Lib.hid (box_below wr Z OA 51)
      have HLT2 := Lib.hid (HLT.out.next HBB.out)
      have HAE := Lib.hid hOA
      rw [← hOA] at HRG
      clear hOA
      go_upto_region 16 with (first
        | ((with_reducible refine wpAt 91 ?_); refine wpList_load_mid rfl 51 _ rfl b (o + k * 4) rfl OA.toList _ HRG.out Tryz.underlying51 rfl (infoSOp _ HOL.out) ?_)
        | ((with_reducible refine wpStoreAt 11 ?_); refine wpList_store_row rfl 51 _ _ rfl wr.heap.size OA rfl rfl 51 Z HNW.out (infoSOp _ HOS.out) (HZZ.out.trans HOS.out.symm) HOO.out ?_))
      generalize (wr.alloc (.cells Z 51)).setRow wr.heap.size OA = wF at *
      have hst := step21_any oo po co w1 wF HLT2.out.low (Nat.le_refl _) (HE1.out _ HLT2.out.low) HE.out.lt HLT2.out.sx HLT2.out.rd HLT2.out.rb HBS.out HBLN.out HNB.out HMB.out HFD.out HKL.out HBO.out
      rw [← HAE.out] at hst
      unfold StepS at hst
      have HST := Lib.hid hst
      clear HRG HNW HBB HOO HOL HLT HFD HBO hst HAE HBS HBLN HNB HMB HKL
      go_wp2_with (first
        | ((with_reducible refine wpAt 95 ?_); refine wpList_load_row rfl 37 _ rfl rg rfl 37 (rdA T d) (0, 0) _ HLT2.out.box Tryz.underlying37 rfl (infoRD _ (rdA_size HLT2.out.rd.n3 HLT2.out.rd.m3)) ?_)
        | ((with_reducible refine wpAt 96 ?_); refine wpList_load_row rfl 46 _ rfl xg rfl 46 (rsA 1 2 s p9 c9) (0, 0) _ HLT2.out.xbox Tryz.underlying46 rfl (infoRS _ rfl) ?_)
        | ((with_reducible refine wpAt 97 ?_); refine wpList_load_row rfl 51 _ rfl wr.heap.size rfl 51 OA (0, 0) _ HBR.out Tryz.underlying51 rfl (infoSOp _ HOS.out) ?_))
      refine HST.out.mono ?_
      rintro e wG ⟨D5, S5, sb5, T5, p5, c5, rfl, hs5, hr5, hb5, hk5, hf5, ho5⟩
      obtain ⟨a1, a2, a3, a4⟩ := two_allocs wG (.cells zD 37) (.cells zS 46)
      have A1 := Lib.hid a1
      have hr2 : ((((wG.alloc (.cells zD 37)).alloc (.cells zS 46)).setRow wG.heap.size (rdA T5 D5))).heap[wG.heap.size + 1]? = some (.cells zS 46 (0, 0)) := by rw [setRow_other _ _ _ _ (by omega)]; exact a2
      have A2 := Lib.hid hr2
      have h1 : ((((wG.alloc (.cells zD 37)).alloc (.cells zS 46)).setRow wG.heap.size (rdA T5 D5)).setRow (wG.heap.size + 1) (rsA 1 2 S5 p5 c5)).heap[wG.heap.size]? = some (.cells (rdA T5 D5) 37 (0, 0)) := by
        rw [setRow_other _ _ _ _ (by omega)]; exact setRow_heap _ _ _ _ _ _ a1
      have H1 := Lib.hid h1
      have H2 := Lib.hid (setRow_heap _ _ _ (rsA 1 2 S5 p5 c5) _ _ hr2)
      have hbX := below_setRow (below_setRow a4 (Nat.le_refl _) (rdA T5 D5)) (Nat.le_succ _) (rsA 1 2 S5 p5 c5)
      have hlo := HLT2.out.low.trans (hk5.below HLT2.out.low.size)
      have hbxG := hk5.row HLT2.out.box (by decide) (by decide) (by decide)
      have hxbG := hk5.row HLT2.out.xbox (by decide) (by decide) (by decide)
      have HSX := Lib.hid (hs5.below hbX)
      have HRX := Lib.hid (hr5.below hbX)
      have HRB5 := Lib.hid (hb5.below hbX)
      have HBX := Lib.hid (Below.keepOld hbX hbxG)
      have HXX := Lib.hid (Below.keepOld hbX hxbG)
      have HLO := Lib.hid (hlo.trans (hbX.mono hlo.size))
      have HAT := Lib.hid (And.intro HLT2.out.at_ HLT2.out.xat)
      have HN3 := Lib.hid hr5.n3
      have HM3 := Lib.hid hr5.m3
      have HN3o := Lib.hid HLT2.out.rd.n3
      have HM3o := Lib.hid HLT2.out.rd.m3
      have HNE : Hid (rg < wG.heap.size ∧ xg < wG.heap.size) := ⟨(Array.getElem?_eq_some_iff.1 hbxG).1, (Array.getElem?_eq_some_iff.1 hxbG).1⟩
      have HFD5 : Hid (FewD D5 (4 * (k + 1 + 1))) := hf5.mono (by omega)
      have HBO5 := Lib.hid ho5
      clear hs5 hr5 hb5 hk5 hf5 ho5 a1 a2 a3 a4 hr2 h1 hbX hlo hbxG hxbG HST HLT2 HBR HOS
      go_upto_region 17 with (first
        | ((with_reducible refine wpStoreAt 13 ?_); refine wpList_store_row rfl 37 _ _ rfl wG.heap.size (rdA T5 D5) rfl rfl 37 zD A1.out (infoRD _ (rdA_size HN3.out HM3.out)) (by rw [rdA_size HN3.out HM3.out]; rfl) (rdA_one HN3.out HM3.out) ?_)
        | ((with_reducible refine wpStoreAt 14 ?_); refine wpList_store_row rfl 46 _ _ rfl (wG.heap.size + 1) (rsA 1 2 S5 p5 c5) rfl rfl 46 zS A2.out (infoRS _ rfl) rfl (rsA_one _ _ _ _ _) ?_))
      try simp only [Act.put, List.setIfInBounds_toArray, List.set_cons_zero, List.set_cons_succ]
      clear A1 A2
      generalize (((wG.alloc (.cells zD 37)).alloc (.cells zS 46)).setRow wG.heap.size (rdA T5 D5)).setRow (wG.heap.size + 1) (rsA 1 2 S5 p5 c5) = wH at *
      generalize wG.heap.size = gy at *
      have HLA : Hid (∀ w', Turns (fun k => k = rg ∨ k = xg) wH w' → w'.rangeAt gy 0 (rdA T5 D5).toList) := fun w' hb => row_rangeR (hb.keep H1.out (by have := HNE.out; rintro (h | h) <;> omega))
      have HLB : Hid (∀ w', Turns (fun k => k = rg ∨ k = xg) wH w' → w'.rangeAt (gy + 1) 0 (rsA 1 2 S5 p5 c5).toList) := fun w' hb => row_rangeR (hb.keep H2.out (by have := HNE.out; rintro (h | h) <;> omega))
      refine wp_region_tree (Turns (fun k => k = rg ∨ k = xg) wH) (.take 0 (.take 1 (.take 2 (.one 3 (.one 4 (.one 5 .nil)))))) (by kernel_rfl) (by kernel_rfl) (Turns.of_below (below_drew1 _ _)) ?_
      have hy0 : Below wH.heap.size wH wH.drew := below_drew1 _ _
      repeat (first
        | (refine tree_load rfl (by rfl) 37 _ rfl gy 0 rfl (rdA T5 D5) _ (fun w' hb => HLA.out w' hb) Tryz.underlying37 rfl (infoRD _ (rdA_size HN3.out HM3.out)) ?_; try simp only [Act.put, List.setIfInBounds_toArray, List.set_cons_zero, List.set_cons_succ])
        | (refine tree_load rfl (by rfl) 46 _ rfl (gy + 1) 0 rfl (rsA 1 2 S5 p5 c5) _ (fun w' hb => HLB.out w' hb) Tryz.underlying46 rfl (infoRS _ rfl) ?_; try simp only [Act.put, List.setIfInBounds_toArray, List.set_cons_zero, List.set_cons_succ])
        | (apply tree_take; (· rfl); (· rfl); (· (intro w' hb'; go_simp; try with_reducible rfl)); try simp only [Act.put, List.setIfInBounds_toArray, List.set_cons_zero, List.set_cons_succ]))
      have hbx0 := Below.keepOld hy0 HBX.out
      obtain ⟨hltn, hxr⟩ := LT.store (HSX.out.below hy0) (HRX.out.below hy0) (HRB5.out.below hy0) hbx0 (Below.keepOld hy0 HXX.out) (HLO.out.trans (hy0.mono HLO.out.size)) HAT.out.1 HAT.out.2
      have ht0 : Turns (fun k => k = rg ∨ k = xg) wH wH.drew := Turns.of_below hy0
      clear HLA HLB HSX HRX HRB5 HBX HXX HLO HAT H1 H2 hy0
      generalize wH.drew = wI at *
      have HLTN := Lib.hid hltn
      clear hltn
      refine tree_one rfl (by rfl) (fun K hK => ?_)
      go_simp
      refine Shut.out hK _ _ ht0 ?_
      clear hK K
      try simp only [Act.put, List.setIfInBounds_toArray, List.set_cons_zero, List.set_cons_succ]
      refine tree_one rfl (by rfl) (fun K hK => oper_of_list rfl ?_)
      refine wpList_store_row rfl 37 _ _ rfl rg (rdA T5 D5) rfl rfl 37 (rdA T d) hbx0 (infoRD _ (rdA_size HN3.out HM3.out)) (by rw [rdA_size HN3.out HM3.out, rdA_size HN3o.out HM3o.out]) (rdA_one HN3.out HM3.out) ?_
      have ht1 := ht0.trans (turns_setRow wI rg (rdA T5 D5)) (fun k _ hk => .inl hk)
      refine only_end (Shut.out hK _ _ ht1 ?_)
      clear hK K
      try simp only [Act.put]
      refine tree_one rfl (by rfl) (fun K hK => oper_of_list rfl ?_)
      refine wpList_store_row rfl 46 _ _ rfl xg (rsA 1 2 S5 p5 c5) rfl rfl 46 (rsA 1 2 s p9 c9) hxr (infoRS _ rfl) rfl (rsA_one _ _ _ _ _) ?_
      have ht2 := ht1.trans (turns_setRow (wI.setRow rg (rdA T5 D5)) xg (rsA 1 2 S5 p5 c5)) (fun k _ hk => .inr hk)
      refine only_end (Shut.out hK _ _ ht2 ?_)
      clear hK K ht0 ht1 ht2 hbx0 hxr
      try simp only [Act.put]
      refine tree_nil ?_
      generalize (wI.setRow rg (rdA T5 D5)).setRow xg (rsA 1 2 S5 p5 c5) = wJ at *
      have HLK := Lib.hid (like21_any wJ HLTN.out.sx HLTN.out.rd HLTN.out.rb HBO5.out)
      go_wp2_with (first
        | ((with_reducible refine wpAt 111 ?_); refine wpList_load_row_g (by rfl) 37 _ rfl rg rfl 37 (rdA T5 D5) (0, 0) _ HLTN.out.box Tryz.underlying37 rfl (infoRD _ (rdA_size HLTN.out.rd.n3 HLTN.out.rd.m3)) ?_)
        | ((with_reducible refine wpAt 112 ?_); refine wpList_load_row_g (by rfl) 46 _ rfl xg rfl 46 (rsA 1 2 S5 p5 c5) (0, 0) _ HLTN.out.xbox Tryz.underlying46 rfl (infoRS _ rfl) ?_))
      refine HLK.out.mono ?_
      rintro e wK ⟨rfl, hbK⟩
      have HLT4 := Lib.hid (HLTN.out.next hbK)
      clear hbK HLTN HLK
      go_wp2_with fail
      go_roundw
      case rel => exact ⟨k + 1, by omega, by go_num, sb5, T5, D5, S5, p5, c5, rfl, HLT4.out, HFD5.out, HBO5.out⟩
      case measure => simp [intOf]; omega
    · have hd : decide ((k : Int) < (os.length : Int)) = false := decide_eq_false (by omega)
      have hd2 : decide (k < os.length) = false := decide_eq_false hlt
      have HBF := Lib.hid (HB1.out.trans (HLT.out.low.mono HB1.out.size))
      have HEF := Lib.hid (HE1.out _ HLT.out.low)
      skip
      -- alive, in world wr, with HBF : Below w.heap.size w wr; HEF.out : EType wr
      have HA := Lib.hid (alive21_any wr HEF.out)
      go_wp2_with fail
      refine HA.out.mono ?_
      rintro e w9 ⟨rfl, hb9⟩
      have HB9 := Lib.hid (HBF.out.trans (hb9.mono HBF.out.size))
      go_wp2_with fail
      go_ret
      exact ⟨rfl, HB9.out⟩
end Go.Proofs.YtgmahahhkaofbaaGreatDoor.Slt

namespace Go.Proofs.YtgmahahhkaofbaaGreatDoor.bulks
open Go.Mir

theorem one_le {H : Type} (d : DataW H) : 1 ≤ Rows.uptoBulk d := by
  cases d with
  | lit l => cases l <;> simp [Rows.uptoBulk]
  | nil => simp [Rows.uptoBulk]
  | ptr d => simp [Rows.uptoBulk]
  | slice elems spare => simp [Rows.uptoBulk]
  | agg parts => simp [Rows.uptoBulk]
  | iface t d => simp [Rows.uptoBulk]
  | map entries => simp [Rows.uptoBulk]
  | held h => simp [Rows.uptoBulk]
theorem bulkAll_cons {H : Type} (d : DataW H) (r : List (DataW H)) : Rows.uptoBulkAll (d :: r) = Rows.uptoBulk d + Rows.uptoBulkAll r := by simp only [Rows.uptoBulkAll]
theorem bulkAll_nil {H : Type} : Rows.uptoBulkAll ([] : List (DataW H)) = 0 := by simp only [Rows.uptoBulkAll]
theorem length_le {H : Type} (l : List (DataW H)) : l.length ≤ Rows.uptoBulkAll l := by
  induction l with
  | nil => simp [Rows.uptoBulkAll]
  | cons x r ih => have := one_le x; simp only [Rows.uptoBulkAll, List.length_cons]; omega
theorem slice_eq {H : Type} (elems spare : List (DataW H)) : Rows.uptoBulk (.slice elems spare) = Rows.uptoBulkAll elems + Rows.uptoBulkAll spare + 1 := by
  simp only [Rows.uptoBulk]
theorem agg_eq {H : Type} (ds : List (DataW H)) : Rows.uptoBulk (.agg ds) = Rows.uptoBulkAll ds + 1 := by
  simp only [Rows.uptoBulk]
theorem dlen_le {H : Type} (d : DataW H) : dlen d + 1 ≤ Rows.uptoBulk d := by
  cases d with
  | slice elems spare => have := length_le elems; rw [slice_eq]; simp only [dlen]; omega
  | _ => exact one_le _
theorem bound {H : Type} {l : List (DataW H)} (hk : Rows.uptoSmall H l = true) : Rows.uptoBulkAll l ≤ 1048576 := of_decide_eq_true hk
end Go.Proofs.YtgmahahhkaofbaaGreatDoor.bulks

namespace Go.Proofs.YtgmahahhkaofbaaGreatDoor.Slt
open Go.ChangeShapes Go.WideShapes Go.ChangeAt Go.RowKit Go.Mir

theorem split4 {cs : List Value} (h : cs.length = 4) : cs = (cs.drop 0).take 1 ++ (cs.drop 1).take 1 ++ (cs.drop 2).take 1 ++ (cs.drop 3).take 1 := by
  match cs, h with
  | [a, b, c, d], _ => rfl
set_option maxRecDepth 100000 in
theorem trod_sop {W : World} {H : Type} {enc : TypeId × Value → H} {base fuel : Nat} {held : Bool} {cs : List Value} {x : DataW H × List MemPlace}
    (h : DataW.trod enc Tryz.prog W base (fun _ => true) held fuel 51 cs = some x) :
    ∃ o : SOp, SOpAt W cs o ∧ ∃ d0 d1 d2 d3, x.1 = .agg [d0, d1, d2, d3] ∧ dlen d3 = o.b.length := by
  obtain ⟨xs, m, rfl, rfl, hl, hxl, hx⟩ := DataW.trod_struct Tryz.underlying51 h
  have hl' : cs.length = 4 := by rw [hl]; kernel_rfl
  have hxl' : xs.length = 4 := by rw [hxl]; rfl
  match xs, hxl' with
  | [x0, x1, x2, x3], _ =>
    have h0 := hx 0 _ rfl
    have h1 := hx 1 _ rfl
    have h2 := hx 2 _ rfl
    have h3 := hx 3 _ rfl
    obtain ⟨z0, e0, _, w0⟩ := DataW.trod_int Tryz.underlying3 h0
    obtain ⟨z1, e1, _, w1⟩ := DataW.trod_int Tryz.underlying3 h1
    obtain ⟨z2, e2, _, w2⟩ := DataW.trod_int Tryz.underlying3 h2
    obtain ⟨p3, n3, c3, l3, e3, b3, dl3⟩ := trod_bs Tryz.underlying22 Tryz.underlying5 (by kernel_rfl) h3
    obtain rfl := b3.length
    refine ⟨⟨z0, z1, z2, l3⟩, ⟨⟨p3, c3, ?_, b3⟩, i64_bd w0, i64_bd w1, i64_bd w2⟩, x0.1, x1.1, x2.1, x3.1, rfl, dl3⟩
    have hs := split4 hl'
    have e0' : (cs.drop 0).take 1 = [.int .i64 z0] := e0
    have e1' : (cs.drop 1).take 1 = [.int .i64 z1] := e1
    have e2' : (cs.drop 2).take 1 = [.int .i64 z2] := e2
    have e3' : (cs.drop 3).take 1 = [.slice p3 l3.length c3] := e3
    rw [e0', e1', e2', e3'] at hs
    rw [hs]
    rfl
/-- what an op holds, and how long -/
def SopR (W : World) {H : Type} (o : SOp) (cs : List Value) (d : DataW H) : Prop := SOpAt W cs o ∧ ∃ d0 d1 d2 d3, d = .agg [d0, d1, d2, d3] ∧ dlen d3 = o.b.length
theorem rbulk_le {H : Type} (W : World) : ∀ (L : List (List Value × SOp)) (elems : List (DataW H)), elems.length = L.length → (∀ i (h1 : i < elems.length) (h2 : i < L.length), SopR W L[i].2 L[i].1 elems[i]) → L.length + bsum (L.map (·.2)) ≤ Rows.uptoBulkAll elems
  | [], elems, _, _ => by simp [bsum]
  | x :: L, [], h, _ => by simp at h
  | x :: L, d :: elems, h, hR => by
    obtain ⟨_, d0, d1, d2, d3, hd, h3⟩ := hR 0 (by simp) (by simp)
    have ih := rbulk_le W L elems (by simpa using h) (fun i h1 h2 => hR (i + 1) (by simpa using h1) (by simpa using h2))
    have hd' : d = .agg [d0, d1, d2, d3] := hd
    have h3' : dlen d3 = x.2.b.length := h3
    have b3 := bulks.dlen_le d3
    have b0 := bulks.one_le d0
    rw [bulks.bulkAll_cons, hd', bulks.agg_eq, List.length_cons]
    simp only [bulks.bulkAll_cons, bulks.bulkAll_nil, List.map_cons, bsum]
    omega
set_option maxRecDepth 100000 in
theorem trod_sops {W : World} {H : Type} {enc : TypeId × Value → H} {base fuel : Nat} {held : Bool} {cs : List Value} {x : DataW H × List MemPlace}
    (h : DataW.trod enc Tryz.prog W base (fun _ => true) held fuel 23 cs = some x) :
    ∃ p c os rows, cs = [.slice p os.length c] ∧ SOps W p os.length c os rows ∧ os.length + bsum os ≤ Rows.uptoBulk x.1 := by
  obtain ⟨p, n, c, L, hcs, hr, hdl, hL⟩ := trod_rows (size := 4) (R := fun (o : SOp) cs' d => SopR W o cs' d) Tryz.underlying23 (by kernel_rfl) (by omega) (fun m cs' y hy => by
    obtain ⟨o, ho, x0, x1, x2, x3, hy1, hy2⟩ := trod_sop hy
    exact ⟨o, ho, x0, x1, x2, x3, hy1, hy2⟩) h
  have hc : (L.map (·.2)).length = n := by
    have := hr.count
    simpa using this
  refine ⟨p, c, L.map (·.2), L.map (·.1), by rw [hc]; exact hcs, ⟨by rw [hc]; exact hr, rfl, fun i r o h1 h2 => ?_⟩, ?_⟩
  · simp only [List.getElem?_map, Option.map_eq_some_iff] at h1 h2
    obtain ⟨x1, hx1, rfl⟩ := h1
    obtain ⟨x2, hx2, rfl⟩ := h2
    rw [hx1] at hx2
    cases hx2
    have hlt := (List.getElem?_eq_some_iff.1 hx1).1
    rcases hL with ⟨_, hL⟩ | ⟨elems, spare, hd, hlen, hall⟩
    · subst hL; simp at hlt
    · have := hall i (by omega) hlt
      rw [List.getElem?_eq_getElem hlt] at hx1
      cases hx1
      exact this.1
  · rcases hL with ⟨_, hL⟩ | ⟨elems, spare, hd, hlen, hall⟩
    · subst hL; simp [bsum]
    · have h1 := rbulk_le W L elems hlen hall
      rw [hd, bulks.slice_eq, List.length_map]
      omega
set_option maxRecDepth 100000 in
theorem open_case21 {W : World} {H : Type} {enc : TypeId × Value → H} {base : Nat} {v : Value} {d : DataW H} {ps : List MemPlace} (hval : Value.okWide Tryz.prog W .any base 25 v) (h : DataW.Trod enc Tryz.prog W 0 (fun _ => true) true 25 v d ps) :
    ∃ room pa ca x pb cb y p c os rows, v = .agg (case4 room pa x.length ca pb y.length cb p os.length c) ∧ (-9223372036854775808 ≤ room ∧ room ≤ 9223372036854775807) ∧ Bs W pa x.length ca x ∧ Bs W pb y.length cb y ∧ SOps W p os.length c os rows ∧ os.length + x.length + y.length + bsum os ≤ Rows.uptoBulk d := by
  obtain ⟨cs, rfl, hcs⟩ := okWide_struct Tryz.underlying25 hval
  obtain ⟨fuel, hf⟩ := h
  have hf' : DataW.trod enc Tryz.prog W 0 (fun _ => true) true fuel 25 cs.toList = some (d, ps) := hf
  obtain ⟨xs, m, rfl, hd, hl, hxl, hx⟩ := DataW.trod_struct Tryz.underlying25 hf'
  have hl' : cs.toList.length = 4 := by rw [hl]; kernel_rfl
  have hxl' : xs.length = 4 := by rw [hxl]; rfl
  match xs, hxl' with
  | [x0, x1, x2, x3], _ =>
    have h0 := hx 0 _ rfl
    have h1 := hx 1 _ rfl
    have h2 := hx 2 _ rfl
    have h3 := hx 3 _ rfl
    obtain ⟨z0, e0, _, w0⟩ := DataW.trod_int Tryz.underlying3 h0
    obtain ⟨p1, n1, c1, l1, e1, b1, dl1⟩ := trod_bs Tryz.underlying22 Tryz.underlying5 (by kernel_rfl) h1
    obtain ⟨p2, n2, c2, l2, e2, b2, dl2⟩ := trod_bs Tryz.underlying22 Tryz.underlying5 (by kernel_rfl) h2
    obtain ⟨p, c, os, rows, e3, hO, hb1⟩ := trod_sops h3
    obtain rfl := b1.length
    obtain rfl := b2.length
    have hs := split4 hl'
    have e0' : (cs.toList.drop 0).take 1 = [.int .i64 z0] := e0
    have e1' : (cs.toList.drop 1).take 1 = [.slice p1 l1.length c1] := e1
    have e2' : (cs.toList.drop 2).take 1 = [.slice p2 l2.length c2] := e2
    have e3' : (cs.toList.drop 3).take 1 = [.slice p os.length c] := e3
    rw [e0', e1', e2', e3'] at hs
    have hd' : d = .agg [x0.1, x1.1, x2.1, x3.1] := by
      have := congrArg Prod.fst hd
      exact this
    have q1 := bulks.dlen_le x1.1
    have q2 := bulks.dlen_le x2.1
    refine ⟨z0, p1, c1, l1, p2, c2, l2, p, c, os, rows, ?_, i64_bd w0, b1, b2, hO, ?_⟩
    · have : cs = [Value.int .i64 z0, Value.slice p1 l1.length c1, Value.slice p2 l2.length c2, Value.slice p os.length c].toArray := by rw [← Array.toArray_toList (xs := cs), hs]; rfl
      rw [this]; rfl
    · rw [hd', bulks.agg_eq]
      simp only [bulks.bulkAll_cons, bulks.bulkAll_nil]
      omega
end Go.Proofs.YtgmahahhkaofbaaGreatDoor.Slt
