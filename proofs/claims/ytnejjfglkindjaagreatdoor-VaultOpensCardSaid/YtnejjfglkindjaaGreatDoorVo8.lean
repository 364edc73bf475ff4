/- PARTS, JOINED: PLAIN PART OF SlotKeeps: snapshots put while a fuse burns, and what a crash leaves. Conditions: none. LAYER 21: the statement's own words: alive; a disk made, armed, crashed. Conditions: the laid cell of errors.errorType. LAYER 22: the statement's own words: alive. Conditions: the laid cell of errors.errorType. PLAIN PART OF THE VAULT LAWS: records put, snapshots taken and rolls opened while a fuse burns, and what a crash leaves. Conditions: none. PLAIN PART OF THE VAULT LAWS: how disk, slots and vault stand together, and what a crash leaves of them. Conditions: at most 1100 bytes and calls. PLAIN PART OF THE VAULT LAWS: a snapshot taken, and what a crash leaves. Conditions: at most 1100 bytes and calls. PLAIN PART OF THE VAULT LAWS: room stays; without a fuse no disk goes down; the count of steps. Conditions: none. THE REFERENCE'S DISK IN MEMORY; Units. Conditions: sizes that fit. THE REFERENCE'S DISK: Done, Holds. Conditions: sizes that fit. THE REFERENCE'S DISK: Holds, Need, Used. Conditions: sizes that fit. THE REFERENCE'S DISK: its value; Used, burn, answer, Arm. Conditions: sizes that fit. THE REFERENCE'S DISK: burn, Arm, Sync. Conditions: sizes that fit. THE REFERENCE'S DISK: what is kept beside its boxes; Sync. Conditions: sizes that fit. THE REFERENCE'S DISK: Sync. Conditions: sizes that fit. THE REFERENCE'S DISK: Do, where the step may be done. Conditions: sizes that fit. -/
import Derived.Test.YtnejjfglkindjaaGreatDoorVo1
import Derived.Test.YtnejjfglkindjaaGreatDoorVo2
import Derived.Test.YtnejjfglkindjaaGreatDoorVo3
import Derived.Test.YtnejjfglkindjaaGreatDoorVo4
import Derived.Test.YtnejjfglkindjaaGreatDoorVo5
import Derived.Test.YtnejjfglkindjaaGreatDoorVo6
import Derived.Test.YtnejjfglkindjaaGreatDoorVo7
namespace Go.Proofs.YtnejjfglkindjaaGreatDoor.Slt
open Go.RowKit Go.Mir Dk Rol Wr
open Frm (frame one frame_length one_frame0 one_torn)
def wF (d : DD) (fz : Nat) (dn : Bool) : DD := ⟨d.fs, d.room, fz, dn⟩
theorem fD_wF (d : DD) (a : Nat) (x : Bool) (i : Nat) : fD (wF d a x) i = fD d i := rfl
def Torn (y fr : List UInt8) (g : FD) : Prop := g = ⟨y, [], [.cut 0], y.length⟩ ∨ g = ⟨[], fr, [.put fr], fr.length⟩
def opS (y1 y2 : List UInt8) : SS := bet (bet ⟨-1, 0, []⟩ 1 y1) 2 y2
theorem opnS_is (d : DD) : opnS d 1 2 = opS (fD d 1).now (fD d 2).now := rfl
structure Cur (y1 y2 : List UInt8) (s : SS) : Prop where
 how : (s = ⟨-1, 0, []⟩ ∧ (loadP y1).1 = 0 ∧ (loadP y2).1 = 0) ∨ (s.now = 1 ∧ 1 ≤ s.turn ∧ loadP y1 = (s.turn, s.body) ∧ (loadP y2).1 < s.turn) ∨ (s.now = 2 ∧ 1 ≤ s.turn ∧ loadP y2 = (s.turn, s.body) ∧ (loadP y1).1 < s.turn)
theorem bet_no {s : SS} {f : Nat} {l : List UInt8} (h : (loadP l).1 ≤ s.turn) : bet s f l = s := if_neg (by omega)
theorem Cur.op {y1 y2 : List UInt8} {s : SS} (h : Cur y1 y2 s) : opS y1 y2 = s := by
 obtain ⟨now, turn, body⟩ := s
 unfold opS
 rcases h.how with ⟨e, a, b⟩ | ⟨e, h1, a, b⟩ | ⟨e, h1, a, b⟩
 ·rw [bet_no (s := ⟨-1, 0, []⟩) (f := 1) (l := y1) (by rw [a]; exact Nat.zero_le _), bet_no (by rw [b]; exact Nat.zero_le _), e]
 ·have e : now = 1 := e
  have a : loadP y1 = (turn, body) := a
  subst e
  have h2 : bet ⟨-1, 0, []⟩ 1 y1 = ⟨1, turn, body⟩ := by unfold bet; rw [a]; exact if_pos h1
  rw [h2]
  exact bet_no (Nat.le_of_lt b)
 ·have e : now = 2 := e
  have a : loadP y2 = (turn, body) := a
  have b : (loadP y1).1 < turn := b
  subst e
  have h2 : (bet ⟨-1, 0, []⟩ 1 y1).turn < turn := by
   unfold bet
   split
   ·exact b
   ·exact h1
  unfold bet at h2 ⊢
  rw [a]
  exact if_pos h2
theorem Cur.other {y1 y2 : List UInt8} {s : SS} (h : Cur y1 y2 s) (z : List UInt8) (hz : (loadP z).1 = 0) : (nxt s 1 2 = 1 ∧ Cur z y2 s) ∨ (nxt s 1 2 = 2 ∧ Cur y1 z s) := by
 obtain ⟨now, turn, body⟩ := s
 rcases h.how with ⟨e, a, b⟩ | ⟨e, h1, a, b⟩ | ⟨e, h1, a, b⟩
 ·refine .inl ⟨?_, ⟨.inl ⟨e, hz, b⟩⟩⟩
  rw [e]; rfl
 ·have e : now = 1 := e
  subst e
  exact .inr ⟨rfl, ⟨.inr (.inl ⟨rfl, h1, a, by rw [hz]; exact h1⟩)⟩⟩
 ·have e : now = 2 := e
  subst e
  exact .inl ⟨rfl, ⟨.inr (.inr ⟨rfl, h1, a, by rw [hz]; exact h1⟩)⟩⟩
theorem Cur.next {y1 y2 : List UInt8} {s : SS} (h : Cur y1 y2 s) (x : List UInt8) (hx : x.length ≤ 65528) (ht : s.turn + 1 < 18446744073709551616) :
  (nxt s 1 2 = 1 ∧ Cur (wrapB s x) y2 ⟨1, s.turn + 1, x⟩) ∨ (nxt s 1 2 = 2 ∧ Cur y1 (wrapB s x) ⟨2, s.turn + 1, x⟩) := by
 have hl : loadP (wrapB s x) = (s.turn + 1, x) := load_frame _ _ ht hx
 obtain ⟨now, turn, body⟩ := s
 rcases h.how with ⟨e, a, b⟩ | ⟨e, h1, a, b⟩ | ⟨e, h1, a, b⟩
 ·refine .inl ⟨by rw [e]; rfl, ⟨.inr (.inl ⟨rfl, by show 1 ≤ turn + 1; omega, hl, by show _ < turn + 1; omega⟩)⟩⟩
 ·have e : now = 1 := e
  subst e
  exact .inr ⟨rfl, ⟨.inr (.inr ⟨rfl, by show 1 ≤ turn + 1; omega, hl, by rw [a]; show turn < turn + 1; omega⟩)⟩⟩
 ·have e : now = 2 := e
  subst e
  exact .inl ⟨rfl, ⟨.inr (.inl ⟨rfl, by show 1 ≤ turn + 1; omega, hl, by rw [a]; show turn < turn + 1; omega⟩)⟩⟩
structure Up (d : DD) (y1 y2 : List UInt8) (s : SS) : Prop where
 m3 : d.fs.length = 3
 room : d.room = 65536
 f0 : fD d 0 = FD.none
 f1 : fD d 1 = fS y1
 f2 : fD d 2 = fS y2
 cur : Cur y1 y2 s
theorem used3 {d : DD} (h : d.fs.length = 3) : usedL d.fs = (fD d 0).need + (fD d 1).need + (fD d 2).need := by
 obtain ⟨fs, room, fuse, down⟩ := d
 obtain ⟨a, b, c, rfl⟩ := list3 h
 show a.need + (b.need + (c.need + 0)) = a.need + b.need + c.need
 omega
theorem Up.used {d : DD} {y1 y2 : List UInt8} {s : SS} (h : Up d y1 y2 s) : usedL d.fs = y1.length + y2.length := by
 rw [used3 h.m3, h.f0, h.f1, h.f2]
 show 0 + y1.length + y2.length = _
 omega
theorem Up.wF {d : DD} {y1 y2 : List UInt8} {s : SS} (h : Up d y1 y2 s) (k : Nat) (x : Bool) : Up (wF d k x) y1 y2 s := ⟨h.m3, h.room, h.f0, h.f1, h.f2, h.cur⟩
theorem wrapB_len (s : SS) (x : List UInt8) : (wrapB s x).length = 16 + x.length := by unfold wrapB; rw [frame_length, List.length_append, be_length]; omega
structure Dn (d : DD) (s : SS) (x : List UInt8) : Prop where
 down : d.down = true
 was : ∃ d0 y1 y2 g, Up d0 y1 y2 s ∧ d = Slt.wF (setF d0 (nxt s 1 2) g) 0 true ∧ Torn (if nxt s 1 2 = 1 then y1 else y2) (wrapB s x) g ∧ y1.length ≤ 2000 ∧ y2.length ≤ 2000
theorem nxt12 (s : SS) : nxt s 1 2 = 1 ∨ nxt s 1 2 = 2 := by unfold nxt; split; exact .inr rfl; exact .inl rfl
theorem fD_crash {us : List Int} {d : DD} (h : d.fs.length = 3) (k : Nat) (hk : k < 3) : fD (crashD us d) k = (fD d k).settle (crU us k (fD d k)) := by
 obtain ⟨fs, room, fuse, down⟩ := d
 obtain ⟨a, b, c, rfl⟩ := list3 h
 match k, hk with
 | 0, _ => rfl
 | 1, _ => rfl
 | 2, _ => rfl
theorem settle_fS (y : List UInt8) (u : Nat) : (fS y).settle u = fS y := rfl
theorem torn_settle {y fr : List UInt8} {g : FD} (h : Torn y fr g) (u : Nat) (hu : u ≤ unitsAll g.steps) : ∃ z, g.settle u = fS z ∧ (z = y ∨ z = [] ∨ ∃ k, k ≤ fr.length ∧ z = fr.take k) := by
 rcases h with rfl | rfl
 ·refine ⟨someU y [.cut 0] u, rfl, ?_⟩
  show (if min u 1 = 0 then y else y.take 0) = y ∨ (if min u 1 = 0 then y else y.take 0) = [] ∨ _
  split
  ·exact .inl rfl
  ·exact .inr (.inl List.take_zero)
 ·have hu : u ≤ fr.length + 0 := hu
  have e : someU [] [.put fr] u = fr.take u := by
   show (St.put fr).act [] (min u fr.length) = _
   rw [Nat.min_eq_left (by omega)]; rfl
  refine ⟨fr.take u, ?_, .inr (.inr ⟨u, by omega, rfl⟩)⟩
  show (⟨someU [] _ _, someU [] _ _, [], (someU [] _ _).length⟩ : FD) = _
  rw [e]; rfl
theorem Up.crash {d : DD} {y1 y2 : List UInt8} {s : SS} (h : Up d y1 y2 s) (us : List Int) : Up (crashD us d) y1 y2 s := by
 have e0 := fD_crash (us := us) h.m3 0 (by omega)
 have e1 := fD_crash (us := us) h.m3 1 (by omega)
 have e2 := fD_crash (us := us) h.m3 2 (by omega)
 rw [h.f0] at e0
 rw [h.f1, settle_fS] at e1
 rw [h.f2, settle_fS] at e2
 refine ⟨?_, h.room, e0, e1, e2, h.cur⟩
 obtain ⟨fs, room, fuse, down⟩ := d
 obtain ⟨a, b, c, rfl⟩ := list3 h.m3
 rfl
theorem Up.told {d : DD} {y1 y2 : List UInt8} {s : SS} (h : Up d y1 y2 s) : opnS d 1 2 = s := by
 rw [opnS_is, h.f1, h.f2]
 exact h.cur.op
theorem Dn.crash {d : DD} {s : SS} {x : List UInt8} (h : Dn d s x) (hx : x.length ≤ 1000) (ht : s.turn + 1 < 18446744073709551616) (us : List Int) :
  ∃ z1 z2 s', Up (crashD us d) z1 z2 s' ∧ z1.length ≤ 2000 ∧ z2.length ≤ 2000 ∧ (s' = s ∨ (s'.turn = s.turn + 1 ∧ s'.body = x)) := by
 obtain ⟨d0, y1, y2, g, hu, rfl, hg, l1, l2⟩ := h.was
 have hw := wrapB_len s x
 have hm : (Slt.wF (setF d0 (nxt s 1 2) g) 0 true).fs.length = 3 := by show (List.set _ _ _).length = 3; rw [List.length_set]; exact hu.m3
 have e0 := fD_crash (us := us) hm 0 (by omega)
 have e1 := fD_crash (us := us) hm 1 (by omega)
 have e2 := fD_crash (us := us) hm 2 (by omega)
 have hm3 : (crashD us (Slt.wF (setF d0 (nxt s 1 2) g) 0 true)).fs.length = 3 := by
  generalize Slt.wF (setF d0 (nxt s 1 2) g) 0 true = D at hm
  obtain ⟨fs, room, fuse, down⟩ := D
  obtain ⟨a, b, c, rfl⟩ := list3 hm
  rfl
 have hi : nxt s 1 2 < d0.fs.length := by rcases nxt12 s with e | e <;> rw [e, hu.m3] <;> omega
 have hroom : (crashD us (Slt.wF (setF d0 (nxt s 1 2) g) 0 true)).room = 65536 := hu.room
 have hz0 : ∀ k, k < (wrapB s x).length → (loadP ((wrapB s x).take k)).1 = 0 := fun k hk => by
  have := load_torn (s.turn + 1) x (by omega) k (by omega)
  unfold wrapB
  rw [this]
 rcases nxt12 s with e | e
 ·rw [e] at hi hg e0 e1 e2 hm3 hroom ⊢
  rw [fD_wF, fD_other (by omega), hu.f0] at e0
  rw [fD_wF, fD_other (by omega), hu.f2, settle_fS] at e2
  rw [fD_wF, fD_set hi] at e1
  obtain ⟨z, hz, hc⟩ := torn_settle hg _ (crU_le (us := us) (k := 1) (f := g))
  rw [hz] at e1
  rw [if_pos rfl] at hc
  have mk : ∀ s', Cur z y2 s' → Up (crashD us (Slt.wF (setF d0 1 g) 0 true)) z y2 s' := fun s' c => ⟨hm3, hroom, e0, e1, e2, c⟩
  rcases hc with rfl | rfl | ⟨k, hk, rfl⟩
  ·exact ⟨_, _, s, mk _ hu.cur, l1, l2, .inl rfl⟩
  ·rcases hu.cur.other [] rfl with ⟨_, c⟩ | ⟨q, _⟩
   ·exact ⟨_, _, s, mk _ c, by simp, l2, .inl rfl⟩
   ·rw [e] at q; exact absurd q (by decide)
  ·have hlk : ((wrapB s x).take k).length ≤ 2000 := by rw [List.length_take]; omega
   by_cases hkl : k < (wrapB s x).length
   ·rcases hu.cur.other _ (hz0 k hkl) with ⟨_, c⟩ | ⟨q, _⟩
    ·exact ⟨_, _, s, mk _ c, hlk, l2, .inl rfl⟩
    ·rw [e] at q; exact absurd q (by decide)
   ·have hall : (wrapB s x).take k = wrapB s x := List.take_of_length_le (by omega)
    rw [hall] at mk hlk
    rcases hu.cur.next x (by omega) ht with ⟨_, c⟩ | ⟨q, _⟩
    ·exact ⟨_, _, _, mk _ c, hlk, l2, .inr ⟨rfl, rfl⟩⟩
    ·rw [e] at q; exact absurd q (by decide)
 ·rw [e] at hi hg e0 e1 e2 hm3 hroom ⊢
  rw [fD_wF, fD_other (by omega), hu.f0] at e0
  rw [fD_wF, fD_other (by omega), hu.f1, settle_fS] at e1
  rw [fD_wF, fD_set hi] at e2
  obtain ⟨z, hz, hc⟩ := torn_settle hg _ (crU_le (us := us) (k := 2) (f := g))
  rw [hz] at e2
  rw [if_neg (by decide)] at hc
  have mk : ∀ s', Cur y1 z s' → Up (crashD us (Slt.wF (setF d0 2 g) 0 true)) y1 z s' := fun s' c => ⟨hm3, hroom, e0, e1, e2, c⟩
  rcases hc with rfl | rfl | ⟨k, hk, rfl⟩
  ·exact ⟨_, _, s, mk _ hu.cur, l1, l2, .inl rfl⟩
  ·rcases hu.cur.other [] rfl with ⟨q, _⟩ | ⟨_, c⟩
   ·rw [e] at q; exact absurd q (by decide)
   ·exact ⟨_, _, s, mk _ c, l1, by simp, .inl rfl⟩
  ·have hlk : ((wrapB s x).take k).length ≤ 2000 := by rw [List.length_take]; omega
   by_cases hkl : k < (wrapB s x).length
   ·rcases hu.cur.other _ (hz0 k hkl) with ⟨q, _⟩ | ⟨_, c⟩
    ·rw [e] at q; exact absurd q (by decide)
    ·exact ⟨_, _, s, mk _ c, l1, hlk, .inl rfl⟩
   ·have hall : (wrapB s x).take k = wrapB s x := List.take_of_length_le (by omega)
    rw [hall] at mk hlk
    rcases hu.cur.next x (by omega) ht with ⟨q, _⟩ | ⟨_, c⟩
    ·rw [e] at q; exact absurd q (by decide)
    ·exact ⟨_, _, _, mk _ c, l1, hlk, .inr ⟨rfl, rfl⟩⟩
end Go.Proofs.YtnejjfglkindjaaGreatDoor.Slt
namespace Go.Proofs.YtnejjfglkindjaaGreatDoor.Slt
open Go.RowKit Go.Mir Go.Mir.Parts Dk Rol Wr
open Frm (frame)
theorem snew (room : Nat) (w : World) (h : 1 ≤ room ∧ room ≤ 65536) :
  Calls Tryz.prog 16 #[.int .i64 (room : Int)] w fun e w' => ∃ db, e = .returned (.tuple #[.pointer (some ⟨db, 0, none⟩), .int .i64 0]) ∧ DX w.heap.size db (DD.new room) w' ∧ Below w.heap.size w w' := by
 refine (new_any room w h).mono ?_
 rintro e w' ⟨db, vs, he, hd, hb⟩
 exact ⟨db, he, ⟨hb.size, vs, hd⟩, hb⟩
theorem bs_row {w : World} {g : Nat} {cur : Array Value} {t : TypeId} {fr : Nat × Nat} {l : List UInt8} (hr : w.heap[g]? = some (.cells cur t fr)) (hc : cur.toList = bytesV l) (hm : l.length ≤ 9223372036854775807) : Bs w (some ⟨g, 0, none⟩) l.length l.length l :=
 ⟨by rw [bytesV_length, Nat.mul_one], Nat.le_refl _, hm, fun h => (by cases h), fun a ha j u hu => by
  obtain rfl := Option.some.inj ha
  rw [add_none, cell_of_row _ _ _ _ _ _ hr, ← Array.getElem?_toList, hc, Nat.zero_add]
  exact hu⟩
theorem few_new (room : Nat) : ∀ j, (fD (DD.new room) j).steps.length ≤ 0
 | 0 => Nat.le_refl _
 | 1 => Nat.le_refl _
 | 2 => Nat.le_refl _
 | _ + 3 => Nat.le_refl _
theorem opn_new (room a b : Nat) (ha : a < 3) (hb : b < 3) : opnS (DD.new room) a b = ⟨-1, 0, []⟩ := by
 have h : ∀ i, i < 3 → (fD (DD.new room) i).now = [] := fun i hi => by
  match i, hi with
  | 0, _ => rfl
  | 1, _ => rfl
  | 2, _ => rfl
 unfold opnS
 rw [h a ha, h b hb]
 rfl
end Go.Proofs.YtnejjfglkindjaaGreatDoor.Slt
namespace Go.Proofs.YtnejjfglkindjaaGreatDoor.Vlt
open Go.RowKit Go.Mir Go.Mir.Parts Dk Rol Wr Slt Cut
open Frm (frame scan)
theorem XV.below {base rb sb db vb : Nat} {d : DD} {s : SS} {v : VS} {w w' : World} (h : XV base rb sb db vb d s v w) (hb : Below w.heap.size w w') : XV base rb sb db vb d s v w' := by
 obtain ⟨pb, cb, pa, ca, h⟩ := h
 exact ⟨pb, cb, pa, ca, h.below hb⟩
def aD0 : DD := opnD (DD.new 300) 0
def aD1 : DD := vputD aD0 VS.zero [7]
def aV1 : VS := vputV aD0 VS.zero [7]
def aD2 : DD := vcD aD1 ⟨-1, 0, []⟩ aV1 [5]
def aS2 : SS := vcS aD1 ⟨-1, 0, []⟩ aV1 [5]
def aV2 : VS := vcV aD1 ⟨-1, 0, []⟩ aV1 [5]
theorem aE0 : opnE (DD.new 300) 0 = 0 := by decide +kernel
theorem aF0 : vopF (DD.new 300) = some VS.zero := by kernel_rfl
theorem aE1 : vputE aD0 VS.zero [7] = 0 := by decide +kernel
theorem aE2 : vcE aD1 ⟨-1, 0, []⟩ aV1 [5] = 0 := by decide +kernel
theorem aE3 : vputE aD2 aV2 [8] = 0 := by decide +kernel
theorem aV3 : vputV aD2 aV2 [8] = ⟨2, true, [5], [[8]]⟩ := by kernel_rfl
theorem few_all {d : DD} {N : Nat} (h : d.fs.all (fun f => decide (f.steps.length ≤ N)) = true) : ∀ j, (fD d j).steps.length ≤ N := fun j => by
 unfold fD
 cases hj : d.fs[j]? with
 | none => exact Nat.zero_le _
 | some f => exact of_decide_eq_true (List.all_eq_true.1 h f (List.mem_of_getElem? hj))
theorem aW0 : ∀ j, (fD aD0 j).steps.length ≤ 9 := few_all (by decide +kernel)
theorem aW1 : ∀ j, (fD aD1 j).steps.length ≤ 9 := few_all (by decide +kernel)
theorem aW2 : ∀ j, (fD aD2 j).steps.length ≤ 9 := few_all (by decide +kernel)
theorem aL2 : aV2.after.length = 0 := by decide +kernel
set_option maxRecDepth 100000 in
set_option maxHeartbeats 3200000 in
theorem alive22_any (w : World) (hE : Rdr.EType w) :
  Calls Tryz.prog 14 #[] w fun e w' => e = .returned (.bool true) ∧ Below w.heap.size w w' := by
 have HE := Lib.hid hE
 have HN : Hid (Calls Tryz.prog 16 #[.int .i64 300] w fun e w' => ∃ db, e = .returned (.tuple #[.pointer (some ⟨db, 0, none⟩), .int .i64 0]) ∧ DX w.heap.size db (DD.new 300) w' ∧ Below w.heap.size w w') := snew 300 w (by omega)
 clear hE
 go_enter Tryz.func14, Tryz.ntmps14
 go_wp2_with fail
 refine HN.out.mono ?_
 rintro e w1 ⟨db, rfl, hd1, hb1⟩
 have HB1 := Lib.hid hb1
 have HO := Lib.hid (vopen_any w1 (HE.out.below hb1 HE.out.lt) HE.out.lt hd1 rfl (by have := few_new 300 0; omega) (fun _ h => by rw [aF0] at h; cases h))
 clear hd1 hb1 HN
 go_wp2_with fail
 refine HO.out.mono ?_
 rintro e w2 ⟨hk2, hs2⟩
 rcases hs2 with ⟨hc, _⟩ | ⟨_, v, rb, sb, vb, hv, rfl, hs2⟩
 ·exact absurd aE0 hc
 rw [aF0] at hv
 obtain rfl := Option.some.inj hv
 rw [opn_new 300 1 2 (by omega) (by omega)] at hs2
 have hs2 : XV w.heap.size rb sb db vb aD0 ⟨-1, 0, []⟩ VS.zero w2 := hs2
 have HB2 := Lib.hid (HB1.out.trans ((hk2.below HB1.out.size).mono (Nat.le_refl _)))
 clear hv hk2 HO
 have hal : Below w2.heap.size w2 (w2.alloc (.cells #[.int .u8 7] 5)) := Below.allocs _ _
 have hrow := heap_alloc_last w2 (.cells #[.int .u8 7] 5)
 have HA3 := Lib.hid (HB2.out.trans (hal.mono HB2.out.size))
 have hp := vput_any _ (hs2.below hal) (some ⟨w2.heap.size, 0, none⟩) 1 [7] (fun w' hk => bs_row (hk.row hrow (by decide) (by decide)) rfl (by decide)) (by decide) (Nat.zero_le _) (by have := aW0 0; omega)
 unfold VPutP at hp
 rw [aE1] at hp
 have HP1 := Lib.hid hp
 clear hal hrow hs2 hp
 go_wp2_with fail
 refine HP1.out.mono ?_
 rintro e w4 ⟨rfl, hs4, hk4⟩
 have hs4 : XV w.heap.size rb sb db vb aD1 ⟨-1, 0, []⟩ aV1 w4 := hs4
 have HB4 := Lib.hid (HA3.out.trans ((hk4.below HA3.out.size).mono (Nat.le_refl _)))
 have hal : Below w4.heap.size w4 (w4.alloc (.cells #[.int .u8 5] 5)) := Below.allocs _ _
 have hrow := heap_alloc_last w4 (.cells #[.int .u8 5] 5)
 have HA5 := Lib.hid (HB4.out.trans (hal.mono HB4.out.size))
 have hp := vcomp_any (N := 9) _ (hs4.below hal) (some ⟨w4.heap.size, 0, none⟩) 1 [5] (fun w' hk => bs_row (hk.row hrow (by decide) (by decide) (by decide)) rfl (by decide)) (by decide) (by omega) aW1
 unfold VCompP at hp
 rw [aE2] at hp
 have HP2 := Lib.hid hp
 clear hal hrow hs4 hk4 hp HP1
 go_wp2_with fail
 refine HP2.out.mono ?_
 rintro e w6 ⟨rfl, hs6, hk6⟩
 have hs6 : XV w.heap.size rb sb db vb aD2 aS2 aV2 w6 := hs6
 have HB6 := Lib.hid (HA5.out.trans ((hk6.below HA5.out.size).mono (Nat.le_refl _)))
 have hal : Below w6.heap.size w6 (w6.alloc (.cells #[.int .u8 8] 5)) := Below.allocs _ _
 have hrow := heap_alloc_last w6 (.cells #[.int .u8 8] 5)
 have HA7 := Lib.hid (HB6.out.trans (hal.mono HB6.out.size))
 have hp := vput_any _ (hs6.below hal) (some ⟨w6.heap.size, 0, none⟩) 1 [8] (fun w' hk => bs_row (hk.row hrow (by decide) (by decide)) rfl (by decide)) (by decide) (by rw [aL2]; exact Nat.zero_le _) (by have := aW2 0; omega)
 unfold VPutP at hp
 rw [aE3, aV3] at hp
 have HP3 := Lib.hid hp
 clear hal hrow hs6 hk6 hp HP2
 go_wp2_with fail
 refine HP3.out.mono ?_
 rintro e w8 ⟨rfl, hs8, hk8⟩
 have HB8 := Lib.hid (HA7.out.trans ((hk8.below HA7.out.size).mono (Nat.le_refl _)))
 have HS8 := Lib.hid hs8
 have HG := Lib.hid (vsnap_any w8 hs8 (show (1 : Nat) ≤ _ by omega))
 clear hs8 hk8 HP3
 go_wp2_with fail
 refine HG.out.mono ?_
 rintro e w9 ⟨p9, c9, rfl, ho9, hb9⟩
 have HS9 := Lib.hid (HS8.out.below hb9)
 have HB9 := Lib.hid (HB8.out.trans (hb9.mono HB8.out.size))
 have HR := Lib.hid (vrecs_any w9 HS9.out (show (1 : Nat) ≤ _ by omega) (fun x hx => by rw [List.mem_singleton] at hx; subst hx; exact (by decide)))
 have HO9 : Hid (w9.ownsRow w8.heap.size 5 1 (.slice p9 1 c9) 1 (bytesV [5])) := ho9
 clear hb9 ho9 HG HS8
 go_wp2_with fail
 refine HR.out.mono ?_
 rintro e w10 ⟨pa, ca, rfl, hl, hb10⟩
 have HS10 := Lib.hid (HS9.out.below hb10)
 have HB10 := Lib.hid (HB9.out.trans (hb10.mono HB9.out.size))
 have HC5 : (convert 22 9 (.slice p9 1 c9)).run Tryz.prog w10 = .ok (.string (S [5])) w10 := Cut.bconv (n := 1) ((Cut.own_bs HO9.out).below hb10)
 obtain ⟨hs, g1, g2⟩ := hl.all
 obtain ⟨p1, c1, he, hsl⟩ := own_sl g1
 cases he
 obtain ⟨bb, oo, rfl⟩ := hsl.addr (by decide) (by decide)
 obtain ⟨q, k, e0, ho0⟩ := g2 0 (by decide)
 have hc0 : w10.cell? ⟨bb, oo, none⟩ = some (.slice q 1 k) := hsl.at e0
 have HC8 : (convert 22 9 (.slice q 1 k)).run Tryz.prog w10 = .ok (.string (S [8])) w10 := Cut.bconv (n := 1) (Cut.own_bs ho0)
 have HNX : Hid (Calls Tryz.prog 11 #[.pointer (some ⟨vb, 0, none⟩)] w10 fun e w' => e = .returned (.int .u64 3) ∧ w10 = w') := vnext_any w10 HS10.out (show (2 : Nat) + 1 < _ by omega)
 have hle : (1 : Nat) ≤ ca := hsl.le
 clear hl g1 g2 hsl e0 ho0 hb10 HR HS9 HO9 HS10
 go_wp2_with fail
 refine HNX.out.mono ?_
 rintro e w' ⟨rfl, rfl⟩
 go_wp2_with fail
 go_ret
 exact ⟨rfl, HB10.out⟩
end Go.Proofs.YtnejjfglkindjaaGreatDoor.Vlt
namespace Go.Proofs.YtnejjfglkindjaaGreatDoor.Vlt
open Go.RowKit Go.Mir Dk Rol Wr Slt
open Frm (frame scan frame_length)
theorem need_le {d : DD} {i : Nat} (h : i < d.fs.length) : (fD d i).need ≤ usedL d.fs := by
 have := usedL_mem h
 rwa [fD_eq h] at this
end Go.Proofs.YtnejjfglkindjaaGreatDoor.Vlt
namespace Go.Proofs.YtnejjfglkindjaaGreatDoor.Vlt
open Go.RowKit Go.Mir Dk Rol Wr Slt
open Frm (frame scan frame_length)
structure Vd (d : DD) (x y1 y2 : List UInt8) (s : SS) (v : VS) (n : Nat) : Prop where
 m3 : d.fs.length = 3
 f0 : fD d 0 = fS x
 f1 : fD d 1 = fS y1
 f2 : fD d 2 = fS y2
 cur : Cur y1 y2 s
 fill : fillV s (scan x).1 = some v
 turn : s.turn ≤ n
 last : v.last ≤ n
 len : x.length ≤ 24 * n
 l1 : y1.length ≤ 2000
 l2 : y2.length ≤ 2000
 bl : v.body.length ≤ 2000
 al : v.after.length ≤ n
 ax : ∀ r ∈ v.after, r.length ≤ 2000
theorem Vd.more {d : DD} {x y1 y2 : List UInt8} {s : SS} {v : VS} {n m : Nat} (h : Vd d x y1 y2 s v n) (hm : n ≤ m) : Vd d x y1 y2 s v m :=
 ⟨h.m3, h.f0, h.f1, h.f2, h.cur, h.fill, Nat.le_trans h.turn hm, Nat.le_trans h.last hm, by have := h.len; omega, h.l1, h.l2, h.bl, Nat.le_trans h.al hm, h.ax⟩
theorem Vd.used {d : DD} {x y1 y2 : List UInt8} {s : SS} {v : VS} {n : Nat} (h : Vd d x y1 y2 s v n) : usedL d.fs = x.length + y1.length + y2.length := by
 rw [used3 h.m3, h.f0, h.f1, h.f2]; rfl
theorem crash_m3 {d : DD} (h : d.fs.length = 3) (us : List Int) : (crashD us d).fs.length = 3 := by
 obtain ⟨fs, room, fuse, down⟩ := d
 obtain ⟨a, b, c, rfl⟩ := list3 h
 rfl
theorem Vd.at {d d' : DD} {x y1 y2 x' : List UInt8} {s : SS} {v : VS} {n : Nat} (h : Vd d x y1 y2 s v n) (m : d'.fs.length = 3) (e0 : fD d' 0 = fS x') (e1 : fD d' 1 = fS y1) (e2 : fD d' 2 = fS y2) (hl : x'.length ≤ 24 * n) (hf : fillV s (scan x').1 = some v) : Vd d' x' y1 y2 s v n :=
 ⟨m, e0, e1, e2, h.cur, hf, h.turn, h.last, hl, h.l1, h.l2, h.bl, h.al, h.ax⟩
theorem Vd.crash {d : DD} {x y1 y2 : List UInt8} {s : SS} {v : VS} {n : Nat} (h : Vd d x y1 y2 s v n) (us : List Int) : Vd (crashD us d) x y1 y2 s v n := by
 have e0 := fD_crash (us := us) h.m3 0 (by omega)
 have e1 := fD_crash (us := us) h.m3 1 (by omega)
 have e2 := fD_crash (us := us) h.m3 2 (by omega)
 rw [h.f0, settle_fS] at e0
 rw [h.f1, settle_fS] at e1
 rw [h.f2, settle_fS] at e2
 exact h.at (crash_m3 h.m3 us) e0 e1 e2 h.len h.fill
theorem Vd.told {d : DD} {x y1 y2 : List UInt8} {s : SS} {v : VS} {n : Nat} (h : Vd d x y1 y2 s v n) : opnS d 1 2 = s := by
 rw [opnS_is, h.f1, h.f2]
 exact h.cur.op
end Go.Proofs.YtnejjfglkindjaaGreatDoor.Vlt
namespace Go.Proofs.YtnejjfglkindjaaGreatDoor.Vlt
open Go.RowKit Go.Mir Dk Rol Wr Slt
open Frm (frame scan frame_length)
end Go.Proofs.YtnejjfglkindjaaGreatDoor.Vlt
namespace Go.Proofs.YtnejjfglkindjaaGreatDoor.Vlt
open Go.RowKit Go.Mir Dk Rol Wr Slt
open Frm (frame scan frame_length)
theorem burn0' {d : DD} (h : d.fuse = 0) : d.burn = d := by unfold DD.burn; rw [if_neg (by omega)]
theorem do_up0 {d : DD} {i : Nat} {f : FD} {s : St} (h1 : d.down = false) (h2 : d.fuse = 0) : (doD d i f s).down = false ∧ (doD d i f s).fuse = 0 := by
 unfold doD
 rw [if_neg (by rw [h1]; decide)]
 split
 ·exact ⟨h1, h2⟩
 ·rw [burn0' (d := setF d i (f.take s)) h2]
  exact ⟨h1, h2⟩
theorem Vd.few {d : DD} {x y1 y2 : List UInt8} {s : SS} {v : VS} {n : Nat} (h : Vd d x y1 y2 s v n) : ∀ j, (fD d j).steps.length ≤ 0
 | 0 => by rw [h.f0]; exact Nat.le_refl _
 | 1 => by rw [h.f1]; exact Nat.le_refl _
 | 2 => by rw [h.f2]; exact Nat.le_refl _
 | j + 3 => by
  have : fD d (j + 3) = FD.none := by
   unfold fD
   rw [List.getElem?_eq_none (by rw [h.m3]; omega)]; rfl
  rw [this]; exact Nat.le_refl _
def Live (d : DD) (s : SS) (v : VS) (n : Nat) : Prop := d.down = false ∧ ∃ x y1 y2, Vd d x y1 y2 s v n ∧ (scan x).2 = x.length
def Leaves (d : DD) (P : VS → Prop) (n : Nat) : Prop := ∀ us, ∃ x y1 y2 s v, Vd (crashD us d) x y1 y2 s v n ∧ P v
theorem Live.leaves {d : DD} {s : SS} {v : VS} {n : Nat} (h : Live d s v n) {P : VS → Prop} (hp : P v) : Leaves d P n := fun us => by
 obtain ⟨_, x, y1, y2, hv, _⟩ := h
 exact ⟨x, y1, y2, s, v, hv.crash us, hp⟩
theorem Live.few {d : DD} {s : SS} {v : VS} {n : Nat} (h : Live d s v n) : ∀ j, (fD d j).steps.length ≤ 0 := by
 obtain ⟨_, x, y1, y2, hv, _⟩ := h
 exact hv.few
theorem Live.more {d : DD} {s : SS} {v : VS} {n m : Nat} (h : Live d s v n) (hm : n ≤ m) : Live d s v m := by
 obtain ⟨a, x, y1, y2, hv, hs⟩ := h
 exact ⟨a, x, y1, y2, hv.more hm, hs⟩
theorem Leaves.imp {d : DD} {P Q : VS → Prop} {n : Nat} (h : Leaves d P n) (hq : ∀ v, P v → Q v) : Leaves d Q n := fun us => by
 obtain ⟨x, y1, y2, s, v, a, b⟩ := h us
 exact ⟨x, y1, y2, s, v, a, hq v b⟩
end Go.Proofs.YtnejjfglkindjaaGreatDoor.Vlt
namespace Go.Proofs.YtnejjfglkindjaaGreatDoor.Rk
open Go.RowKit Go.Mir Go.Mir.Parts Dk
theorem unitsAll_take_succ (l : List St) (k : Nat) (h : k < l.length) : unitsAll (l.take (k + 1)) = unitsAll (l.take k) + (l[k]).units := by
 rw [List.take_succ_eq_append_getElem h, unitsAll_snoc]
theorem unitsAll_take_le (l : List St) (k : Nat) : unitsAll (l.take k) ≤ unitsAll l := by
 induction l generalizing k with
 | nil => simp
 | cons s r ih =>
  cases k with
  | zero => exact Nat.zero_le _
  | succ k => rw [List.take_succ_cons, unitsAll, unitsAll]; have := ih k; omega
theorem someU_take : ∀ (l : List St) (b : List UInt8) (k v : Nat), someU b (l.take k) v = someU b l (min v (unitsAll (l.take k)))
 | [], b, k, v => by simp [someU]
 | s :: r, b, 0, v => by rw [List.take_zero, someU, unitsAll, Nat.min_zero, someU_zero]
 | s :: r, b, k + 1, v => by
  rw [List.take_succ_cons, someU, someU, unitsAll, someU_take r]
  congr 1
  ·congr 1; omega
  ·omega
def StR (w : World) (r : List Value) : St → Prop
 | .put b => ∃ q k, r = [.bool false, .int .i64 0, .slice q b.length k] ∧ Bs w q b.length k b
 | .cut m => r = [.bool true, .int .i64 (m : Int), .slice none 0 0]
theorem StR.below {w w' : World} {r : List Value} {s : St} (h : StR w r s) (hb : Below w.heap.size w w') : StR w' r s := by
 cases s with
 | put b => obtain ⟨q, k, h1, h2⟩ := h; exact ⟨q, k, h1, h2.below hb⟩
 | cut m => exact h
structure Ss (w : World) (p : Option Addr) (n c : Nat) (l : List St) : Prop where
 count : l.length = n
 out : ∃ rows, Rs w p n c 3 rows ∧ ∀ (i : Nat) r s, rows[i]? = some r → l[i]? = some s → StR w r s
theorem Ss.below {w w' : World} {p : Option Addr} {n c : Nat} {l : List St} (h : Ss w p n c l) (hb : Below w.heap.size w w') : Ss w' p n c l := by
 obtain ⟨rows, h1, h2⟩ := h.out
 exact ⟨h.count, rows, h1.below hb, fun i r s a b => (h2 i r s a b).below hb⟩
theorem Ss.nil (w : World) : Ss w none 0 0 [] := ⟨rfl, [], ⟨Sl.nil _ _, fun _ h => (nomatch h), rfl⟩, fun _i _r _s h => (nomatch h)⟩
theorem Ss.bd {w : World} {p : Option Addr} {n c : Nat} {l : List St} (h : Ss w p n c l) : n ≤ c ∧ c ≤ 9223372036854775807 := by
 obtain ⟨rows, h1, _⟩ := h.out
 exact ⟨h1.sl.le, h1.sl.max⟩
theorem Ss.addr {w : World} {p : Option Addr} {n c : Nat} {l : List St} (h : Ss w p n c l) (hn : 0 < n) : ∃ b o, p = some ⟨b, o, none⟩ := by
 obtain ⟨rows, h1, _⟩ := h.out
 exact h1.sl.addr hn (by omega)
theorem Ss.row {w : World} {b o n c : Nat} {l : List St} (h : Ss w (some ⟨b, o, none⟩) n c l) (k : Nat) (hk : k < l.length) : ∃ r, r.length = 3 ∧ w.rangeAt b (o + k * 3) r ∧ StR w r l[k] := by
 obtain ⟨rows, h1, h2⟩ := h.out
 have hkr : k < rows.length := by rw [h1.count, ← h.count]; exact hk
 exact ⟨rows[k], h1.each _ (List.getElem_mem hkr), h1.row k hkr, h2 k _ _ (List.getElem?_eq_getElem hkr) (List.getElem?_eq_getElem hk)⟩
theorem Ss.cellsPut {w : World} {b o n c : Nat} {l : List St} (h : Ss w (some ⟨b, o, none⟩) n c l) (k : Nat) (hk : k < l.length) {B : List UInt8} (hs : l[k] = .put B) :
  ∃ q d, w.cell? ⟨b, o + k * 3, none⟩ = some (.bool false) ∧ w.cell? ⟨b, o + k * 3 + 2, none⟩ = some (.slice q B.length d) ∧ Bs w q B.length d B := by
 obtain ⟨r, _, h2, h3⟩ := h.row k hk
 rw [hs] at h3
 obtain ⟨q, d, rfl, h4⟩ := h3
 exact ⟨q, d, h2 0 _ rfl, h2 2 _ rfl, h4⟩
theorem Ss.cellsCut {w : World} {b o n c : Nat} {l : List St} (h : Ss w (some ⟨b, o, none⟩) n c l) (k : Nat) (hk : k < l.length) {m : Nat} (hs : l[k] = .cut m) :
  w.cell? ⟨b, o + k * 3, none⟩ = some (.bool true) ∧ w.cell? ⟨b, o + k * 3 + 1, none⟩ = some (.int .i64 (m : Int)) := by
 obtain ⟨r, _, h2, h3⟩ := h.row k hk
 rw [hs] at h3
 obtain rfl := h3
 exact ⟨h2 0 _ rfl, h2 1 _ rfl⟩
structure RF where
 kp : Option Addr
 kc : Nat
 sp : Option Addr
 sc : Nat
def fL (t : RF) (f : FD) : List Value := [.slice t.kp f.kept.length t.kc, .slice t.sp f.steps.length t.sc]
def fA (t : RF) (f : FD) : Array Value := (fL t f).toArray
structure RFAt (w : World) (t : RF) (f : FD) : Prop where
 kept : Bs w t.kp f.kept.length t.kc f.kept
 steps : Ss w t.sp f.steps.length t.sc f.steps
 ok : f.Ok
 few : f.steps.length ≤ 4398046511104
theorem RFAt.below {w w' : World} {t : RF} {f : FD} (h : RFAt w t f) (hb : Below w.heap.size w w') : RFAt w' t f := ⟨h.kept.below hb, h.steps.below hb, h.ok, h.few⟩
theorem RFAt.un {w : World} {t : RF} {f : FD} (h : RFAt w t f) : unitsAll f.steps ≤ 288230376151711744 := by
 have h1 := h.ok.un
 have h2 := h.few
 omega
set_option maxRecDepth 100000 in
set_option maxHeartbeats 800000 in
theorem runits_any (t : RF) (f : FD) (w : World) (h : RFAt w t f) :
  Calls Tryz.prog 62 #[.agg (fA t f)] w fun e w' => e = .returned (.int .i64 (unitsAll f.steps : Int)) ∧ Below w.heap.size w w' := by
 have HB1 := Lib.hid (Below.allocs w (.cells (fA t f) 62))
 have hrow := heap_alloc_last w (.cells (fA t f) 62)
 have hc1 : (w.alloc (.cells (fA t f) 62)).cell? ⟨w.heap.size, 1, none⟩ = some (.slice t.sp f.steps.length t.sc) := by rw [cell_of_row _ _ _ _ _ _ hrow]; rfl
 have HS := Lib.hid (h.steps.below HB1.out)
 have HUN := Lib.hid h.un
 obtain ⟨hle, hmax⟩ := h.steps.bd
 clear h hrow
 go_enter Tryz.func62, Tryz.ntmps62
 go_upto_region 1 with fail
 generalize w.alloc (.cells (fA t f) 62) = w1 at *
 go_wp2_with fail
 go_loop [3, 4] (fun x j => ∃ k : Nat, k ≤ f.steps.length ∧ j = .int .i64 k ∧ x = .int .i64 (unitsAll (f.steps.take k) : Nat)) (fun _ j => f.steps.length - (intOf j).toNat)
 case atStart => exact ⟨0, by omega, rfl, rfl⟩
 case round =>
  obtain ⟨k, hk, rfl, rfl⟩ := hrel
  by_cases hlt : k < f.steps.length
  ·have hd : decide ((k : Int) < (f.steps.length : Int)) = true := decide_eq_true (by omega)
   have hd2 : decide (k < f.steps.length) = true := decide_eq_true hlt
   have hsu := unitsAll_take_succ f.steps k hlt
   have hul := unitsAll_take_le f.steps (k + 1)
   have hun := HUN.out
   obtain ⟨b, o, hb⟩ := HS.out.addr (by omega)
   rw [hb] at hc1 HS
   cases hs : f.steps[k] with
   | put B =>
    obtain ⟨q, d, e0, e2, hB⟩ := HS.out.cellsPut k hlt hs
    rw [hs] at hsu
    have hsu : unitsAll (f.steps.take (k + 1)) = unitsAll (f.steps.take k) + B.length := hsu
    have HSU := Lib.hid hsu
    have hwr : IntKind.i64.wrap ((unitsAll (f.steps.take k) : Int) + (B.length : Int)) = ((unitsAll (f.steps.take (k + 1)) : Nat) : Int) := by rw [IntWalk.i64_in _ (by omega)]; omega
    have HWR := Lib.hid hwr
    clear hB hs hsu hul hun
    go_wp2_with fail
    go_round
    case rel => exact ⟨k + 1, by omega, by go_num, by show Value.int _ ((_ : Int) + (B.length : Int)) = _; rw [HSU.out, Int.natCast_add]⟩
    case measure => simp [intOf]; omega
   | cut m =>
    obtain ⟨e0, e1⟩ := HS.out.cellsCut k hlt hs
    rw [hs] at hsu
    have hsu : unitsAll (f.steps.take (k + 1)) = unitsAll (f.steps.take k) + 1 := hsu
    have HSU := Lib.hid hsu
    have hwr : IntKind.i64.wrap ((unitsAll (f.steps.take k) : Int) + 1) = ((unitsAll (f.steps.take (k + 1)) : Nat) : Int) := by rw [IntWalk.i64_in _ (by omega)]; omega
    clear hs hsu hul hun
    go_wp2_with fail
    go_round
    case rel => exact ⟨k + 1, by omega, by go_num, by show Value.int _ ((_ : Int) + (1 : Int)) = _; rw [HSU.out, Int.natCast_add]; rfl⟩
    case measure => simp [intOf]; omega
  ·obtain rfl : k = f.steps.length := by omega
   have hd : decide ((f.steps.length : Int) < (f.steps.length : Int)) = false := decide_eq_false (by omega)
   rw [List.take_length]
   go_wp2_with fail
   go_ret
   exact ⟨rfl, HB1.out⟩
end Go.Proofs.YtnejjfglkindjaaGreatDoor.Rk
namespace Go.Proofs.YtnejjfglkindjaaGreatDoor.Rk
open Go.RowKit Go.Mir Go.Mir.Parts Dk
theorem info8b : (Tryz.prog.info? 5).map (fun i => (i.zero, i.size, i.bytes)) = some (some (.int .u8 0), 1, 1) := by kernel_rfl
theorem infoSt (cs : Array Value) (h : cs.size = 3) : (Tryz.prog.info? 112).map (·.size) = some cs.size := by rw [h]; kernel_rfl
theorem infoFi (cs : Array Value) (h : cs.size = 2) : (Tryz.prog.info? 62).map (·.size) = some cs.size := by rw [h]; kernel_rfl
theorem zeroSt (w : World) : (zeroValue 112).run Tryz.prog w = .ok (.agg #[.bool false, .int .i64 0, .slice none 0 0]) w := by kernel_rfl
theorem own_cut {w : World} {base e : Nat} {p : Option Addr} {n c : Nat} {xs : List Value} (h : w.ownsRow base e 1 (.slice p n c) n xs) (m : Nat) (hm : m ≤ n) : w.ownsRow base e 1 (.slice p m c) m (xs.take m) := by
 have h1 := h.1
 refine ⟨by rw [List.length_take, h1]; omega, ?_⟩
 rcases h.2 with ⟨e1, hn⟩ | ⟨g, cap, cur, e1, hb, hg, hn, hmx, hs, ht⟩
 ·obtain ⟨rfl, _, rfl⟩ := Value.slice.inj e1
  obtain rfl : m = 0 := by omega
  exact .inl ⟨rfl, rfl⟩
 ·obtain ⟨rfl, _, rfl⟩ := Value.slice.inj e1
  exact .inr ⟨g, c, cur, rfl, hb, hg, by omega, hmx, hs, by rw [← ht, List.take_take]; congr 1; omega⟩
theorem own_type {w : World} {b e size n : Nat} {v : Value} {xs : List Value} (h : w.ownsRow b e size v n xs) : ∀ k M t fr, v.ownBlock = some k → w.heap[k]? = some (.cells M t fr) → t = e := by
 intro k M t fr hk hm
 rcases h.2 with ⟨rfl, _⟩ | ⟨g, cap, cur, rfl, _, hg, _⟩
 ·simp [Value.ownBlock] at hk
 ·simp [Value.ownBlock] at hk
  subst hk
  rw [hg] at hm
  injection hm with e1
  injection e1 with _ e2
  exact e2.symm
theorem okAll_at : ∀ (l : List St) (b : List UInt8) (k : Nat) (hk : k < l.length), okAll b l → (l[k]).ok (runAll b (l.take k)).length
 | s :: r, b, 0, _, h => h.1
 | s :: r, b, k + 1, hk, h => by
  rw [List.take_succ_cons, runAll]
  exact okAll_at r _ k (by simpa using hk) h.2
def outU (f : FD) (U k : Nat) : List UInt8 := someU f.kept (f.steps.take k) U
def lefU (f : FD) (U k : Nat) : Nat := U - unitsAll (f.steps.take k)
theorem outU_succ (f : FD) (U k : Nat) (hk : k < f.steps.length) : outU f U (k + 1) = (f.steps[k]).act (outU f U k) (min (lefU f U k) (f.steps[k]).units) := by
 unfold outU lefU
 rw [List.take_succ_eq_append_getElem hk, someU_snoc]
theorem lefU_succ (f : FD) (U k : Nat) (hk : k < f.steps.length) : lefU f U (k + 1) = lefU f U k - (f.steps[k]).units := by
 unfold lefU
 rw [unitsAll_take_succ _ _ hk]; omega
theorem outU_le {f : FD} (h : f.Ok) (U k : Nat) : (outU f U k).length ≤ f.need := by
 unfold outU
 rw [someU_take]
 exact h.all _
theorem outU_end (f : FD) (U k : Nat) (hk : k = f.steps.length ∨ lefU f U k = 0) : outU f U k = someU f.kept f.steps U := by
 unfold outU
 rcases hk with rfl | hk
 ·rw [List.take_length]
 ·unfold lefU at hk
  rw [someU_take]
  congr 1; omega
theorem outU_full {f : FD} (h : f.Ok) (U k : Nat) (hk : k < f.steps.length) (hu : 0 < lefU f U k) : (f.steps[k]).ok (outU f U k).length := by
 unfold lefU at hu
 unfold outU
 rw [someU_all _ _ _ (by omega)]
 exact okAll_at _ _ k hk h.ok
def DonP (l : List UInt8) (w : World) (e : Ending) (w' : World) : Prop := ∃ p c, e = .returned (.slice p l.length c) ∧ w'.ownsRow w.heap.size 5 1 (.slice p l.length c) l.length (bytesV l) ∧ Below w.heap.size w w'
set_option maxRecDepth 100000 in
set_option maxHeartbeats 3200000 in
theorem rdone_any (t : RF) (f : FD) (U : Nat) (w : World) (h : RFAt w t f) (hnb : f.need ≤ 1000000) (hU : U ≤ 1152921504606846976) :
  Calls Tryz.prog 63 #[.agg (fA t f), .int .i64 (U : Int)] w (DonP (someU f.kept f.steps U) w) := by
 have HB1 := Lib.hid (Below.allocs w (.cells (fA t f) 62))
 have hrow := heap_alloc_last w (.cells (fA t f) 62)
 have HROW := Lib.hid hrow
 have hc0 : (w.alloc (.cells (fA t f) 62)).cell? ⟨w.heap.size, 0, none⟩ = some (.slice t.kp f.kept.length t.kc) := by rw [cell_of_row _ _ _ _ _ _ hrow]; rfl
 have HS := Lib.hid (h.steps.below HB1.out)
 have HK := Lib.hid (h.kept.below HB1.out)
 have HOK := Lib.hid h.ok
 have HNB := Lib.hid hnb
 have HUN := Lib.hid h.un
 have HKL : Hid (f.kept.length ≤ 1000000) := Nat.le_trans h.ok.lek hnb
 obtain ⟨hle, hmax⟩ := h.steps.bd
 have hkl := h.kept.le
 have hkm := h.kept.max
 have hz := zeroSt
 clear h hrow hnb
 go_enter Tryz.func63, Tryz.ntmps63
 go_upto_region 1 with fail
 generalize w.alloc (.cells (fA t f) 62) = w1 at *
 have HBX : Hid (Below w1.heap.size w1 (w1.alloc (.cells #[] 5))) := Below.allocs _ _
 have HO : Hid ((w1.alloc (.cells #[] 5)).ownsRow w1.heap.size 5 1 (.slice (some ⟨w1.heap.size, 0, none⟩) 0 0) 0 []) := ⟨rfl, .inr ⟨w1.heap.size, 0, _, rfl, Nat.le_refl _, heap_alloc_last _ _, Nat.le_refl _, by simp [maxLen], rfl, rfl⟩⟩
 have HSX := Lib.hid (HK.out.below HBX.out)
 have hc0a := cell_below hc0 HBX.out
 have hkl6 := HKL.out
 go_upto_region 2 with (at_builtin; refine wpList_append_nx rfl _ _ 22 rfl (base := w1.heap.size) Tryz.underlying22 info8b rfl (by omega) rfl HO.out rfl HSX.out (bytesV_one _) ⟨by omega, by omega⟩ HBX.out.size ?_)
 intro p9 c9 x9 ho9 hg9 _ _
 have hb9 := HBX.out.grown hg9 HBX.out.size (fun k hk => (HO.out.lt k hk).1)
 try rw [Nat.zero_add] at ho9
 try rw [List.nil_append] at ho9
 have HB9 := Lib.hid hb9
 have HO9 : Hid (x9.ownsRow w1.heap.size 5 1 (.slice p9 (outU f U 0).length c9) (outU f U 0).length (bytesV (outU f U 0))) := ho9
 clear ho9 hg9 hb9 HO HSX HBX hc0 hc0a hkl hkm hkl6
 go_wp2_with fail
 go_loopw [1, 5, 6] (fun x1 x5 x6 wr => ∃ (k : Nat) (p : Option Addr) (c : Nat), k ≤ f.steps.length ∧ x6 = .int .i64 k ∧ x1 = .int .i64 (lefU f U k : Nat) ∧ x5 = .slice p (outU f U k).length c ∧ wr.ownsRow w1.heap.size 5 1 (.slice p (outU f U k).length c) (outU f U k).length (bytesV (outU f U k)) ∧ Below w1.heap.size w1 wr) (fun _ _ x6 _ => f.steps.length - (intOf x6).toNat)
 case atStart => exact ⟨0, p9, c9, by omega, rfl, rfl, rfl, HO9.out, HB9.out⟩
 case round =>
  clear HO9 HB9
  obtain ⟨k, p, c, hk, rfl, rfl, rfl, hown, hbw⟩ := hrel
  have HOW := Lib.hid hown
  have HBW := Lib.hid hbw
  have hc1 : wr.cell? ⟨w.heap.size, 1, none⟩ = some (.slice t.sp f.steps.length t.sc) := by rw [cell_of_row _ _ _ _ _ _ (Below.keepOld hbw HROW.out)]; rfl
  have HLE : Hid ((outU f U k).length ≤ 1000000) := Nat.le_trans (outU_le HOK.out U k) HNB.out
  have HS9 := Lib.hid (HS.out.below hbw)
  clear hown hbw
  by_cases hend : k < f.steps.length ∧ 0 < lefU f U k
  ·obtain ⟨hlt, hpos⟩ := hend
   have hd : decide ((k : Int) < (f.steps.length : Int)) = true := decide_eq_true (by omega)
   have hd2 : decide (k < f.steps.length) = true := decide_eq_true hlt
   have hp1 : decide ((0 : Int) < (lefU f U k : Int)) = true := decide_eq_true (by omega)
   have hp2 : decide (0 < lefU f U k) = true := decide_eq_true hpos
   have hos := outU_succ f U k hlt
   have hls := lefU_succ f U k hlt
   have hokk := outU_full HOK.out U k hlt hpos
   have hlu : lefU f U k ≤ U := by unfold lefU; omega
   have heu := HOK.out.eu _ (List.getElem_mem hlt)
   obtain ⟨b, o, hb⟩ := HS9.out.addr (by omega)
   have hs1 := HS.out
   rw [hb] at hc1 hs1
   obtain ⟨r, _, hrg1, hst⟩ := hs1.row k hlt
   have hrg := range_below hrg1 HBW.out
   clear hs1 hrg1
   cases hs : f.steps[k] with
   | cut m =>
    rw [hs] at hst hos hls hokk
    obtain rfl := hst
    have hok : m ≤ (outU f U k).length := hokk
    have hos : outU f U (k + 1) = (outU f U k).take m := by
     rw [hos]
     show (if min (lefU f U k) 1 = 0 then _ else _) = _
     rw [if_neg (by omega)]
    have hls : lefU f U (k + 1) = lefU f U k - 1 := hls
    have HOS := Lib.hid hos
    have HLS := Lib.hid hls
    have HRG := Lib.hid hrg
    have HNW := Lib.hid (box_new wr #[.bool false, .int .i64 0, .slice none 0 0] 112)
    have hbr := box_row wr #[.bool false, .int .i64 0, .slice none 0 0] #[.bool true, .int .i64 (m : Int), .slice none 0 0] 112
    have hbb := box_below wr #[.bool false, .int .i64 0, .slice none 0 0] #[.bool true, .int .i64 (m : Int), .slice none 0 0] 112
    have HBB := Lib.hid hbb
    have hb0 := cell_of_row _ _ 0 _ _ _ hbr
    have hb1 := cell_of_row _ _ 1 _ _ _ hbr
    have HOW2 := Lib.hid (own_touch HOW.out (Turns.of_below (S := fun _ => False) hbb) (fun _ _ h => h))
    have HOC := Lib.hid (own_cut HOW2.out m hok)
    have hrun := Cut.cut0 (Cut.own_bs HOW2.out) m (m : Int) rfl hok
    have hwu : IntKind.i64.wrap ((lefU f U k : Int) - 1) = ((lefU f U (k + 1) : Nat) : Int) := by rw [IntWalk.i64_in _ (by omega)]; omega
    have HTL : Hid (((outU f U k).take m).length = m) := by show _ = _; rw [List.length_take]; omega
    clear hrg hbr hbb hs hos hls hokk heu
    go_upto_region 6 with (first
     | ((with_reducible refine wpAt 28 ?_); refine wpList_load_mid rfl 112 _ rfl b (o + k * 3) rfl [.bool true, .int .i64 (m : Int), .slice none 0 0] _ HRG.out Tryz.underlying112 rfl (infoSt #[.bool true, .int .i64 (m : Int), .slice none 0 0] rfl) ?_)
     | ((with_reducible refine wpStoreAt 7 ?_); refine wpList_store_row rfl 112 _ _ rfl wr.heap.size #[.bool true, .int .i64 (m : Int), .slice none 0 0] rfl rfl 112 #[.bool false, .int .i64 0, .slice none 0 0] HNW.out (infoSt _ rfl) rfl (by simp [Value.oneCell']) ?_))
    generalize (wr.alloc (.cells #[.bool false, .int .i64 0, .slice none 0 0] 112)).setRow wr.heap.size #[.bool true, .int .i64 (m : Int), .slice none 0 0] = w3 at *
    go_wp2_with fail
    go_roundw
    case rel => exact ⟨k + 1, p, c, by omega, by go_num, by rw [HLS.out]; go_num, by rw [HOS.out, HTL.out], by rw [HOS.out, HTL.out]; have := HOC.out; rwa [show (bytesV (outU f U k)).take m = bytesV ((outU f U k).take m) by simp [bytesV, List.map_take]] at this, HBW.out.trans (HBB.out.mono HBW.out.size)⟩
    case measure => simp [intOf]; omega
   | put B =>
    rw [hs] at hst hos hls heu
    obtain ⟨qb, db, rfl, hbs⟩ := hst
    have hos : outU f U (k + 1) = outU f U k ++ B.take (min (lefU f U k) B.length) := hos
    have hls : lefU f U (k + 1) = lefU f U k - B.length := hls
    have hBL : B.length ≤ 65536 := heu
    have HOS := Lib.hid hos
    have HLS := Lib.hid hls
    have HRG := Lib.hid hrg
    have HNW := Lib.hid (box_new wr #[.bool false, .int .i64 0, .slice none 0 0] 112)
    have hbr := box_row wr #[.bool false, .int .i64 0, .slice none 0 0] #[.bool false, .int .i64 0, .slice qb B.length db] 112
    have hbb := box_below wr #[.bool false, .int .i64 0, .slice none 0 0] #[.bool false, .int .i64 0, .slice qb B.length db] 112
    have HBB := Lib.hid hbb
    have HBR := Lib.hid hbr
    have hb0 := cell_of_row _ _ 0 _ _ _ hbr
    have HOW2 := Lib.hid (own_touch HOW.out (Turns.of_below (S := fun _ => False) hbb) (fun _ _ h => h))
    have HBQ : Hid (Bs w1 qb B.length db B) := hbs
    have HBW3 := Lib.hid (HBW.out.trans (hbb.mono HBW.out.size))
    have hble := hbs.le
    have hbmx := hbs.max
    clear hrg hbr hbb hs hos hls hokk heu hbs
    go_upto_region 6 with (first
     | ((with_reducible refine wpAt 28 ?_); refine wpList_load_mid rfl 112 _ rfl b (o + k * 3) rfl [.bool false, .int .i64 0, .slice qb B.length db] _ HRG.out Tryz.underlying112 rfl (infoSt #[.bool false, .int .i64 0, .slice qb B.length db] rfl) ?_)
     | ((with_reducible refine wpStoreAt 7 ?_); refine wpList_store_row rfl 112 _ _ rfl wr.heap.size #[.bool false, .int .i64 0, .slice qb B.length db] rfl rfl 112 #[.bool false, .int .i64 0, .slice none 0 0] HNW.out (infoSt _ rfl) rfl (by simp [Value.oneCell']) ?_))
    generalize (wr.alloc (.cells #[.bool false, .int .i64 0, .slice none 0 0] 112)).setRow wr.heap.size #[.bool false, .int .i64 0, .slice qb B.length db] = w3 at *
    have HLT3 : Hid (w1.heap.size ≤ wr.heap.size ∧ wr.heap.size < w3.heap.size) := ⟨HBW.out.size, (Array.getElem?_eq_some_iff.1 HBR.out).1⟩
    obtain ⟨LU, hLU⟩ : ∃ LU, lefU f U k = LU := ⟨_, rfl⟩
    obtain ⟨OU, hOU⟩ : ∃ OU, outU f U k = OU := ⟨_, rfl⟩
    rw [hLU] at HLS HOS hpos hlu hp1 hp2 ⊢
    rw [hOU] at HOS HOW2 HLE ⊢
    obtain ⟨g0, hg0⟩ : ∃ g0, wr.heap.size = g0 := ⟨_, rfl⟩
    rw [hg0] at HBR HLT3 hb0 ⊢
    clear hLU hOU hg0 HOW HNW HRG HBB HS9 HBW hp1 hp2 HROW
    go_wp2_with fail
    go_loopw [1, 5, 8] (fun x1 x5 x8 wq => ∃ (j : Nat) (p : Option Addr) (c : Nat), j ≤ B.length ∧ j ≤ LU ∧ x8 = .int .i64 j ∧ x1 = .int .i64 (LU - j : Nat) ∧ x5 = .slice p (OU.length + j) c ∧ wq.ownsRow w1.heap.size 5 1 (.slice p (OU.length + j) c) (OU.length + j) (bytesV (OU ++ B.take j)) ∧ Below w1.heap.size w1 wq ∧ wq.heap[g0]? = some (.cells #[.bool false, .int .i64 0, .slice qb B.length db] 112 (0, 0))) (fun _ _ x8 _ => B.length - (intOf x8).toNat)
    case atStart => exact ⟨0, p, c, by omega, by omega, rfl, rfl, rfl, by rw [List.take_zero, List.append_nil]; exact HOW2.out, HBW3.out, HBR.out⟩
    case round =>
     clear HOW2 HBW3 HBR hb0
     obtain ⟨j, pj, cj, hj1, hj2, rfl, rfl, rfl, hown, hbq, hrow⟩ := hrel
     have HOQ := Lib.hid hown
     have HBQW := Lib.hid hbq
     have HRQ := Lib.hid hrow
     have hb2 : wr.cell? ⟨g0, 2, none⟩ = some (.slice qb B.length db) := by rw [cell_of_row _ _ _ _ _ _ hrow]; rfl
     have HBC := Lib.hid (HBQ.out.below hbq)
     have hle6 := HLE.out
     clear hown hbq hrow
     by_cases hin : j < B.length ∧ j < LU
     ·obtain ⟨hi1, hi2⟩ := hin
      have hd : decide ((j : Int) < (B.length : Int)) = true := decide_eq_true (by omega)
      have hd2 : decide (j < B.length) = true := decide_eq_true hi1
      have hp1 : decide ((0 : Int) < ((LU - j : Nat) : Int)) = true := decide_eq_true (by omega)
      have hp2 : decide (0 < LU - j) = true := decide_eq_true (by omega)
      obtain ⟨bb, ob, rfl⟩ := HBC.out.addr (by omega) (by omega)
      have hc' := Bs.byte HBC.out (j := j) hi1
      have htk := take_snoc B j hi1
      have HTK := Lib.hid htk
      generalize B[j]'hi1 = y at *
      have hwu : IntKind.i64.wrap (((LU - j : Nat) : Int) - 1) = ((LU - (j + 1) : Nat) : Int) := by rw [IntWalk.i64_in _ (by omega)]; omega
      have HWU := Lib.hid hwu
      obtain ⟨u1, hu1⟩ : ∃ u1, LU - j = u1 := ⟨_, rfl⟩
      rw [hu1] at hp1 hp2 hwu ⊢
      clear hu1 htk
      go_upto_region 12 with fail
      have hal : Below wr.heap.size wr (wr.alloc (.cells #[.int .u8 (y.toNat : Int)] 5)) := Below.allocs _ _
      have HAL := Lib.hid hal
      have HO := Lib.hid (own_touch HOQ.out (Turns.of_below (S := fun _ => False) hal) (fun _ _ h => h))
      have HSX : Hid (Bs (wr.alloc (.cells #[.int .u8 (y.toNat : Int)] 5)) (some ⟨wr.heap.size, 0, none⟩) 1 1 [y]) := Bs.made _ _ _ _ _ _ rfl rfl (by omega)
      clear hal
      go_upto_region 13 with (at_builtin; refine wpList_append_nx rfl _ _ 22 rfl (base := w1.heap.size) Tryz.underlying22 info8b rfl (by omega) rfl HO.out rfl HSX.out (bytesV_one _) ⟨by omega, by omega⟩ (by have := HBQW.out.size; have := HAL.out.size; omega) ?_)
      intro p10 c10 x10 ho10 hg10 _ _
      have hbl := (HBQW.out.trans (HAL.out.mono HBQW.out.size)).grown hg10 (by have := HBQW.out.size; have := HAL.out.size; omega) (fun k hk => (HO.out.lt k hk).1)
      have hrow10 : x10.heap[g0]? = some (.cells #[.bool false, .int .i64 0, .slice (some ⟨bb, ob, none⟩) B.length db] 112 (0, 0)) := by
       have h1 := Below.keepOld HAL.out HRQ.out
       rw [hg10.block g0 (Array.getElem?_eq_some_iff.1 h1).1 (fun e => by
        have := own_type HO.out g0 _ _ _ e.symm h1
        exact absurd this (by decide))]
       exact h1
      have HB10 := Lib.hid hbl
      have HR10 := Lib.hid hrow10
      have HO10 : Hid (x10.ownsRow w1.heap.size 5 1 (.slice p10 (OU.length + (j + 1)) c10) (OU.length + (j + 1)) (bytesV (OU ++ B.take (j + 1)))) := by
       show World.ownsRow _ _ _ _ _ _ _
       rw [HTK.out, ← List.append_assoc, bytesV_append]
       exact ho10
      clear ho10 hg10 hbl hrow10 HO HSX HAL hb2
      go_wp2_with fail
      go_roundw
      case rel => exact ⟨j + 1, p10, c10, by omega, by omega, by go_num, rfl, rfl, HO10.out, HB10.out, HR10.out⟩
      case measure => simp [intOf]; omega
     ·have hmin : min LU B.length = j := by omega
      have hlf : LU - B.length = LU - j := by omega
      rw [hmin] at HOS
      rw [hlf] at HLS
      have HLN : Hid ((outU f U (k + 1)).length = OU.length + j) := by show _ = _; rw [HOS.out, List.length_append, List.length_take]; omega
      by_cases hi1 : j < B.length
      ·have hd : decide ((j : Int) < (B.length : Int)) = true := decide_eq_true (by omega)
       have hd2 : decide (j < B.length) = true := decide_eq_true hi1
       have hz0 : LU - j = 0 := by omega
       rw [hz0] at HLS ⊢
       clear hz0 hmin hlf hin
       go_wp2_with fail
       go_roundw
       case rel => exact ⟨k + 1, pj, cj, by omega, by go_num, by rw [HLS.out], by rw [HLN.out], by rw [HLN.out, HOS.out]; exact HOQ.out, HBQW.out⟩
       case measure => simp [intOf]; omega
      ·have hd : decide ((j : Int) < (B.length : Int)) = false := decide_eq_false (by omega)
       have hd2 : decide (j < B.length) = false := decide_eq_false hi1
       clear hmin hlf hin
       go_wp2_with fail
       go_roundw
       case rel => exact ⟨k + 1, pj, cj, by omega, by go_num, by rw [HLS.out], by rw [HLN.out], by rw [HLN.out, HOS.out]; exact HOQ.out, HBQW.out⟩
       case measure => simp [intOf]; omega
  ·have hres : outU f U k = someU f.kept f.steps U := outU_end f U k (by omega)
   rw [hres] at HOW ⊢
   have HBS := Lib.hid (own_base (base' := w.heap.size) HOW.out (fun k hk => by have := (HOW.out.lt k hk).1; have := HB1.out.size; omega))
   have HBF := Lib.hid (HB1.out.trans (HBW.out.mono HB1.out.size))
   by_cases hlt : k < f.steps.length
   ·have hz0 : lefU f U k = 0 := by omega
    have hd : decide ((k : Int) < (f.steps.length : Int)) = true := decide_eq_true (by omega)
    have hd2 : decide (k < f.steps.length) = true := decide_eq_true hlt
    rw [hz0]
    clear hz0 hres hend hlt
    go_wp2_with fail
    go_ret
    exact ⟨_, _, rfl, HBS.out, HBF.out⟩
   ·have hd : decide ((k : Int) < (f.steps.length : Int)) = false := decide_eq_false (by omega)
    have hd2 : decide (k < f.steps.length) = false := decide_eq_false hlt
    clear hres hend hlt
    go_wp2_with fail
    go_ret
    exact ⟨_, _, rfl, HBS.out, HBF.out⟩
end Go.Proofs.YtnejjfglkindjaaGreatDoor.Rk
namespace Go.Proofs.YtnejjfglkindjaaGreatDoor.Rk
open Go.RowKit Go.Mir Go.Mir.Parts Dk
def pmax (b : List UInt8) (l : List St) : Nat → Nat
 | 0 => b.length
 | k + 1 => max (pmax b l k) (runAll b (l.take k)).length
def Nd (f : FD) : Prop := f.need = pmax f.kept f.steps (f.steps.length + 1)
theorem nd_none : Nd FD.none := rfl
theorem nd_settle (f : FD) (u : Nat) : Nd (f.settle u) := by
 show (someU f.kept f.steps u).length = max (someU f.kept f.steps u).length (someU f.kept f.steps u).length
 rw [Nat.max_self]
theorem pmax_append (b : List UInt8) (l : List St) (s : St) : ∀ k, k ≤ l.length + 1 → pmax b (l ++ [s]) k = pmax b l k
 | 0, _ => rfl
 | k + 1, h => by
  rw [pmax, pmax, pmax_append b l s k (by omega), List.take_append_of_le_length (by omega)]
theorem nd_take {f : FD} {s : St} (h : Nd f) (ho : f.Ok) (hs : s.ok f.now.length) : Nd (f.take s) := by
 have e1 : (f.steps ++ [s]).length = f.steps.length + 1 := by simp
 have hr : runAll f.kept (f.steps ++ [s]) = s.act f.now s.units := by rw [runAll_snoc, ← ho.now]
 show max f.need (s.size f.now.length) = pmax f.kept (f.steps ++ [s]) ((f.steps ++ [s]).length + 1)
 rw [e1, pmax, pmax_append _ _ _ _ (by omega), ← h, List.take_of_length_le (by omega), hr, act_len hs]
theorem okAll_take : ∀ (l : List St) (b : List UInt8) (k : Nat), okAll b l → okAll b (l.take k)
 | [], b, k, h => by simp [okAll]
 | s :: r, b, 0, h => trivial
 | s :: r, b, k + 1, h => by
  rw [List.take_succ_cons]
  exact ⟨h.1, okAll_take r _ k h.2⟩
theorem unitsAll_bd : ∀ (l : List St), (∀ s ∈ l, s.units ≤ 65536) → unitsAll l ≤ 65536 * l.length
 | [], _ => Nat.le_refl _
 | s :: r, h => by
  rw [unitsAll, List.length_cons]
  have h1 := h s (by simp)
  have h2 := unitsAll_bd r (fun x hx => h x (by simp [hx]))
  omega
def pre (f : FD) (k : Nat) : FD := ⟨f.kept, runAll f.kept (f.steps.take k), f.steps.take k, f.need⟩
theorem pre_ok {f : FD} (h : f.Ok) (k : Nat) : (pre f k).Ok :=
 ⟨rfl, okAll_take _ _ _ h.ok, fun u => by show (someU f.kept (f.steps.take k) u).length ≤ f.need; rw [someU_take]; exact h.all _, unitsAll_bd _ (fun s hs => h.eu s (List.mem_of_mem_take hs)), fun s hs => h.eu s (List.mem_of_mem_take hs)⟩
theorem sl_take {w : World} {p : Option Addr} {n c size k : Nat} {rows : List (List Value)} (h : Rs w p n c size rows) (hk : k ≤ n) : Rs w p k c size (rows.take k) := by
 have he : ∀ r ∈ rows.take k, r.length = size := fun r hr => h.each r (List.mem_of_mem_take hr)
 have hc := h.count
 refine ⟨⟨?_, Nat.le_trans hk h.sl.le, h.sl.max, h.sl.nil0, fun a ha j u hu => ?_⟩, he, by rw [List.length_take]; omega⟩
 ·have := flatMap_length (fun x : List Value => x) size (rows.take k) he
  rw [List.flatMap_id', List.length_take] at this
  rw [this, Nat.min_eq_left (by omega)]
 ·refine h.sl.cell a ha j u ?_
  have : rows.flatten = (rows.take k).flatten ++ (rows.drop k).flatten := by rw [← List.flatten_append, List.take_append_drop]
  rw [this, List.getElem?_append_left (List.getElem?_eq_some_iff.1 hu).1]
  exact hu
theorem Ss.take {w : World} {p : Option Addr} {n c : Nat} {l : List St} (h : Ss w p n c l) (k : Nat) (hk : k ≤ n) : Ss w p k c (l.take k) := by
 obtain ⟨rows, h1, h2⟩ := h.out
 refine ⟨by rw [List.length_take, h.count]; omega, rows.take k, sl_take h1 hk, fun i r s a b => ?_⟩
 rw [List.getElem?_take] at a b
 split at a
 ·rename_i hi
  rw [if_pos hi] at b
  exact h2 i r s a b
 ·cases a
theorem cutS {w : World} {p : Option Addr} {L c : Nat} {l : List St} (h : Ss w p L c l) (m : Nat) (hk : m ≤ L) :
  (∀ w0, (Instr.sliceAt 60 (.slice p L c) none (some (.int .i64 (m : Int))) none).run Tryz.prog w0 = .ok (.slice p m c) w0) := by
 obtain ⟨hle, hmax⟩ := h.bd
 have hsz : (Tryz.prog.info? 112).map (·.size) = some 3 := by kernel_rfl
 obtain ⟨i, hi, hi1⟩ := Option.map_eq_some_iff.1 hsz
 intro w0
 have hb1 : (0 : Int) ≤ (m : Int) ∧ (m : Int) ≤ (c : Int) := by omega
 have hp : p.map (fun a => a.add 0) = p := by cases p <;> rfl
 simp [Instr.sliceAt, Instr.slice, run_underlying Tryz.underlying60, Instr.sliceBounds, Instr.sliceBound, asIntOf, sizeOf, typeInfo, hi, hb1, hp]
 try omega
set_option maxRecDepth 100000 in
set_option maxHeartbeats 1600000 in
theorem rholds_any (t : RF) (f : FD) (w : World) (h : RFAt w t f) (hnb : f.need ≤ 1000000) :
  Calls Tryz.prog 55 #[.agg (fA t f)] w (DonP f.now w) := by
 have HB1 := Lib.hid (Below.allocs w (.cells (fA t f) 62))
 have HROW : Hid ((w.alloc (.cells (fA t f) 62)).heap[w.heap.size]? = some (.cells (fA t f) 62 (0, 0))) := heap_alloc_last _ _
 have H1 := Lib.hid (h.below HB1.out)
 have HNB := Lib.hid hnb
 have HUN := Lib.hid h.un
 have hnow : someU f.kept f.steps (unitsAll f.steps) = f.now := by rw [someU_all _ _ _ (Nat.le_refl _), ← h.ok.now]
 have HNOW := Lib.hid hnow
 clear h hnb hnow
 go_enter Tryz.func55, Tryz.ntmps55
 go_upto_region 1 with fail
 generalize w.alloc (.cells (fA t f) 62) = w1 at *
 have HLA : Hid (∀ w', Below w1.heap.size w1 w' → w'.rangeAt w.heap.size 0 (fA t f).toList) := fun w' hb j v hv => by rw [cell_of_row _ _ _ _ _ _ (Below.keepOld hb HROW.out), ← Array.getElem?_toList, Nat.zero_add]; exact hv
 refine wp_region_eager [(0, true), (1, true), (2, false), (3, false), (4, true)] (by kernel_rfl) (by kernel_rfl) (eagerOpen rfl ?_)
 have hy0 : Below w1.heap.size w1 w1.drew := below_drew1 _ _
 repeat (first
  | ((with_reducible refine eagerLoadAt 1 ?_); refine wpEager_load (by rfl) 62 _ rfl w.heap.size 0 rfl (fA t f) _ (fun w' hb => HLA.out w' hb) Tryz.underlying62 rfl (infoFi _ rfl) ?_; (try simp only [Act.put, zA, zB, zC]); (try refine eagerOpen rfl ?_))
  | ((first | (apply wpEager_take; (· rfl); (· (intro w' hb'; go_simp; try with_reducible rfl))) | refine wpEager_skip (by rfl) ?_ | refine wpEager_off (by rfl) ?_); (try simp only [Act.put, zA, zB, zC]); (try refine eagerOpen rfl ?_)))
 (refine wpEager_op (by rfl) (fun K hK => ?_); go_simp; (refine (runits_any t f _ (H1.out.below hy0)).mono ?_; rintro e y1 ⟨rfl, hb⟩; have hy1 := hy0.trans hb; clear hb); refine Shut.out hK _ _ (by assumption) ?_; clear hK K; (try simp only [Act.put, zA, zB, zC]); (try refine eagerOpen rfl ?_))
 (refine wpEager_op (by rfl) (fun K hK => ?_); go_simp; (refine (rdone_any t f (unitsAll f.steps) _ (H1.out.below hy1) HNB.out (by have := HUN.out; omega)).mono ?_; rw [HNOW.out]; rintro e y2 ⟨p2, c2, rfl, hs2, hb⟩; have HS2 := Lib.hid (own_base (base' := w.heap.size) hs2 (fun k hk => by have := (hs2.lt k hk).1; have := hy1.size; have := HB1.out.size; omega)); have hy2 := hy1.trans (hb.mono hy1.size); clear hb hs2); refine Shut.out hK _ _ (by assumption) ?_; clear hK K; (try simp only [Act.put, zA, zB, zC]); (try refine eagerOpen rfl ?_))
 repeat (first
  | ((first | (apply wpEager_take; (· rfl); (· (intro w' hb'; go_simp; try with_reducible rfl))) | refine wpEager_skip (by rfl) ?_ | refine wpEager_off (by rfl) ?_); (try simp only [Act.put, zA, zB, zC]); (try refine eagerOpen rfl ?_)))
 refine eagerEnd ?_
 have HB2 := Lib.hid (HB1.out.trans (hy2.mono HB1.out.size))
 clear hy0 hy1 hy2
 go_wp2_with fail
 go_ret
 exact ⟨_, _, rfl, HS2.out, HB2.out⟩
set_option maxRecDepth 100000 in
set_option maxHeartbeats 3200000 in
theorem rneed_any (t : RF) (f : FD) (w : World) (h : RFAt w t f) (hnb : f.need ≤ 1000000) (hnd : Nd f) :
  Calls Tryz.prog 120 #[.agg (fA t f)] w fun e w' => e = .returned (.int .i64 (f.need : Int)) ∧ Below w.heap.size w w' := by
 have HB1 := Lib.hid (Below.allocs w (.cells (fA t f) 62))
 have HROW : Hid ((w.alloc (.cells (fA t f) 62)).heap[w.heap.size]? = some (.cells (fA t f) 62 (0, 0))) := heap_alloc_last _ _
 have hc0 : (w.alloc (.cells (fA t f) 62)).cell? ⟨w.heap.size, 0, none⟩ = some (.slice t.kp f.kept.length t.kc) := by rw [cell_of_row _ _ _ _ _ _ HROW.out]; rfl
 have H1 := Lib.hid (h.below HB1.out)
 have HNB := Lib.hid hnb
 have HND := Lib.hid hnd
 have HFEW := Lib.hid h.few
 obtain ⟨hle, hmax⟩ := h.steps.bd
 have hkl := h.kept.le
 have hkm := h.kept.max
 clear h hnb hnd
 go_enter Tryz.func120, Tryz.ntmps120
 go_upto_region 1 with fail
 generalize w.alloc (.cells (fA t f) 62) = w1 at *
 go_wp2_with fail
 clear hc0
 go_loopw [3, 4] (fun x j wr => ∃ k : Nat, k ≤ f.steps.length + 1 ∧ j = .int .i64 k ∧ x = .int .i64 (pmax f.kept f.steps k : Nat) ∧ Below w1.heap.size w1 wr) (fun _ j _ => f.steps.length + 1 - (intOf j).toNat)
 case atStart => exact ⟨0, by omega, rfl, rfl, Below.refl _ _⟩
 case round =>
  obtain ⟨k, hk, rfl, rfl, hbw⟩ := hrel
  have HBW := Lib.hid hbw
  have hfew := HFEW.out
  have hc1 : wr.cell? ⟨w.heap.size, 1, none⟩ = some (.slice t.sp f.steps.length t.sc) := by rw [cell_of_row _ _ _ _ _ _ (Below.keepOld hbw HROW.out)]; rfl
  clear hbw
  by_cases hlt : k ≤ f.steps.length
  ·have hd : decide ((k : Int) ≤ (f.steps.length : Int)) = true := decide_eq_true (by omega)
   have hd2 : decide (k ≤ f.steps.length) = true := decide_eq_true hlt
   go_upto_region 5 with fail
   have HC0 : Hid (∀ w', Below wr.heap.size wr w' → w'.cell? ⟨w.heap.size, 0, none⟩ = some (.slice t.kp f.kept.length t.kc)) := fun w' hb => by rw [cell_of_row _ _ _ _ _ _ (Below.keepOld hb (Below.keepOld HBW.out HROW.out))]; rfl
   have HC1 : Hid (∀ w', Below wr.heap.size wr w' → w'.cell? ⟨w.heap.size, 1, none⟩ = some (.slice t.sp f.steps.length t.sc)) := fun w' hb => by rw [cell_of_row _ _ _ _ _ _ (Below.keepOld hb (Below.keepOld HBW.out HROW.out))]; rfl
   have HP : Hid (∀ w', Below wr.heap.size wr w' → RFAt w' ⟨t.kp, t.kc, t.sp, t.sc⟩ (pre f k)) := fun w' hb => by
    have h2 := (H1.out.below HBW.out).below hb
    have hl : (f.steps.take k).length = k := by rw [List.length_take]; omega
    refine ⟨h2.kept, ?_, pre_ok h2.ok k, by show (f.steps.take k).length ≤ _; rw [hl]; omega⟩
    have := h2.steps.take k hlt
    show Ss w' t.sp (f.steps.take k).length t.sc (f.steps.take k)
    rw [hl]; exact this
   have hcut := cutS (H1.out.below HBW.out).steps k hlt
   have hln : (f.steps.take k).length = k := by rw [List.length_take]; omega
   have HFA : Hid (fA ⟨t.kp, t.kc, t.sp, t.sc⟩ (pre f k) = #[.slice t.kp f.kept.length t.kc, .slice t.sp k t.sc]) := by show _ = _; unfold fA fL pre; rw [hln]
   have hbu : Tryz.prog.built 62 [(0, .slice t.kp f.kept.length t.kc), (1, .slice t.sp k t.sc)] = some #[.slice t.kp f.kept.length t.kc, .slice t.sp k t.sc] := by kernel_rfl
   have HHO := Lib.hid (fun w' hb => rholds_any _ _ w' (HP.out w' hb) HNB.out)
   rw [HFA.out] at HHO
   have hpx : pmax f.kept f.steps (k + 1) = max (pmax f.kept f.steps k) (pre f k).now.length := rfl
   have HPX := Lib.hid hpx
   have hnl : (pre f k).now.length ≤ 1000000 := Nat.le_trans (pre_ok H1.out.ok k).le HNB.out
   clear hln hpx
   generalize (pre f k).now = NW at *
   generalize pmax f.kept f.steps k = PK at *
   refine wp_region_eager [(0, true), (1, true), (2, true), (3, true), (4, true), (5, true), (6, true), (7, false), (8, true), (9, true)] (by kernel_rfl) (by kernel_rfl) (eagerOpen rfl ?_)
   have hy0 : Below wr.heap.size wr wr.drew := below_drew1 _ _
   repeat (first
    | ((first | (apply wpEager_take; (· rfl); (· (intro w' hb'; go_simp; try with_reducible rfl))) | refine wpEager_skip (by rfl) ?_ | refine wpEager_off (by rfl) ?_); (try simp only [Act.put, zA, zB, zC]); (try refine eagerOpen rfl ?_))
    | (apply wpEager_take; (· rfl); (· (intro w' hb'; have hk' := (fun w' hb => HC0.out w' hb) w' hb'; go_split_ands; go_simp; try with_reducible rfl)); (try simp only [Act.put, zA, zB, zC]); (try refine eagerOpen rfl ?_))
    | (apply wpEager_take; (· rfl); (· (intro w' hb'; have hk' := (fun w' hb => HC1.out w' hb) w' hb'; go_split_ands; go_simp; try with_reducible rfl)); (try simp only [Act.put, zA, zB, zC]); (try refine eagerOpen rfl ?_))
    | ((with_reducible refine eagerAt 22 ?_); refine wpEager_build (by rfl) 62 _ rfl [(0, .slice t.kp f.kept.length t.kc), (1, .slice t.sp k t.sc)] rfl _ hbu ?_; (try simp only [Act.put, zA, zB, zC]); (try refine eagerOpen rfl ?_)))
   (refine wpEager_op (by rfl) (fun K hK => ?_); go_simp; (refine (HHO.out _ hy0).mono ?_; rintro e y1 ⟨p1, c1, rfl, _, hb⟩; have hy1 := hy0.trans hb; clear hb); refine Shut.out hK _ _ (by assumption) ?_; clear hK K; (try simp only [Act.put, zA, zB, zC]); (try refine eagerOpen rfl ?_))
   repeat (first
    | ((first | (apply wpEager_take; (· rfl); (· (intro w' hb'; go_simp; try with_reducible rfl))) | refine wpEager_skip (by rfl) ?_ | refine wpEager_off (by rfl) ?_); (try simp only [Act.put, zA, zB, zC]); (try refine eagerOpen rfl ?_)))
   refine eagerEnd ?_
   have HB2 := Lib.hid (HBW.out.trans (hy1.mono HBW.out.size))
   clear hy0 hy1 hcut hbu HC0 HC1 HP HHO HFA hc1
   by_cases hg : PK < NW.length
   ·have hg1 : decide ((PK : Int) < (NW.length : Int)) = true := decide_eq_true (by omega)
    have hg2 : decide (PK < NW.length) = true := decide_eq_true hg
    have HMX : Hid (pmax f.kept f.steps (k + 1) = NW.length) := by show _ = _; rw [HPX.out]; omega
    clear hg
    go_wp2_with fail
    go_roundw
    case rel => exact ⟨k + 1, by omega, by go_num, by rw [HMX.out], HB2.out⟩
    case measure => simp [intOf]; omega
   ·have hg1 : decide ((PK : Int) < (NW.length : Int)) = false := decide_eq_false (by omega)
    have hg2 : decide (PK < NW.length) = false := decide_eq_false hg
    have HMX : Hid (pmax f.kept f.steps (k + 1) = PK) := by show _ = _; rw [HPX.out]; omega
    clear hg
    go_wp2_with fail
    go_roundw
    case rel => exact ⟨k + 1, by omega, by go_num, by rw [HMX.out], HB2.out⟩
    case measure => simp [intOf]; omega
  ·obtain rfl : k = f.steps.length + 1 := by omega
   have hd : decide (((f.steps.length + 1 : Nat) : Int) ≤ (f.steps.length : Int)) = false := decide_eq_false (by omega)
   have hd2 : decide (f.steps.length + 1 ≤ f.steps.length) = false := decide_eq_false hlt
   have hnd : f.need = pmax f.kept f.steps (f.steps.length + 1) := HND.out
   rw [← hnd]
   have HB2 := Lib.hid (HB1.out.trans (HBW.out.mono HB1.out.size))
   clear hnd HND
   obtain ⟨N1, hN1⟩ : ∃ N1, f.steps.length + 1 = N1 := ⟨_, rfl⟩
   rw [hN1] at hd hd2 ⊢
   clear hN1
   go_wp2_with fail
   go_ret
   exact ⟨rfl, HB2.out⟩
end Go.Proofs.YtnejjfglkindjaaGreatDoor.Rk
namespace Go.Proofs.YtnejjfglkindjaaGreatDoor.Rk
open Go.RowKit Go.Mir Go.Mir.Parts Dk
def rdL (ts : List RF) (d : DD) : List Value := (List.zipWith fL ts d.fs).flatten ++ [.int .i64 (d.room : Int), .int .i64 (d.fuse : Int), .bool d.down]
def rdA (ts : List RF) (d : DD) : Array Value := (rdL ts d).toArray
structure RDAt (w : World) (ts : List RF) (d : DD) : Prop where
 n3 : ts.length = 3
 m3 : d.fs.length = 3
 each : ∀ (i : Nat) t f, ts[i]? = some t → d.fs[i]? = some f → RFAt w t f ∧ Nd f
 room1 : 1 ≤ d.room ∧ d.room ≤ 65536
 fuse1 : d.fuse ≤ 9223372036854775807
 used : usedL d.fs ≤ 1000000
theorem RDAt.below {w w' : World} {ts : List RF} {d : DD} (h : RDAt w ts d) (hb : Below w.heap.size w w') : RDAt w' ts d :=
 ⟨h.n3, h.m3, fun i t f a b => ⟨(h.each i t f a b).1.below hb, (h.each i t f a b).2⟩, h.room1, h.fuse1, h.used⟩
theorem RDAt.file {w : World} {ts : List RF} {d : DD} (h : RDAt w ts d) (i : Nat) (hi : i < 3) : ∃ t f, ts[i]? = some t ∧ d.fs[i]? = some f ∧ RFAt w t f ∧ Nd f ∧ f.need ≤ 1000000 := by
 have h1 : i < ts.length := by rw [h.n3]; exact hi
 have h2 : i < d.fs.length := by rw [h.m3]; exact hi
 obtain ⟨a, b⟩ := h.each i _ _ (List.getElem?_eq_getElem h1) (List.getElem?_eq_getElem h2)
 have := usedL_mem h2
 have := h.used
 exact ⟨_, _, List.getElem?_eq_getElem h1, List.getElem?_eq_getElem h2, a, b, by omega⟩
theorem rdA_form {ts : List RF} {d : DD} (h1 : ts.length = 3) (h2 : d.fs.length = 3) : ∃ a b c x y z, ts = [a, b, c] ∧ d.fs = [x, y, z] := by
 obtain ⟨a, b, c, e1⟩ := list3 h1
 obtain ⟨x, y, z, e2⟩ := list3 h2
 exact ⟨a, b, c, x, y, z, e1, e2⟩
theorem rdA_size {ts : List RF} {d : DD} (h1 : ts.length = 3) (h2 : d.fs.length = 3) : (rdA ts d).size = 9 := by
 obtain ⟨a, b, c, x, y, z, rfl, e⟩ := rdA_form h1 h2
 unfold rdA rdL
 rw [e]; rfl
theorem rdA_one {ts : List RF} {d : DD} (h1 : ts.length = 3) (h2 : d.fs.length = 3) : (rdA ts d).all (·.oneCell') = true := by
 obtain ⟨a, b, c, x, y, z, rfl, e⟩ := rdA_form h1 h2
 unfold rdA rdL
 rw [e]
 simp [fL, Value.oneCell']
theorem infoRD (cs : Array Value) (h : cs.size = 9) : (Tryz.prog.info? 65).map (·.size) = some cs.size := by rw [h]; kernel_rfl
theorem rdA_file {ts : List RF} {d : DD} (h1 : ts.length = 3) (h2 : d.fs.length = 3) (i : Nat) {t : RF} {f : FD} (ht : ts[i]? = some t) (hf : d.fs[i]? = some f) : (rdA ts d)[i * 2]? = some (.slice t.kp f.kept.length t.kc) ∧ (rdA ts d)[i * 2 + 1]? = some (.slice t.sp f.steps.length t.sc) := by
 obtain ⟨a, b, c, x, y, z, rfl, e⟩ := rdA_form h1 h2
 unfold rdA rdL
 rw [e] at hf ⊢
 match i, ht, hf with
 | 0, ht, hf => cases ht; cases hf; exact ⟨rfl, rfl⟩
 | 1, ht, hf => cases ht; cases hf; exact ⟨rfl, rfl⟩
 | 2, ht, hf => cases ht; cases hf; exact ⟨rfl, rfl⟩
 | i + 3, ht, hf => cases ht
theorem rdA_tail {ts : List RF} {d : DD} (h1 : ts.length = 3) (h2 : d.fs.length = 3) : (rdA ts d)[6]? = some (.int .i64 (d.room : Int)) ∧ (rdA ts d)[7]? = some (.int .i64 (d.fuse : Int)) ∧ (rdA ts d)[8]? = some (.bool d.down) := by
 obtain ⟨a, b, c, x, y, z, rfl, e⟩ := rdA_form h1 h2
 unfold rdA rdL
 rw [e]
 exact ⟨rfl, rfl, rfl⟩
theorem rd_cells {w : World} {g : Nat} {ts : List RF} {d : DD} {t : TypeId} (h1 : ts.length = 3) (h2 : d.fs.length = 3) (hr : w.heap[g]? = some (.cells (rdA ts d) t (0, 0))) :
  w.cell? ⟨g, 6, none⟩ = some (.int .i64 (d.room : Int)) ∧ w.cell? ⟨g, 7, none⟩ = some (.int .i64 (d.fuse : Int)) ∧ w.cell? ⟨g, 8, none⟩ = some (.bool d.down) ∧ ∀ i, w.frozen? ⟨g, i, none⟩ = false := by
 obtain ⟨a, b, c⟩ := rdA_tail h1 h2
 exact ⟨by rw [cell_of_row _ _ _ _ _ _ hr]; exact a, by rw [cell_of_row _ _ _ _ _ _ hr]; exact b, by rw [cell_of_row _ _ _ _ _ _ hr]; exact c, fun i => frozen_of_row _ _ i _ _ hr⟩
theorem rd_range {w : World} {g : Nat} {ts : List RF} {d : DD} {ty : TypeId} (h1 : ts.length = 3) (h2 : d.fs.length = 3) (hr : w.heap[g]? = some (.cells (rdA ts d) ty (0, 0))) (i : Nat) {t : RF} {f : FD} (ht : ts[i]? = some t) (hf : d.fs[i]? = some f) : w.rangeAt g (i * 2) (fA t f).toList := by
 obtain ⟨a, b⟩ := rdA_file h1 h2 i ht hf
 intro j v hv
 rw [cell_of_row _ _ _ _ _ _ hr]
 have hv : (fL t f)[j]? = some v := hv
 match j, hv with
 | 0, hv => cases hv; exact a
 | 1, hv => cases hv; exact b
 | j + 2, hv => simp [fL] at hv
set_option maxRecDepth 100000 in
set_option maxHeartbeats 1600000 in
theorem rused_any (ts : List RF) (d : DD) (w : World) (h : RDAt w ts d) :
  Calls Tryz.prog 97 #[.agg (rdA ts d)] w fun e w' => e = .returned (.int .i64 (usedL d.fs : Int)) ∧ Below w.heap.size w w' := by
 have HB1 := Lib.hid (Below.allocs w (.cells (rdA ts d) 65))
 have HROW : Hid ((w.alloc (.cells (rdA ts d) 65)).heap[w.heap.size]? = some (.cells (rdA ts d) 65 (0, 0))) := heap_alloc_last _ _
 have H1 := Lib.hid (h.below HB1.out)
 clear h
 go_enter Tryz.func97, Tryz.ntmps97
 go_upto_region 1 with fail
 generalize w.alloc (.cells (rdA ts d) 65) = w1 at *
 go_wp2_with fail
 go_loopw [3, 4] (fun x j wr => ∃ k : Nat, k ≤ 3 ∧ j = .int .i64 k ∧ x = .int .i64 (usedL (d.fs.take k) : Nat) ∧ Below w1.heap.size w1 wr) (fun _ j _ => 3 - (intOf j).toNat)
 case atStart => exact ⟨0, by omega, rfl, rfl, Below.refl _ _⟩
 case round =>
  obtain ⟨k, hk, rfl, rfl, hbw⟩ := hrel
  have HBW := Lib.hid hbw
  clear hbw
  by_cases hlt : k < 3
  ·have hd : decide ((k : Int) < (3 : Int)) = true := decide_eq_true (by omega)
   have hd2 : decide (k < 3) = true := decide_eq_true hlt
   obtain ⟨t, f, ht, hf, h2, h3, h4⟩ := H1.out.file k hlt
   have hlf : k < d.fs.length := by rw [H1.out.m3]; exact hlt
   have hus := usedL_take_succ hlf
   have hfe : d.fs[k] = f := by rw [List.getElem?_eq_getElem hlf] at hf; exact Option.some.inj hf
   rw [hfe] at hus
   have hle := usedL_take_le (l := d.fs) (k + 1)
   have hub := H1.out.used
   have HUS := Lib.hid hus
   have HRG := Lib.hid (rd_range H1.out.n3 H1.out.m3 (Below.keepOld HBW.out HROW.out) k ht hf)
   have HND := Lib.hid (rneed_any t f wr (h2.below HBW.out) h4 h3)
   have hwr : IntKind.i64.wrap ((usedL (d.fs.take k) : Int) + (f.need : Int)) = ((usedL (d.fs.take (k + 1)) : Nat) : Int) := by rw [IntWalk.i64_in _ (by omega)]; omega
   clear ht hf h2 h3 h4 hus hle hub hfe
   go_wp2_with ((with_reducible refine wpAt 13 ?_); refine wpList_load_mid rfl 62 _ rfl w.heap.size (k * 2) rfl (fA t f).toList _ HRG.out Tryz.underlying62 rfl (infoFi (fA t f) rfl) ?_)
   try rw [Array.toArray_toList]
   refine HND.out.mono ?_
   rintro e w2 ⟨rfl, hb2⟩
   have HB2 := Lib.hid (HBW.out.trans (hb2.mono HBW.out.size))
   clear hb2 HND
   go_wp2_with fail
   go_roundw
   case rel => exact ⟨k + 1, by omega, by go_num, by first | rw [HUS.out, Int.natCast_add] | rfl, HB2.out⟩
   case measure => simp [intOf]; omega
  ·obtain rfl : k = 3 := by omega
   have hd : decide ((3 : Int) < (3 : Int)) = false := by decide
   rw [List.take_of_length_le (by rw [H1.out.m3]; omega)]
   have HB2 := Lib.hid (HB1.out.trans (HBW.out.mono HB1.out.size))
   go_wp2_with fail
   go_ret
   exact ⟨rfl, HB2.out⟩
def RdR (ts : List RF) (d : DD) (w : World) (e : Ending) (w' : World) : Prop := e = .returned (.agg (rdA ts d)) ∧ Below w.heap.size w w'
theorem ranswer_any (ts : List RF) (d : DD) (w : World) (h1 : ts.length = 3) (h2 : d.fs.length = 3) :
  Calls Tryz.prog 99 #[.agg (rdA ts d)] w fun e w' => e = .returned (.int .i64 (if d.down = true then 18 else 0)) ∧ Below w.heap.size w w' := by
 have HB1 := Lib.hid (Below.allocs w (.cells (rdA ts d) 65))
 obtain ⟨_, _, hc, _⟩ := rd_cells h1 h2 (heap_alloc_last w (.cells (rdA ts d) 65))
 cases hd : d.down with
 | true =>
  rw [hd] at hc
  go_enter Tryz.func99, Tryz.ntmps99
  go_wp2_with fail
  go_ret
  exact ⟨rfl, HB1.out⟩
 | false =>
  rw [hd] at hc
  go_enter Tryz.func99, Tryz.ntmps99
  go_wp2_with fail
  go_ret
  exact ⟨rfl, HB1.out⟩
end Go.Proofs.YtnejjfglkindjaaGreatDoor.Rk
namespace Go.Proofs.YtnejjfglkindjaaGreatDoor.Rk
open Go.RowKit Go.Mir Go.Mir.Parts Dk
theorem results_cell_tmp2 {P : Program} {fn : Func} {p q : Tmp} {ty : TypeId} (h : fn.results = #[.cell p ty, .tmp q]) (tmps : Array Value) (w : World) (g : Nat) (t : TypeId) (cs : Array Value) (fr : Nat × Nat) (d : TypeDesc)
  (hp : tmps.getD p undef = .pointer (some ⟨g, 0, none⟩)) (hg : w.heap[g]? = some (.cells cs t fr))
  (hu : P.underlying ty = some d) (hd : (match d with | .struct _ | .array _ _ => true | _ => false) = true) (hi : (P.info? ty).map (·.size) = some cs.size) :
  (results fn tmps).run P w = .ok (.tuple #[.agg cs, tmps.getD q undef]) w := by
 have hp' : tmps[p]?.getD undef = .pointer (some ⟨g, 0, none⟩) := by simpa using hp
 simp [results, h, hp', asAddr, run_loadVar_row w g t ty cs fr d hg hu hd hi]
structure RW (w0 : World) (g : Nat) (ts : List RF) (d : DD) (x : World) : Prop where
 row : x.heap[g]? = some (.cells (rdA ts d) 65 (0, 0))
 n3 : ts.length = 3
 m3 : d.fs.length = 3
 turn : Turns (fun k => k = g) w0 x
theorem RW.cells {w0 x : World} {g : Nat} {ts : List RF} {d : DD} (h : RW w0 g ts d x) : x.cell? ⟨g, 6, none⟩ = some (.int .i64 (d.room : Int)) ∧ x.cell? ⟨g, 7, none⟩ = some (.int .i64 (d.fuse : Int)) ∧ x.cell? ⟨g, 8, none⟩ = some (.bool d.down) ∧ ∀ i, x.frozen? ⟨g, i, none⟩ = false := rd_cells h.n3 h.m3 h.row
theorem rset7 {ts : List RF} {d : DD} (h1 : ts.length = 3) (h2 : d.fs.length = 3) (n : Nat) : (rdA ts d).setIfInBounds 7 (.int .i64 (n : Int)) = rdA ts ⟨d.fs, d.room, n, d.down⟩ := by
 obtain ⟨a, b, c, x, y, z, rfl, e⟩ := rdA_form h1 h2
 unfold rdA rdL
 rw [e]; rfl
theorem rset8 {ts : List RF} {d : DD} (h1 : ts.length = 3) (h2 : d.fs.length = 3) (b : Bool) : (rdA ts d).setIfInBounds 8 (.bool b) = rdA ts ⟨d.fs, d.room, d.fuse, b⟩ := by
 obtain ⟨a, b, c, x, y, z, rfl, e⟩ := rdA_form h1 h2
 unfold rdA rdL
 rw [e]; rfl
theorem RW.fuse {w0 x : World} {g : Nat} {ts : List RF} {d : DD} (h : RW w0 g ts d x) (n : Nat) : RW w0 g ts ⟨d.fs, d.room, n, d.down⟩ (x.setCell ⟨g, 7, none⟩ (.int .i64 (n : Int))) :=
 ⟨by rw [heap_setCell_same _ _ _ _ _ _ h.row, rset7 h.n3 h.m3], h.n3, h.m3, h.turn.setCell (p := ⟨g, 7, none⟩) (fun _ => rfl) _⟩
theorem RW.down {w0 x : World} {g : Nat} {ts : List RF} {d : DD} (h : RW w0 g ts d x) (b : Bool) : RW w0 g ts ⟨d.fs, d.room, d.fuse, b⟩ (x.setCell ⟨g, 8, none⟩ (.bool b)) :=
 ⟨by rw [heap_setCell_same _ _ _ _ _ _ h.row, rset8 h.n3 h.m3], h.n3, h.m3, h.turn.setCell (p := ⟨g, 8, none⟩) (fun _ => rfl) _⟩
theorem RW.below {w0 x y : World} {g : Nat} {ts : List RF} {d : DD} (h : RW w0 g ts d x) (hb : Below x.heap.size x y) : RW w0 g ts d y :=
 ⟨Below.keepOld hb h.row, h.n3, h.m3, h.turn.trans (Turns.of_below hb) (fun _ _ h => h)⟩
def zD : Array Value := #[.slice none 0 0, .slice none 0 0, .slice none 0 0, .slice none 0 0, .slice none 0 0, .slice none 0 0, .int .i64 0, .int .i64 0, .bool false]
theorem zeroD (w : World) : (zeroValue 65).run Tryz.prog w = .ok (.agg zD) w := by kernel_rfl
theorem boxes (w : World) (ts : List RF) (d : DD) : ((w.alloc (.cells (rdA ts d) 65)).alloc (.cells zD 65)).heap[w.heap.size]? = some (.cells (rdA ts d) 65 (0, 0)) ∧
  ((w.alloc (.cells (rdA ts d) 65)).alloc (.cells zD 65)).heap[w.heap.size + 1]? = some (.cells zD 65 (0, 0)) ∧
  ((w.alloc (.cells (rdA ts d) 65)).alloc (.cells zD 65)).heap.size = w.heap.size + 2 ∧ Below w.heap.size w ((w.alloc (.cells (rdA ts d) 65)).alloc (.cells zD 65)) :=
 two_allocs w (.cells (rdA ts d) 65) (.cells zD 65)
set_option maxRecDepth 100000 in
set_option maxHeartbeats 1600000 in
theorem rburn_any (ts : List RF) (d : DD) (w : World) (h1 : ts.length = 3) (h2 : d.fs.length = 3) (hf : d.fuse ≤ 9223372036854775807) :
  Calls Tryz.prog 98 #[.agg (rdA ts d)] w (RdR ts d.burn w) := by
 have hz := zeroD
 obtain ⟨q1, q2, q3, q4⟩ := boxes w ts d
 have HQ0 : Hid (RW ((w.alloc (.cells (rdA ts d) 65)).alloc (.cells zD 65)) w.heap.size ts d ((w.alloc (.cells (rdA ts d) 65)).alloc (.cells zD 65))) := ⟨q1, h1, h2, Turns.refl _ _⟩
 have HZ1 := Lib.hid q2
 have HB2 := Lib.hid q4
 obtain ⟨_, hc7, hc8, hfz⟩ := HQ0.out.cells
 clear q1 q2 q3 q4
 by_cases h0 : 0 < d.fuse
 ·have e1 : decide ((0 : Int) < (d.fuse : Int)) = true := decide_eq_true (by omega)
  have e2 : decide (0 < d.fuse) = true := decide_eq_true h0
  have hw : IntKind.i64.wrap ((d.fuse : Int) - 1) = ((d.fuse - 1 : Nat) : Int) := by rw [IntWalk.i64_in _ (by omega)]; omega
  have HBU : Hid (d.burn = ⟨d.fs, d.room, d.fuse - 1, decide (d.fuse = 1)⟩) := by show _ = _; unfold DD.burn; rw [if_pos h0]
  have hz0 : (((d.fuse - 1 : Nat) : Int) == 0) = decide (d.fuse = 1) := by
   rw [Bool.eq_iff_iff, beq_iff_eq, decide_eq_true_eq]; omega
  have hz1 : (d.fuse - 1 == 0) = decide (d.fuse = 1) := by
   rw [Bool.eq_iff_iff, beq_iff_eq, decide_eq_true_eq]; omega
  clear h0
  go_enter Tryz.func98, Tryz.ntmps98
  go_upto_region 1 with fail
  generalize (w.alloc (.cells (rdA ts d) 65)).alloc (.cells zD 65) = w2 at *
  obtain ⟨FU, hFU⟩ : ∃ FU, d.fuse - 1 = FU := ⟨_, rfl⟩
  rw [hFU] at hw hz0 hz1 HBU
  clear hFU
  go_upto_region 3 with fail
  have HQ := Lib.hid (HQ0.out.fuse FU)
  generalize w2.setCell ⟨w.heap.size, 7, none⟩ (.int .i64 (FU : Int)) = w3 at *
  clear hc7 hc8 hfz HQ0
  obtain ⟨_, hc7, hc8, hfz⟩ := HQ.out.cells
  go_upto_region 4 with fail
  have hq := HQ.out.down (decide (d.fuse = 1))
  have hdd : (⟨d.fs, d.room, FU, decide (d.fuse = 1)⟩ : DD) = d.burn := HBU.out.symm
  have hq : RW w2 w.heap.size ts d.burn (w3.setCell ⟨w.heap.size, 8, none⟩ (.bool (decide (d.fuse = 1)))) := by rw [← hdd]; exact hq
  clear HQ hdd hc7 hc8 hfz
  have HQ := Lib.hid hq
  clear hq HBU
  generalize w3.setCell ⟨w.heap.size, 8, none⟩ (.bool (decide (d.fuse = 1))) = w4 at *
  generalize d.burn = DB at *
  have HZX := Lib.hid (HQ.out.turn.keep HZ1.out (by omega))
  go_wp2_with (first
   | refine wpList_load_row rfl 65 _ rfl w.heap.size rfl 65 (rdA ts DB) (0, 0) _ HQ.out.row Tryz.underlying65 rfl (infoRD _ (rdA_size HQ.out.n3 HQ.out.m3)) ?_
   | refine wpList_store_row rfl 65 _ _ rfl (w.heap.size + 1) (rdA ts DB) rfl rfl 65 zD HZX.out (infoRD _ (rdA_size HQ.out.n3 HQ.out.m3)) (by rw [rdA_size HQ.out.n3 HQ.out.m3]; rfl) (rdA_one HQ.out.n3 HQ.out.m3) ?_)
  have HS := Lib.hid (setRow_heap _ _ _ (rdA ts DB) _ _ HZX.out)
  have HLOW := Lib.hid (HB2.out.trans (HQ.out.turn.below HB2.out.size (fun i hi => by omega)))
  refine bodyPost_ret (results_cell_row rfl _ _ _ _ _ _ _ rfl HS.out Tryz.underlying65 rfl (infoRD _ (rdA_size HQ.out.n3 HQ.out.m3))) rfl ?_
  exact ⟨rfl, below_setRow HLOW.out (by omega) _⟩
 ·have e1 : decide ((0 : Int) < (d.fuse : Int)) = false := decide_eq_false (by omega)
  have e2 : decide (0 < d.fuse) = false := decide_eq_false h0
  have hdd : d.burn = d := by unfold DD.burn; rw [if_neg h0]
  rw [hdd]
  clear h0 hdd
  go_enter Tryz.func98, Tryz.ntmps98
  go_upto_region 1 with fail
  generalize (w.alloc (.cells (rdA ts d) 65)).alloc (.cells zD 65) = w2 at *
  go_upto_region 4 with fail
  have HQ := HQ0
  clear hc7 hc8 hfz
  skip
  have HZX := Lib.hid (HQ.out.turn.keep HZ1.out (by omega))
  go_wp2_with (first
   | refine wpList_load_row rfl 65 _ rfl w.heap.size rfl 65 (rdA ts d) (0, 0) _ HQ.out.row Tryz.underlying65 rfl (infoRD _ (rdA_size HQ.out.n3 HQ.out.m3)) ?_
   | refine wpList_store_row rfl 65 _ _ rfl (w.heap.size + 1) (rdA ts d) rfl rfl 65 zD HZX.out (infoRD _ (rdA_size HQ.out.n3 HQ.out.m3)) (by rw [rdA_size HQ.out.n3 HQ.out.m3]; rfl) (rdA_one HQ.out.n3 HQ.out.m3) ?_)
  have HS := Lib.hid (setRow_heap _ _ _ (rdA ts d) _ _ HZX.out)
  have HLOW := Lib.hid (HB2.out.trans (HQ.out.turn.below HB2.out.size (fun i hi => by omega)))
  refine bodyPost_ret (results_cell_row rfl _ _ _ _ _ _ _ rfl HS.out Tryz.underlying65 rfl (infoRD _ (rdA_size HQ.out.n3 HQ.out.m3))) rfl ?_
  exact ⟨rfl, below_setRow HLOW.out (by omega) _⟩
end Go.Proofs.YtnejjfglkindjaaGreatDoor.Rk
namespace Go.Proofs.YtnejjfglkindjaaGreatDoor.Rk
open Go.RowKit Go.Mir Go.Mir.Parts Dk
def TyR (_ : Nat) (w : World) (k : Nat) : Prop := ∃ M t fr, w.heap[k]? = some (.cells M t fr) ∧ t ≠ 5 ∧ t ≠ 112
def KR (base : Nat) (w w' : World) : Prop := Turns (TyR base w) w w'
theorem KR.refl (base : Nat) (w : World) : KR base w w := Turns.refl _ _
theorem KR.trans {base : Nat} {a b c : World} (h : KR base a b) (k : KR base b c) : KR base a c :=
 ⟨k.os.trans h.os, k.tape.trans h.tape, k.output.trans h.output, Nat.le_trans h.size k.size, fun i hi hS => by
  have e1 := h.block i hi hS
  have hS2 : ¬ TyR base b i := fun h' => hS (by
   obtain ⟨M, t, fr, h2, h3⟩ := h'
   exact ⟨M, t, fr, by rw [← e1]; exact h2, h3⟩)
  rw [k.block i (Nat.lt_of_lt_of_le hi h.size) hS2]; exact e1⟩
theorem KR.of_below {base : Nat} {a b : World} (h : Below a.heap.size a b) : KR base a b := Turns.of_below h
theorem KR.next {base : Nat} {a b c : World} (h : KR base a b) (k : Below b.heap.size b c) : KR base a c := h.trans (.of_below k)
theorem KR.of_turn {base g : Nat} {a b : World} {M : Array Value} {fr : Nat × Nat} (h : Turns (fun k => k = g) a b) (hr : a.heap[g]? = some (.cells M 65 fr)) : KR base a b :=
 h.imp (fun k _ hk => by subst hk; exact ⟨_, _, _, hr, by decide, by decide⟩)
theorem KR.own {base : Nat} {a b : World} (h : KR base a b) {c e size n : Nat} {v : Value} {xs : List Value} (ho : a.ownsRow c e size v n xs) (h1 : ¬ (e ≠ 5 ∧ e ≠ 112)) : b.ownsRow c e size v n xs :=
 own_touch ho h (fun k hk ⟨M, t, fr, hm, ht⟩ => h1 (by rw [← own_type ho k M _ fr hk hm]; exact ht))
structure RFR (w : World) (t : RF) (f : FD) (rows : List (List Value)) : Prop where
 kept : Bs w t.kp f.kept.length t.kc f.kept
 rs : Rs w t.sp f.steps.length t.sc 3 rows
 st : ∀ (i : Nat) (r : List Value) (s : St), rows[i]? = some r → f.steps[i]? = some s → StR w r s
 ok : f.Ok
 few : f.steps.length ≤ 4398046511104
theorem RFR.at {w : World} {t : RF} {f : FD} {rows : List (List Value)} (h : RFR w t f rows) : RFAt w t f := ⟨h.kept, ⟨rfl, rows, h.rs, h.st⟩, h.ok, h.few⟩
def Rb (base : Nat) (x : World) (t : RF) (f : FD) : Prop := ∃ rows, ∀ y, KR base x y → RFR y t f rows
theorem Rb.step {base : Nat} {x y : World} {t : RF} {f : FD} (h : Rb base x t f) (k : KR base x y) : Rb base y t f := let ⟨r, h⟩ := h; ⟨r, fun z hz => h z (k.trans hz)⟩
theorem Rb.now {base : Nat} {x : World} {t : RF} {f : FD} (h : Rb base x t f) : RFAt x t f := let ⟨_, h⟩ := h; (h x (KR.refl _ _)).at
theorem Rb.fresh {base : Nat} {x : World} {p : Option Addr} {c b2 : Nat} {l : List UInt8} {f : FD} (h : x.ownsRow b2 5 1 (.slice p l.length c) l.length (bytesV l)) (hf : f = ⟨l, l, [], l.length⟩) : Rb base x ⟨p, c, none, 0⟩ f := ⟨[], fun y hy => by
 subst hf
 exact ⟨Cut.own_bs (hy.own h (fun h => h.1 rfl)), ⟨Sl.nil _ _, fun _ h => (nomatch h), rfl⟩, fun i r s h => (nomatch h), ⟨rfl, trivial, fun u => Nat.le_refl _, Nat.le_refl _, fun s hs => (nomatch hs)⟩, Nat.zero_le _⟩⟩
structure RDB (w : World) (ts : List RF) (d : DD) : Prop where
 n3 : ts.length = 3
 m3 : d.fs.length = 3
 each : ∀ (i : Nat) t f, ts[i]? = some t → d.fs[i]? = some f → Rb 0 w t f ∧ Nd f
 room1 : 1 ≤ d.room ∧ d.room ≤ 65536
 fuse1 : d.fuse ≤ 9223372036854775807
 used : usedL d.fs ≤ 1000000
theorem RDB.at {w : World} {ts : List RF} {d : DD} (h : RDB w ts d) : RDAt w ts d := ⟨h.n3, h.m3, fun i t f a b => ⟨(h.each i t f a b).1.now, (h.each i t f a b).2⟩, h.room1, h.fuse1, h.used⟩
theorem RDB.step {w w' : World} {ts : List RF} {d : DD} (h : RDB w ts d) (k : KR 0 w w') : RDB w' ts d := ⟨h.n3, h.m3, fun i t f a b => ⟨(h.each i t f a b).1.step k, (h.each i t f a b).2⟩, h.room1, h.fuse1, h.used⟩
theorem RDB.below {w w' : World} {ts : List RF} {d : DD} (h : RDB w ts d) (k : Below w.heap.size w w') : RDB w' ts d := h.step (.of_below k)
structure RQ (base g : Nat) (ts : List RF) (d : DD) (x : World) : Prop where
 row : x.heap[g]? = some (.cells (rdA ts d) 65 (0, 0))
 low : base ≤ g
 n3 : ts.length = 3
 m3 : d.fs.length = 3
 each : ∀ (i : Nat) t f, ts[i]? = some t → d.fs[i]? = some f → Rb base x t f ∧ Nd f
 room1 : 1 ≤ d.room ∧ d.room ≤ 65536
 fuse1 : d.fuse ≤ 9223372036854775807
 used : usedL d.fs ≤ 1000000
theorem RQ.cells {base g : Nat} {ts : List RF} {d : DD} {x : World} (h : RQ base g ts d x) : x.cell? ⟨g, 6, none⟩ = some (.int .i64 (d.room : Int)) ∧ x.cell? ⟨g, 7, none⟩ = some (.int .i64 (d.fuse : Int)) ∧ x.cell? ⟨g, 8, none⟩ = some (.bool d.down) ∧ ∀ i, x.frozen? ⟨g, i, none⟩ = false := rd_cells h.n3 h.m3 h.row
theorem RQ.at {base g : Nat} {ts : List RF} {d : DD} {x : World} (h : RQ base g ts d x) : RDAt x ts d := ⟨h.n3, h.m3, fun i t f a b => ⟨(h.each i t f a b).1.now, (h.each i t f a b).2⟩, h.room1, h.fuse1, h.used⟩
theorem RQ.of {w x : World} {base g : Nat} {ts : List RF} {d : DD} (h : RDB w ts d) (hb : Below w.heap.size w x) (hg : base ≤ g) (hr : x.heap[g]? = some (.cells (rdA ts d) 65 (0, 0))) : RQ base g ts d x :=
 ⟨hr, hg, h.n3, h.m3, fun i t f a b => ⟨(h.each i t f a b).1.step (.of_below hb), (h.each i t f a b).2⟩, h.room1, h.fuse1, h.used⟩
theorem RQ.next {base g : Nat} {ts : List RF} {d : DD} {x y : World} (h : RQ base g ts d x) (hb : Below x.heap.size x y) : RQ base g ts d y :=
 ⟨Below.keepOld hb h.row, h.low, h.n3, h.m3, fun i t f a b => ⟨(h.each i t f a b).1.step (.of_below hb), (h.each i t f a b).2⟩, h.room1, h.fuse1, h.used⟩
theorem RQ.fuse {base g : Nat} {ts : List RF} {d : DD} {x : World} (h : RQ base g ts d x) (n : Nat) (hn : n ≤ 9223372036854775807) : RQ base g ts ⟨d.fs, d.room, n, d.down⟩ (x.setCell ⟨g, 7, none⟩ (.int .i64 (n : Int))) ∧ KR base x (x.setCell ⟨g, 7, none⟩ (.int .i64 (n : Int))) := by
 have hk : KR base x (x.setCell ⟨g, 7, none⟩ (.int .i64 (n : Int))) := KR.of_turn ((Turns.refl (fun k => k = g) x).setCell (p := ⟨g, 7, none⟩) (fun _ => rfl) _) h.row
 exact ⟨⟨by rw [heap_setCell_same _ _ _ _ _ _ h.row, rset7 h.n3 h.m3], h.low, h.n3, h.m3, fun i t f a b => ⟨(h.each i t f a b).1.step hk, (h.each i t f a b).2⟩, h.room1, hn, h.used⟩, hk⟩
theorem RQ.down {base g : Nat} {ts : List RF} {d : DD} {x : World} (h : RQ base g ts d x) (b : Bool) : RQ base g ts ⟨d.fs, d.room, d.fuse, b⟩ (x.setCell ⟨g, 8, none⟩ (.bool b)) ∧ KR base x (x.setCell ⟨g, 8, none⟩ (.bool b)) := by
 have hk : KR base x (x.setCell ⟨g, 8, none⟩ (.bool b)) := KR.of_turn ((Turns.refl (fun k => k = g) x).setCell (p := ⟨g, 8, none⟩) (fun _ => rfl) _) h.row
 exact ⟨⟨by rw [heap_setCell_same _ _ _ _ _ _ h.row, rset8 h.n3 h.m3], h.low, h.n3, h.m3, fun i t f a c => ⟨(h.each i t f a c).1.step hk, (h.each i t f a c).2⟩, h.room1, h.fuse1, h.used⟩, hk⟩
theorem rsetF {ts : List RF} {d : DD} (h1 : ts.length = 3) (h2 : d.fs.length = 3) (i : Nat) (hi : i < 3) (t : RF) (f : FD) {A' : Array Value} (h3 : ∀ j, A'[j]? = if i * 2 ≤ j ∧ j < i * 2 + (fA t f).toList.length then (fA t f).toList[j - i * 2]? else (rdA ts d)[j]?) : A' = rdA (ts.set i t) (setF d i f) := by
 obtain ⟨a, b, c, x, y, z, rfl, e⟩ := rdA_form h1 h2
 apply Array.ext_getElem?
 intro j
 rw [h3 j]
 unfold rdA rdL setF
 rw [e]
 have hl : (fA t f).toList.length = 2 := rfl
 rw [hl]
 match i, hi with
 | 0, _ =>
  match j with
  | 0 => rfl
  | 1 => rfl
  | j + 2 => rw [if_neg (by omega)]; rfl
 | 1, _ =>
  match j with
  | 0 => rfl
  | 1 => rfl
  | 2 => rfl
  | 3 => rfl
  | j + 4 => rw [if_neg (by omega)]; rfl
 | 2, _ =>
  match j with
  | 0 => rfl
  | 1 => rfl
  | 2 => rfl
  | 3 => rfl
  | 4 => rfl
  | 5 => rfl
  | j + 6 => rw [if_neg (by omega)]; rfl
theorem turns_setCells {S : Nat → Prop} {w0 : World} {b : Nat} (hS : S b) : ∀ (vs : List Value) (o : Nat) (w : World), Turns S w0 w → Turns S w0 (w.setCells b o vs)
 | [], _, _, h => h
 | v :: r, o, _, h => turns_setCells hS r (o + 1) _ (h.setCell (p := ⟨b, o, none⟩) (fun _ => hS) v)
theorem RQ.file {base g : Nat} {ts : List RF} {d : DD} {x : World} (h : RQ base g ts d x) (i : Nat) (hi : i < 3) (t : RF) (f : FD) (ht : Rb base x t f) (hn : Nd f) (hu : usedL (setF d i f).fs ≤ 1000000) :
  RQ base g (ts.set i t) (setF d i f) (x.setCells g (i * 2) (fA t f).toList) ∧ KR base x (x.setCells g (i * 2) (fA t f).toList) := by
 have hk : KR base x (x.setCells g (i * 2) (fA t f).toList) := KR.of_turn (turns_setCells (S := fun k => k = g) rfl _ _ _ (Turns.refl _ x)) h.row
 obtain ⟨A', h1, h2, h3⟩ := setCells_row g _ (fA t f).toList (i * 2) x _ h.row (by rw [rdA_size h.n3 h.m3]; show i * 2 + 2 ≤ 9; omega)
 rw [rsetF h.n3 h.m3 i hi t f h3] at h1
 refine ⟨⟨h1, h.low, by rw [List.length_set]; exact h.n3, by show (d.fs.set i f).length = 3; rw [List.length_set]; exact h.m3, fun j t' f' a b => ?_, h.room1, h.fuse1, hu⟩, hk⟩
 have b : (d.fs.set i f)[j]? = some f' := b
 rw [List.getElem?_set] at a b
 by_cases hij : i = j
 ·rw [if_pos hij] at a b
  rw [if_pos (by rw [h.n3]; omega)] at a
  rw [if_pos (by rw [h.m3]; omega)] at b
  cases a; cases b
  exact ⟨ht.step hk, hn⟩
 ·rw [if_neg hij] at a b
  exact ⟨(h.each j t' f' a b).1.step hk, (h.each j t' f' a b).2⟩
theorem RQ.there {base g : Nat} {ts : List RF} {d : DD} {x : World} (h : RQ base g ts d x) (i : Nat) (hi : i < 3) : x.there g (i * 2) 2 := fun j hj => by
 refine ⟨?_, frozen_of_row _ _ _ _ _ h.row⟩
 rw [cell_of_row _ _ _ _ _ _ h.row, Array.getElem?_eq_getElem (by rw [rdA_size h.n3 h.m3]; omega)]
 rfl
end Go.Proofs.YtnejjfglkindjaaGreatDoor.Rk
namespace Go.Proofs.YtnejjfglkindjaaGreatDoor.Rk
open Go.RowKit Go.Mir Go.Mir.Parts Dk
theorem burn_fs (d : DD) : d.burn.fs = d.fs ∧ d.burn.room = d.room := by
 unfold DD.burn
 split <;> exact ⟨rfl, rfl⟩
theorem burn_fuse (d : DD) : d.burn.fuse ≤ d.fuse := by
 unfold DD.burn
 split
 ·show d.fuse - 1 ≤ d.fuse; omega
 ·exact Nat.le_refl _
theorem RQ.burn {base g : Nat} {ts : List RF} {d : DD} {x : World} (h : RQ base g ts d x) : RQ base g ts d.burn (x.setRow g (rdA ts d.burn)) ∧ KR base x (x.setRow g (rdA ts d.burn)) := by
 have hk : KR base x (x.setRow g (rdA ts d.burn)) := KR.of_turn (turns_setRow _ _ _) h.row
 refine ⟨⟨setRow_heap _ _ _ _ _ _ h.row, h.low, h.n3, by rw [(burn_fs d).1]; exact h.m3, fun i t f a b => ?_, by rw [(burn_fs d).2]; exact h.room1, Nat.le_trans (burn_fuse d) h.fuse1, by rw [(burn_fs d).1]; exact h.used⟩, hk⟩
 rw [(burn_fs d).1] at b
 exact ⟨(h.each i t f a b).1.step hk, (h.each i t f a b).2⟩
def ROut (d' : DD) (ev : Int) (w : World) (e : Ending) (w' : World) : Prop := ∃ ts, e = .returned (.tuple #[.agg (rdA ts d'), .int .i64 ev]) ∧ RDB w' ts d' ∧ Below w.heap.size w w'
theorem RQ.done {base g gz : Nat} {ts : List RF} {d : DD} {x : World} {M : Array Value} (h : RQ base g ts d x) (hz : x.heap[gz]? = some (.cells M 65 (0, 0))) (_ : base ≤ gz) : RDB (x.setRow gz (rdA ts d)) ts d :=
 ⟨h.n3, h.m3, fun i t f a b => ⟨(h.each i t f a b).1.step (KR.of_turn (turns_setRow _ _ _) hz), (h.each i t f a b).2⟩, h.room1, h.fuse1, h.used⟩
theorem ranswer2 (ts : List RF) (d : DD) (x : Int) (hx : (if d.down = true then (18 : Int) else 0) = x) (w : World) (h1 : ts.length = 3) (h2 : d.fs.length = 3) :
  Calls Tryz.prog 99 #[.agg (rdA ts d)] w fun e w' => e = .returned (.int .i64 x) ∧ Below w.heap.size w w' := by
 subst hx
 exact ranswer_any ts d w h1 h2
set_option maxRecDepth 100000 in
set_option maxHeartbeats 3200000 in
theorem rsync_in (ts : List RF) (d : DD) (i : Nat) (hi : i < 3) (f : FD) (hf : d.fs[i]? = some f) (w : World) (h : RDB w ts d) :
  Calls Tryz.prog 104 #[.agg (rdA ts d), .int .i64 (i : Int)] w (ROut (syncD d i f) (syncE d) w) := by
 have d1 : decide ((i : Int) < 0) = false := decide_eq_false (by omega)
 have d2 : decide ((2 : Int) < (i : Int)) = false := decide_eq_false (by omega)
 have d3 : decide (2 < i) = false := decide_eq_false (by omega)
 cases hdn : d.down with
 | true =>
  obtain ⟨s1, s2⟩ := sync_down i f hdn
  rw [s1, s2]
  clear s1 s2
  have hz := zeroD
  obtain ⟨q1, q2, q3, q4⟩ := boxes w ts d
  have HQ : Hid (RQ w.heap.size w.heap.size ts d ((w.alloc (.cells (rdA ts d) 65)).alloc (.cells zD 65))) := RQ.of h q4 (Nat.le_refl _) q1
  have HZX := Lib.hid q2
  have HLOW := Lib.hid q4
  have HSZ := Lib.hid q3
  obtain ⟨_, hc7, hc8, hfz⟩ := HQ.out.cells
  clear q1 q2 q3 q4 h hc7
  rw [hdn] at hc8
  clear hdn
  go_enter Tryz.func104, Tryz.ntmps104
  go_upto_region 1 with fail
  generalize (w.alloc (.cells (rdA ts d) 65)).alloc (.cells zD 65) = w2 at *
  go_upto_region 4 with fail
  clear hc8 hfz
  skip
  go_wp2_with (first
   | refine wpList_load_row rfl 65 _ rfl w.heap.size rfl 65 (rdA ts d) (0, 0) _ HQ.out.row Tryz.underlying65 rfl (infoRD _ (rdA_size HQ.out.n3 HQ.out.m3)) ?_
   | refine wpList_store_row rfl 65 _ _ rfl (w.heap.size + 1) (rdA ts d) rfl rfl 65 zD HZX.out (infoRD _ (rdA_size HQ.out.n3 HQ.out.m3)) (by rw [rdA_size HQ.out.n3 HQ.out.m3]; rfl) (rdA_one HQ.out.n3 HQ.out.m3) ?_)
  have HS := Lib.hid (setRow_heap _ _ _ (rdA ts d) _ _ HZX.out)
  refine bodyPost_ret (results_cell_tmp2 rfl _ _ _ _ _ _ _ rfl HS.out Tryz.underlying65 rfl (infoRD _ (rdA_size HQ.out.n3 HQ.out.m3))) rfl ?_
  exact ⟨ts, rfl, HQ.out.done HZX.out (by omega), below_setRow HLOW.out (by omega) _⟩
 | false =>
  obtain ⟨DB, hDB⟩ : ∃ DB, d.burn = DB := ⟨_, rfl⟩
  cases hbd : DB.down with
  | true =>
   obtain ⟨s1, s2⟩ := sync_burnt i f hdn (by rw [hDB]; exact hbd)
   rw [s1, s2, hDB]
   clear s1 s2
   have hz := zeroD
   obtain ⟨q1, q2, q3, q4⟩ := boxes w ts d
   have HQ : Hid (RQ w.heap.size w.heap.size ts d ((w.alloc (.cells (rdA ts d) 65)).alloc (.cells zD 65))) := RQ.of h q4 (Nat.le_refl _) q1
   have HZX := Lib.hid q2
   have HLOW := Lib.hid q4
   have HSZ := Lib.hid q3
   obtain ⟨_, hc7, hc8, hfz⟩ := HQ.out.cells
   clear q1 q2 q3 q4 h hc7
   rw [hdn] at hc8
   clear hdn
   go_enter Tryz.func104, Tryz.ntmps104
   go_upto_region 1 with fail
   generalize (w.alloc (.cells (rdA ts d) 65)).alloc (.cells zD 65) = w2 at *
   have HBU := Lib.hid (rburn_any ts d w2 HQ.out.n3 HQ.out.m3 HQ.out.fuse1)
   go_wp2_with (refine wpList_load_row rfl 65 _ rfl w.heap.size rfl 65 (rdA ts d) (0, 0) _ HQ.out.row Tryz.underlying65 rfl (infoRD _ (rdA_size HQ.out.n3 HQ.out.m3)) ?_)
   refine HBU.out.mono ?_
   rintro e w3 ⟨rfl, hb3⟩
   have hq3 := HQ.out.next hb3
   obtain ⟨hq4, hk4⟩ := hq3.burn
   rw [hDB] at hq4 hk4 ⊢
   have HQ3 := Lib.hid hq3
   have HD3 : Hid (DB.fs.length = 3) := hq4.m3
   have HZ4 := Lib.hid (Below.keepOld hb3 HZX.out)
   have HL3 := Lib.hid (HLOW.out.trans (hb3.mono HLOW.out.size))
   have HQ4 := Lib.hid hq4
   have hz4 : (w3.setRow w.heap.size (rdA ts DB)).heap[w.heap.size + 1]? = some (.cells zD 65 (0, 0)) := by rw [setRow_other _ _ _ _ (by omega)]; exact HZ4.out
   have HZ5 := Lib.hid hz4
   have HL5 : Hid (Below w.heap.size w (w3.setRow w.heap.size (rdA ts DB))) := below_setRow HL3.out (Nat.le_refl _) _
   clear HQ HZX HLOW hc8 hfz HBU hb3 hq3 hq4 hk4 hz4
   go_upto_region 6 with (refine wpList_store_row rfl 65 _ _ rfl w.heap.size (rdA ts DB) rfl rfl 65 (rdA ts d) HQ3.out.row (infoRD _ (rdA_size HQ3.out.n3 HD3.out)) (by rw [rdA_size HQ3.out.n3 HD3.out, rdA_size HQ3.out.n3 HQ3.out.m3]) (rdA_one HQ3.out.n3 HD3.out) ?_)
   try simp only [Act.put]
   clear HQ3 HZ4 HL3
   generalize w3.setRow w.heap.size (rdA ts DB) = w4 at *
   obtain ⟨_, _, hc8, hfz⟩ := HQ4.out.cells
   rw [hbd] at hc8
   have HQ := HQ4
   have HZX := HZ5
   have HLOW := HL5
   clear HQ4 HZ5 HL5
   go_upto_region 8 with fail
   clear hc8 hfz
   have HAN : Hid ((if DB.down = true then (18 : Int) else 0) = 18) := by show _ = _; rw [if_pos hbd]
   clear hbd hDB
   skip
   have HLA : Hid (∀ w', Below w4.heap.size w4 w' → w'.rangeAt w.heap.size 0 (rdA ts DB).toList) := fun w' hb j v hv => by rw [cell_of_row _ _ _ _ _ _ (Below.keepOld hb HQ.out.row), ← Array.getElem?_toList, Nat.zero_add]; exact hv
   go_upto_region 8 with fail
   refine wp_region_eager_t (Below w4.heap.size w4) [0, 1] [(0, true), (1, true), (2, false)] [3, 4] (by kernel_rfl) (by kernel_rfl) ?_ (eagerTOpen rfl ?_)
   ·exact below_drew1 _ _
   have hy0 : Below w4.heap.size w4 w4.drew := below_drew1 _ _
   repeat (first
    | ((with_reducible refine eagerTLoadAt 2 ?_); refine wpEagerT_load (by rfl) 65 _ rfl w.heap.size 0 rfl (rdA ts DB) _ (fun w' hb => HLA.out w' hb) Tryz.underlying65 rfl (infoRD _ (rdA_size HQ.out.n3 HQ.out.m3)) ?_; (try simp only [Act.put, zA, zB, zC]); (try refine eagerTOpen rfl ?_))
    | ((first | (apply wpEagerT_take; (· rfl); (· (intro w' hb'; go_simp; try with_reducible rfl))) | refine wpEagerT_skip (by rfl) ?_); (try simp only [Act.put, zA, zB, zC]); (try refine eagerTOpen rfl ?_)))
   (refine wpEagerT_op (by rfl) (fun K hK => ?_); go_simp; (refine (ranswer2 ts DB 18 HAN.out _ HQ.out.n3 HQ.out.m3).mono ?_; rintro e y1 ⟨rfl, hb⟩; have hy1 := hy0.trans hb; clear hb); refine Shut.out hK _ _ (by assumption) ?_; clear hK K; (try simp only [Act.put, zA, zB, zC]); (try refine eagerTOpen rfl ?_))
   refine eagerTEnd (tail2 rfl rfl ?_)
   have hq1 := HQ.out.next hy1
   have hz1 := Below.keepOld hy1 HZX.out
   have hl1 := HLOW.out.trans (hy1.mono HLOW.out.size)
   clear HQ HZX HLOW HLA hy0 hy1
   have HQ := Lib.hid hq1
   have HZX := Lib.hid hz1
   have HLOW := Lib.hid hl1
   clear hq1 hz1 hl1
   go_wp2_with (refine wpList_store_row rfl 65 _ _ rfl (w.heap.size + 1) (rdA ts DB) rfl rfl 65 zD HZX.out (infoRD _ (rdA_size HQ.out.n3 HQ.out.m3)) (by rw [rdA_size HQ.out.n3 HQ.out.m3]; rfl) (rdA_one HQ.out.n3 HQ.out.m3) ?_)
   refine noPanic_end ?_
   go_wp2_with fail
   have HS := Lib.hid (setRow_heap _ _ _ (rdA ts DB) _ _ HZX.out)
   refine bodyPost_ret (results_cell_tmp2 rfl _ _ _ _ _ _ _ rfl HS.out Tryz.underlying65 rfl (infoRD _ (rdA_size HQ.out.n3 HQ.out.m3))) rfl ?_
   exact ⟨ts, rfl, HQ.out.done HZX.out (by omega), below_setRow HLOW.out (by omega) _⟩
  | false =>
   obtain ⟨s1, s2⟩ := sync_ok i f hdn (by rw [hDB]; exact hbd)
   rw [s1, s2, hDB]
   clear s1 s2
   obtain ⟨FN, hFN⟩ : ∃ FN, f.settle (unitsAll f.steps) = FN := ⟨_, rfl⟩
   rw [hFN]
   have HFN := Lib.hid hFN
   clear hFN
   have hz := zeroD
   obtain ⟨q1, q2, q3, q4⟩ := boxes w ts d
   have HQ : Hid (RQ w.heap.size w.heap.size ts d ((w.alloc (.cells (rdA ts d) 65)).alloc (.cells zD 65))) := RQ.of h q4 (Nat.le_refl _) q1
   have HZX := Lib.hid q2
   have HLOW := Lib.hid q4
   have HSZ := Lib.hid q3
   obtain ⟨_, hc7, hc8, hfz⟩ := HQ.out.cells
   clear q1 q2 q3 q4 h hc7
   rw [hdn] at hc8
   clear hdn
   go_enter Tryz.func104, Tryz.ntmps104
   go_upto_region 1 with fail
   generalize (w.alloc (.cells (rdA ts d) 65)).alloc (.cells zD 65) = w2 at *
   have HBU := Lib.hid (rburn_any ts d w2 HQ.out.n3 HQ.out.m3 HQ.out.fuse1)
   go_wp2_with (refine wpList_load_row rfl 65 _ rfl w.heap.size rfl 65 (rdA ts d) (0, 0) _ HQ.out.row Tryz.underlying65 rfl (infoRD _ (rdA_size HQ.out.n3 HQ.out.m3)) ?_)
   refine HBU.out.mono ?_
   rintro e w3 ⟨rfl, hb3⟩
   have hq3 := HQ.out.next hb3
   obtain ⟨hq4, hk4⟩ := hq3.burn
   have hff : d.burn.fs = d.fs := (burn_fs d).1
   rw [hDB] at hq4 hk4 hff ⊢
   rw [← hff] at hf
   have HF := Lib.hid hf
   have HQ3 := Lib.hid hq3
   have HD3 : Hid (DB.fs.length = 3) := hq4.m3
   have HZ4 := Lib.hid (Below.keepOld hb3 HZX.out)
   have HL3 := Lib.hid (HLOW.out.trans (hb3.mono HLOW.out.size))
   have HQ4 := Lib.hid hq4
   have hz4 : (w3.setRow w.heap.size (rdA ts DB)).heap[w.heap.size + 1]? = some (.cells zD 65 (0, 0)) := by rw [setRow_other _ _ _ _ (by omega)]; exact HZ4.out
   have HZ5 := Lib.hid hz4
   have HL5 : Hid (Below w.heap.size w (w3.setRow w.heap.size (rdA ts DB))) := below_setRow HL3.out (Nat.le_refl _) _
   clear HQ HZX HLOW hc8 hfz HBU hb3 hq3 hq4 hk4 hz4 hff hf
   go_upto_region 6 with (refine wpList_store_row rfl 65 _ _ rfl w.heap.size (rdA ts DB) rfl rfl 65 (rdA ts d) HQ3.out.row (infoRD _ (rdA_size HQ3.out.n3 HD3.out)) (by rw [rdA_size HQ3.out.n3 HD3.out, rdA_size HQ3.out.n3 HQ3.out.m3]) (rdA_one HQ3.out.n3 HD3.out) ?_)
   try simp only [Act.put]
   clear HQ3 HZ4 HL3
   generalize w3.setRow w.heap.size (rdA ts DB) = w4 at *
   obtain ⟨_, _, hc8, hfz⟩ := HQ4.out.cells
   rw [hbd] at hc8
   have HZX := HZ5
   have HLOW := HL5
   have hlt : i < ts.length := by rw [HQ4.out.n3]; exact hi
   have hti : ts[i]? = some (ts[i]'hlt) := List.getElem?_eq_getElem hlt
   generalize ts[i]'hlt = t at *
   obtain ⟨hrb, hnd⟩ := HQ4.out.each i t f hti HF.out
   have hil : i < DB.fs.length := by rw [HD3.out]; exact hi
   have hfe : DB.fs[i] = f := by have := HF.out; rw [List.getElem?_eq_getElem hil] at this; exact Option.some.inj this
   have hnb : f.need ≤ 1000000 := by have h1 := usedL_mem hil; have h2 := HQ4.out.used; rw [hfe] at h1; omega
   have HRG := Lib.hid (rd_range HQ4.out.n3 HQ4.out.m3 HQ4.out.row i hti HF.out)
   have HHO := Lib.hid (rholds_any t f w4 hrb.now hnb)
   have hset : FN = ⟨f.now, f.now, [], f.now.length⟩ := by
    rw [← HFN.out]
    unfold FD.settle
    rw [someU_all _ _ _ (Nat.le_refl _), ← hrb.now.ok.now]
   have hun := usedL_set hil FN
   have hnow := hrb.now.ok.le
   have HUS : Hid (usedL (setF DB i FN).fs ≤ 1000000) := by
    show usedL (DB.fs.set i _) ≤ _
    have h2 := HQ4.out.used
    rw [hfe] at hun
    have h3 : FN.need = f.now.length := by rw [hset]
    omega
   have HNS : Hid (Nd FN) := by have := nd_settle f (unitsAll f.steps); rw [HFN.out] at this; exact this
   have HST := Lib.hid hset
   clear HZ5 HL5 hti hrb hnd hnb hset hun hnow hfe hDB HFN
   generalize f.now = L at *
   go_upto_region 7 with fail
   go_wp2_with ((with_reducible refine wpAt 25 ?_); refine wpList_load_mid rfl 62 _ rfl w.heap.size (i * 2) rfl (fA t f).toList _ HRG.out Tryz.underlying62 rfl (infoFi (fA t f) rfl) ?_)
   try rw [Array.toArray_toList]
   refine HHO.out.mono ?_
   rintro e w5 ⟨p5, c5, rfl, ho5, hb5⟩
   have hq5 := HQ4.out.next hb5
   have hfr : Rb w.heap.size w5 ⟨p5, c5, none, 0⟩ FN := Rb.fresh (f := FN) ho5 HST.out
   obtain ⟨TN, hTN⟩ : ∃ TN : RF, (⟨p5, c5, none, 0⟩ : RF) = TN := ⟨_, rfl⟩
   have hfa : fA TN FN = #[.slice p5 L.length c5, .slice none 0 0] := by rw [← hTN, HST.out]; rfl
   rw [hTN] at hfr
   obtain ⟨hq6, hk6⟩ := hq5.file i hi TN FN hfr HNS.out HUS.out
   rw [hfa] at hq6 hk6
   have HTH := Lib.hid (hq5.there i hi)
   have HQ6 := Lib.hid hq6
   have HL6 := Lib.hid (HLOW.out.trans (hb5.mono HLOW.out.size))
   have HL7 : Hid (Below w.heap.size w (w5.setCells w.heap.size (i * 2) #[.slice p5 L.length c5, .slice none 0 0].toList)) := Lib.hid (HL6.out.trans (Turns.below (turns_setCells (S := fun k => k = w.heap.size) rfl _ _ _ (Turns.refl _ w5)) HL6.out.size (fun _ e => by omega)))
   have HZ6 := Lib.hid (Below.keepOld hb5 HZX.out)
   have hd6 : (w5.setCells w.heap.size (i * 2) #[.slice p5 L.length c5, .slice none 0 0].toList).heap[w.heap.size + 1]? = some (.cells zD 65 (0, 0)) := (turns_setCells (S := fun k => k = w.heap.size) rfl _ _ _ (Turns.refl _ w5)).keep HZ6.out (by omega)
   have HZ7 := Lib.hid hd6
   have HAN : Hid ((if (setF DB i FN).down = true then (18 : Int) else 0) = 0) := by show _ = _; rw [show (setF DB i FN).down = DB.down from rfl, if_neg (by rw [hbd]; decide)]
   clear HQ4 HZX HLOW hc8 hfz HHO ho5 hb5 hq5 hfr hq6 hk6 hd6 HRG HUS HNS HF hbd HST HZ6 HL6 hTN hfa
   go_upto_region 8 with (refine wpList_store_mid rfl 62 _ _ rfl w.heap.size (i * 2) #[.slice p5 L.length c5, .slice none 0 0] rfl rfl HTH.out (infoFi _ rfl) (by simp [Value.oneCell']) ?_)
   try simp only [Act.put]
   clear HTH
   generalize w5.setCells w.heap.size (i * 2) #[.slice p5 L.length c5, .slice none 0 0].toList = w6 at *
   have HQ := HQ6
   have HZX := HZ7
   have HLOW := HL7
   clear HQ6 HZ7 HL7
   generalize setF DB i FN = DF at *
   obtain ⟨TF, hTF⟩ : ∃ TF, ts.set i TN = TF := ⟨_, rfl⟩
   rw [hTF] at HQ
   clear hTF
   skip
   have HLA : Hid (∀ w', Below w6.heap.size w6 w' → w'.rangeAt w.heap.size 0 (rdA TF DF).toList) := fun w' hb j v hv => by rw [cell_of_row _ _ _ _ _ _ (Below.keepOld hb HQ.out.row), ← Array.getElem?_toList, Nat.zero_add]; exact hv
   go_upto_region 8 with fail
   refine wp_region_eager_t (Below w6.heap.size w6) [0, 1] [(0, true), (1, true), (2, false)] [3, 4] (by kernel_rfl) (by kernel_rfl) ?_ (eagerTOpen rfl ?_)
   ·exact below_drew1 _ _
   have hy0 : Below w6.heap.size w6 w6.drew := below_drew1 _ _
   repeat (first
    | ((with_reducible refine eagerTLoadAt 2 ?_); refine wpEagerT_load (by rfl) 65 _ rfl w.heap.size 0 rfl (rdA TF DF) _ (fun w' hb => HLA.out w' hb) Tryz.underlying65 rfl (infoRD _ (rdA_size HQ.out.n3 HQ.out.m3)) ?_; (try simp only [Act.put, zA, zB, zC]); (try refine eagerTOpen rfl ?_))
    | ((first | (apply wpEagerT_take; (· rfl); (· (intro w' hb'; go_simp; try with_reducible rfl))) | refine wpEagerT_skip (by rfl) ?_); (try simp only [Act.put, zA, zB, zC]); (try refine eagerTOpen rfl ?_)))
   (refine wpEagerT_op (by rfl) (fun K hK => ?_); go_simp; (refine (ranswer2 TF DF 0 HAN.out _ HQ.out.n3 HQ.out.m3).mono ?_; rintro e y1 ⟨rfl, hb⟩; have hy1 := hy0.trans hb; clear hb); refine Shut.out hK _ _ (by assumption) ?_; clear hK K; (try simp only [Act.put, zA, zB, zC]); (try refine eagerTOpen rfl ?_))
   refine eagerTEnd (tail2 rfl rfl ?_)
   have hq1 := HQ.out.next hy1
   have hz1 := Below.keepOld hy1 HZX.out
   have hl1 := HLOW.out.trans (hy1.mono HLOW.out.size)
   clear HQ HZX HLOW HLA hy0 hy1
   have HQ := Lib.hid hq1
   have HZX := Lib.hid hz1
   have HLOW := Lib.hid hl1
   clear hq1 hz1 hl1
   go_wp2_with (refine wpList_store_row rfl 65 _ _ rfl (w.heap.size + 1) (rdA TF DF) rfl rfl 65 zD HZX.out (infoRD _ (rdA_size HQ.out.n3 HQ.out.m3)) (by rw [rdA_size HQ.out.n3 HQ.out.m3]; rfl) (rdA_one HQ.out.n3 HQ.out.m3) ?_)
   refine noPanic_end ?_
   go_wp2_with fail
   have HS := Lib.hid (setRow_heap _ _ _ (rdA TF DF) _ _ HZX.out)
   refine bodyPost_ret (results_cell_tmp2 rfl _ _ _ _ _ _ _ rfl HS.out Tryz.underlying65 rfl (infoRD _ (rdA_size HQ.out.n3 HQ.out.m3))) rfl ?_
   exact ⟨TF, rfl, HQ.out.done HZX.out (by omega), below_setRow HLOW.out (by omega) _⟩
end Go.Proofs.YtnejjfglkindjaaGreatDoor.Rk
namespace Go.Proofs.YtnejjfglkindjaaGreatDoor.Rk
open Go.RowKit Go.Mir Go.Mir.Parts Dk
theorem row_sl {w : World} {b : Nat} {A : Array Value} {t : TypeId} {fr : Nat × Nat} (h : w.heap[b]? = some (.cells A t fr)) (n : Nat) (hn : A.size = n) : Sl w (some ⟨b, 0, none⟩) 1 1 n A.toList :=
 ⟨by rw [Array.length_toList, hn, Nat.one_mul], Nat.le_refl _, by omega, fun h => (by cases h), fun a ha j u hu => by
  obtain rfl := Option.some.inj ha
  rw [add_none, Nat.zero_add, cell_of_row _ _ _ _ _ _ h, ← Array.getElem?_toList]
  exact hu⟩
theorem own_below_alloc {w : World} {base e size n : Nat} {v : Value} {xs : List Value} (h : w.ownsRow base e size v n xs) (o : Obj) : (w.alloc o).ownsRow base e size v n xs :=
 own_touch h (Turns.of_below (S := fun _ => False) (Below.allocs w o)) (fun _ _ h => h)
theorem infoSteps : (Tryz.prog.info? 112).map (fun i => (i.zero, i.size, i.bytes)) = some (some (.agg #[.bool false, .int .i64 0, .slice none 0 0]), 3, 40) := by kernel_rfl
theorem rsetS {ts : List RF} {d : DD} (h1 : ts.length = 3) (h2 : d.fs.length = 3) (i : Nat) {t : RF} {f : FD} (ht : ts[i]? = some t) (hf : d.fs[i]? = some f) (p : Option Addr) (c : Nat) (f' : FD) (hk : f'.kept = f.kept) :
  (rdA ts d).setIfInBounds (i * 2 + 1) (.slice p f'.steps.length c) = rdA (ts.set i ⟨t.kp, t.kc, p, c⟩) (setF d i f') := by
 obtain ⟨a, b, e, x, y, z, rfl, e2⟩ := rdA_form h1 h2
 unfold rdA rdL setF
 rw [e2] at hf ⊢
 match i, ht, hf with
 | 0, ht, hf => cases ht; cases hf; simp [fL, hk]
 | 1, ht, hf => cases ht; cases hf; simp [fL, hk]
 | 2, ht, hf => cases ht; cases hf; simp [fL, hk]
 | i + 3, ht, hf => cases ht
theorem RQ.steps {base g : Nat} {ts : List RF} {d : DD} {x : World} (h : RQ base g ts d x) (i : Nat) (hi : i < 3) {t : RF} {f : FD} (ht : ts[i]? = some t) (hf : d.fs[i]? = some f) (p : Option Addr) (c : Nat) (f' : FD) (hkp : f'.kept = f.kept) (hr : Rb base x ⟨t.kp, t.kc, p, c⟩ f') (hn : Nd f') (hu : usedL (setF d i f').fs ≤ 1000000) :
  RQ base g (ts.set i ⟨t.kp, t.kc, p, c⟩) (setF d i f') (x.setCell ⟨g, i * 2 + 1, none⟩ (.slice p f'.steps.length c)) ∧ KR base x (x.setCell ⟨g, i * 2 + 1, none⟩ (.slice p f'.steps.length c)) := by
 have hk : KR base x (x.setCell ⟨g, i * 2 + 1, none⟩ (.slice p f'.steps.length c)) := KR.of_turn ((Turns.refl (fun k => k = g) x).setCell (p := ⟨g, i * 2 + 1, none⟩) (fun _ => rfl) _) h.row
 refine ⟨⟨by rw [heap_setCell_same _ _ _ _ _ _ h.row, rsetS h.n3 h.m3 i ht hf p c f' hkp], h.low, by rw [List.length_set]; exact h.n3, by show (d.fs.set i f').length = 3; rw [List.length_set]; exact h.m3, fun j t' g' a b => ?_, h.room1, h.fuse1, hu⟩, hk⟩
 have b : (d.fs.set i f')[j]? = some g' := b
 rw [List.getElem?_set] at a b
 by_cases hij : i = j
 ·rw [if_pos hij] at a b
  rw [if_pos (by rw [h.n3]; omega)] at a
  rw [if_pos (by rw [h.m3]; omega)] at b
  cases a; cases b
  exact ⟨hr.step hk, hn⟩
 ·rw [if_neg hij] at a b
  exact ⟨(h.each j t' g' a b).1.step hk, (h.each j t' g' a b).2⟩
theorem Rb.snoc {base : Nat} {w x : World} {t : RF} {f : FD} {s : St} {r : List Value} {p : Option Addr} {c b2 : Nat} {rows : List (List Value)} (hrb : ∀ y, KR base w y → RFR y t f rows)
  (hsr : ∀ y, KR base w y → StR y r s) (hr3 : r.length = 3) (hok : (f.take s).Ok) (hfew : f.steps.length + 1 ≤ 4398046511104) (hb : Below w.heap.size w x) (ho : x.ownsRow b2 112 3 (.slice p (f.steps.length + 1) c) (f.steps.length + 1) (rows.flatten ++ r)) :
  Rb base x ⟨t.kp, t.kc, p, c⟩ (f.take s) := ⟨rows ++ [r], fun y hy => by
 have hwy : KR base w y := (KR.of_below hb).trans hy
 have hrf := hrb y hwy
 have hl : (f.take s).steps.length = f.steps.length + 1 := by show (f.steps ++ [s]).length = _; simp
 have hoy := hy.own ho (fun h => h.2 rfl)
 obtain ⟨p', c', e1, hs⟩ := own_sl hoy
 cases e1
 refine ⟨hrf.kept, ?_, ?_, hok, by rw [hl]; exact hfew⟩
 ·rw [hl]
  refine ⟨by rw [List.flatten_append]; simpa using hs, fun q hq => ?_, by rw [List.length_append, hrf.rs.count]; rfl⟩
  rcases List.mem_append.1 hq with hq | hq
  ·exact hrf.rs.each q hq
  ·rw [List.mem_singleton] at hq; subst hq; exact hr3
 ·intro i q s' hq hs'
  have hs' : (f.steps ++ [s])[i]? = some s' := hs'
  by_cases hi : i < rows.length
  ·rw [List.getElem?_append_left hi] at hq
   rw [List.getElem?_append_left (by rw [← hrf.rs.count]; exact hi)] at hs'
   exact hrf.st i q s' hq hs'
  ·rw [List.getElem?_append_right (by omega)] at hq
   rw [List.getElem?_append_right (by rw [← hrf.rs.count]; omega)] at hs'
   rw [hrf.rs.count] at hq
   have h0 : i - f.steps.length = 0 := by
    have := (List.getElem?_eq_some_iff.1 hq).1
    simp at this; omega
   rw [h0] at hq hs'
   cases hq; cases hs'
   exact hsr y hwy⟩
end Go.Proofs.YtnejjfglkindjaaGreatDoor.Rk
