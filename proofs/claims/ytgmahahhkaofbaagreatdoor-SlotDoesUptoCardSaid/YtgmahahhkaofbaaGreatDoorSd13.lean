/- PARTS, JOINED: PLAIN PART OF SlotKeeps: snapshots put while a fuse burns, and what a crash leaves. Conditions: none. LAYER 21: the statement's own words: alive; a disk made, armed, crashed. Conditions: the laid cell of errors.errorType. THE CALLS OF A STATEMENT ON SLOTS, as they lie in memory; are there not too many? Conditions: a sum that fits. THE LAW OF SLOTS: what a call leaves, and its boxes. Conditions: none. -/
import Derived.Test.YtgmahahhkaofbaaGreatDoorSd1
import Derived.Test.YtgmahahhkaofbaaGreatDoorSd2
import Derived.Test.YtgmahahhkaofbaaGreatDoorSd3
import Derived.Test.YtgmahahhkaofbaaGreatDoorSd4
import Derived.Test.YtgmahahhkaofbaaGreatDoorSd5
import Derived.Test.YtgmahahhkaofbaaGreatDoorSd6
import Derived.Test.YtgmahahhkaofbaaGreatDoorSd7
import Derived.Test.YtgmahahhkaofbaaGreatDoorSd8
import Derived.Test.YtgmahahhkaofbaaGreatDoorSd9
import Derived.Test.YtgmahahhkaofbaaGreatDoorSd10
import Derived.Test.YtgmahahhkaofbaaGreatDoorSd11
import Derived.Test.YtgmahahhkaofbaaGreatDoorSd12
namespace Go.Proofs.YtgmahahhkaofbaaGreatDoor.Slt
open Go.RowKit Go.Mir Dk Rol Wr
open Frm (frame one frame_length one_frame0 one_torn)

/-- the same files, another fuse -/
def wF (d : DD) (fz : Nat) (dn : Bool) : DD := ⟨d.fs, d.room, fz, dn⟩
theorem fD_wF (d : DD) (a : Nat) (x : Bool) (i : Nat) : fD (wF d a x) i = fD d i := rfl
/-- how a file stands in which the disk went down -/
def Torn (y fr : List UInt8) (g : FD) : Prop := g = ⟨y, [], [.cut 0], y.length⟩ ∨ g = ⟨[], fr, [.put fr], fr.length⟩
/-! ### which snapshot is told -/
def opS (y1 y2 : List UInt8) : SS := bet (bet ⟨-1, 0, []⟩ 1 y1) 2 y2
theorem opnS_is (d : DD) : opnS d 1 2 = opS (fD d 1).now (fD d 2).now := rfl
/-- of these contents s is told -/
structure Cur (y1 y2 : List UInt8) (s : SS) : Prop where
  how : (s = ⟨-1, 0, []⟩ ∧ (loadP y1).1 = 0 ∧ (loadP y2).1 = 0) ∨ (s.now = 1 ∧ 1 ≤ s.turn ∧ loadP y1 = (s.turn, s.body) ∧ (loadP y2).1 < s.turn) ∨ (s.now = 2 ∧ 1 ≤ s.turn ∧ loadP y2 = (s.turn, s.body) ∧ (loadP y1).1 < s.turn)
theorem bet_no {s : SS} {f : Nat} {l : List UInt8} (h : (loadP l).1 ≤ s.turn) : bet s f l = s := if_neg (by omega)
theorem Cur.op {y1 y2 : List UInt8} {s : SS} (h : Cur y1 y2 s) : opS y1 y2 = s := by
  obtain ⟨now, turn, body⟩ := s
  unfold opS
  rcases h.how with ⟨e, a, b⟩ | ⟨e, h1, a, b⟩ | ⟨e, h1, a, b⟩
  · rw [bet_no (s := ⟨-1, 0, []⟩) (f := 1) (l := y1) (by rw [a]; exact Nat.zero_le _), bet_no (by rw [b]; exact Nat.zero_le _), e]
  · have e : now = 1 := e
    have a : loadP y1 = (turn, body) := a
    subst e
    have h2 : bet ⟨-1, 0, []⟩ 1 y1 = ⟨1, turn, body⟩ := by unfold bet; rw [a]; exact if_pos h1
    rw [h2]
    exact bet_no (Nat.le_of_lt b)
  · have e : now = 2 := e
    have a : loadP y2 = (turn, body) := a
    have b : (loadP y1).1 < turn := b
    subst e
    have h2 : (bet ⟨-1, 0, []⟩ 1 y1).turn < turn := by
      unfold bet
      split
      · exact b
      · exact h1
    unfold bet at h2 ⊢
    rw [a]
    exact if_pos h2
/-- the file that is not current holds another content that tells no turn -/
theorem Cur.other {y1 y2 : List UInt8} {s : SS} (h : Cur y1 y2 s) (z : List UInt8) (hz : (loadP z).1 = 0) : (nxt s 1 2 = 1 ∧ Cur z y2 s) ∨ (nxt s 1 2 = 2 ∧ Cur y1 z s) := by
  obtain ⟨now, turn, body⟩ := s
  rcases h.how with ⟨e, a, b⟩ | ⟨e, h1, a, b⟩ | ⟨e, h1, a, b⟩
  · refine .inl ⟨?_, ⟨.inl ⟨e, hz, b⟩⟩⟩
    rw [e]; rfl
  · have e : now = 1 := e
    subst e
    exact .inr ⟨rfl, ⟨.inr (.inl ⟨rfl, h1, a, by rw [hz]; exact h1⟩)⟩⟩
  · have e : now = 2 := e
    subst e
    exact .inl ⟨rfl, ⟨.inr (.inr ⟨rfl, h1, a, by rw [hz]; exact h1⟩)⟩⟩
/-- it holds the next snapshot -/
theorem Cur.next {y1 y2 : List UInt8} {s : SS} (h : Cur y1 y2 s) (x : List UInt8) (hx : x.length ≤ 65528) (ht : s.turn + 1 < 18446744073709551616) :
    (nxt s 1 2 = 1 ∧ Cur (wrapB s x) y2 ⟨1, s.turn + 1, x⟩) ∨ (nxt s 1 2 = 2 ∧ Cur y1 (wrapB s x) ⟨2, s.turn + 1, x⟩) := by
  have hl : loadP (wrapB s x) = (s.turn + 1, x) := load_frame _ _ ht hx
  obtain ⟨now, turn, body⟩ := s
  rcases h.how with ⟨e, a, b⟩ | ⟨e, h1, a, b⟩ | ⟨e, h1, a, b⟩
  · refine .inl ⟨by rw [e]; rfl, ⟨.inr (.inl ⟨rfl, by show 1 ≤ turn + 1; omega, hl, by show _ < turn + 1; omega⟩)⟩⟩
  · have e : now = 1 := e
    subst e
    exact .inr ⟨rfl, ⟨.inr (.inr ⟨rfl, by show 1 ≤ turn + 1; omega, hl, by rw [a]; show turn < turn + 1; omega⟩)⟩⟩
  · have e : now = 2 := e
    subst e
    exact .inl ⟨rfl, ⟨.inr (.inl ⟨rfl, by show 1 ≤ turn + 1; omega, hl, by rw [a]; show turn < turn + 1; omega⟩)⟩⟩
/-! ### the disk of two files -/
structure Up (d : DD) (y1 y2 : List UInt8) (s : SS) : Prop where
  m3 : d.fs.length = 3
  room : d.room = 65536
  f0 : fD d 0 = FD.none
  f1 : fD d 1 = fS y1
  f2 : fD d 2 = fS y2
  cur : Cur y1 y2 s
theorem used3 {d : DD} (h : d.fs.length = 3) : usedL d.fs = (fD d 0).need + (fD d 1).need + (fD d 2).need := by
  obtain ⟨fs, room, fuse, down⟩ := d
  obtain ⟨a, b, c, rfl⟩ := list3 h
  show a.need + (b.need + (c.need + 0)) = a.need + b.need + c.need
  omega
theorem Up.used {d : DD} {y1 y2 : List UInt8} {s : SS} (h : Up d y1 y2 s) : usedL d.fs = y1.length + y2.length := by
  rw [used3 h.m3, h.f0, h.f1, h.f2]
  show 0 + y1.length + y2.length = _
  omega
theorem Up.wF {d : DD} {y1 y2 : List UInt8} {s : SS} (h : Up d y1 y2 s) (k : Nat) (x : Bool) : Up (wF d k x) y1 y2 s := ⟨h.m3, h.room, h.f0, h.f1, h.f2, h.cur⟩
theorem wrapB_len (s : SS) (x : List UInt8) : (wrapB s x).length = 16 + x.length := by unfold wrapB; rw [frame_length, List.length_append, be_length]; omega
/-- how the disk stands when it went down while a snapshot was put -/
structure Dn (d : DD) (s : SS) (x : List UInt8) : Prop where
  down : d.down = true
  was : ∃ d0 y1 y2 g, Up d0 y1 y2 s ∧ d = Slt.wF (setF d0 (nxt s 1 2) g) 0 true ∧ Torn (if nxt s 1 2 = 1 then y1 else y2) (wrapB s x) g ∧ y1.length ≤ 2000 ∧ y2.length ≤ 2000
theorem nxt12 (s : SS) : nxt s 1 2 = 1 ∨ nxt s 1 2 = 2 := by unfold nxt; split; exact .inr rfl; exact .inl rfl
/-! ### a crash -/
theorem fD_crash {us : List Int} {d : DD} (h : d.fs.length = 3) (k : Nat) (hk : k < 3) : fD (crashD us d) k = (fD d k).settle (crU us k (fD d k)) := by
  obtain ⟨fs, room, fuse, down⟩ := d
  obtain ⟨a, b, c, rfl⟩ := list3 h
  match k, hk with
  | 0, _ => rfl
  | 1, _ => rfl
  | 2, _ => rfl
theorem settle_fS (y : List UInt8) (u : Nat) : (fS y).settle u = fS y := rfl
theorem torn_settle {y fr : List UInt8} {g : FD} (h : Torn y fr g) (u : Nat) (hu : u ≤ unitsAll g.steps) : ∃ z, g.settle u = fS z ∧ (z = y ∨ z = [] ∨ ∃ k, k ≤ fr.length ∧ z = fr.take k) := by
  rcases h with rfl | rfl
  · refine ⟨someU y [.cut 0] u, rfl, ?_⟩
    show (if min u 1 = 0 then y else y.take 0) = y ∨ (if min u 1 = 0 then y else y.take 0) = [] ∨ _
    split
    · exact .inl rfl
    · exact .inr (.inl List.take_zero)
  · have hu : u ≤ fr.length + 0 := hu
    have e : someU [] [.put fr] u = fr.take u := by
      show (St.put fr).act [] (min u fr.length) = _
      rw [Nat.min_eq_left (by omega)]; rfl
    refine ⟨fr.take u, ?_, .inr (.inr ⟨u, by omega, rfl⟩)⟩
    show (⟨someU [] _ _, someU [] _ _, [], (someU [] _ _).length⟩ : FD) = _
    rw [e]; rfl
theorem Up.crash {d : DD} {y1 y2 : List UInt8} {s : SS} (h : Up d y1 y2 s) (us : List Int) : Up (crashD us d) y1 y2 s := by
  have e0 := fD_crash (us := us) h.m3 0 (by omega)
  have e1 := fD_crash (us := us) h.m3 1 (by omega)
  have e2 := fD_crash (us := us) h.m3 2 (by omega)
  rw [h.f0] at e0
  rw [h.f1, settle_fS] at e1
  rw [h.f2, settle_fS] at e2
  refine ⟨?_, h.room, e0, e1, e2, h.cur⟩
  obtain ⟨fs, room, fuse, down⟩ := d
  obtain ⟨a, b, c, rfl⟩ := list3 h.m3
  rfl
theorem Up.told {d : DD} {y1 y2 : List UInt8} {s : SS} (h : Up d y1 y2 s) : opnS d 1 2 = s := by
  rw [opnS_is, h.f1, h.f2]
  exact h.cur.op
/-- what is told behind a crash, of a disk that went down while a snapshot was put: the old one, or that one -/
theorem Dn.crash {d : DD} {s : SS} {x : List UInt8} (h : Dn d s x) (hx : x.length ≤ 1000) (ht : s.turn + 1 < 18446744073709551616) (us : List Int) :
    ∃ z1 z2 s', Up (crashD us d) z1 z2 s' ∧ z1.length ≤ 2000 ∧ z2.length ≤ 2000 ∧ (s' = s ∨ (s'.turn = s.turn + 1 ∧ s'.body = x)) := by
  obtain ⟨d0, y1, y2, g, hu, rfl, hg, l1, l2⟩ := h.was
  have hw := wrapB_len s x
  have hm : (Slt.wF (setF d0 (nxt s 1 2) g) 0 true).fs.length = 3 := by show (List.set _ _ _).length = 3; rw [List.length_set]; exact hu.m3
  have e0 := fD_crash (us := us) hm 0 (by omega)
  have e1 := fD_crash (us := us) hm 1 (by omega)
  have e2 := fD_crash (us := us) hm 2 (by omega)
  have hm3 : (crashD us (Slt.wF (setF d0 (nxt s 1 2) g) 0 true)).fs.length = 3 := by
    generalize Slt.wF (setF d0 (nxt s 1 2) g) 0 true = D at hm
    obtain ⟨fs, room, fuse, down⟩ := D
    obtain ⟨a, b, c, rfl⟩ := list3 hm
    rfl
  have hi : nxt s 1 2 < d0.fs.length := by rcases nxt12 s with e | e <;> rw [e, hu.m3] <;> omega
  have hroom : (crashD us (Slt.wF (setF d0 (nxt s 1 2) g) 0 true)).room = 65536 := hu.room
  have hz0 : ∀ k, k < (wrapB s x).length → (loadP ((wrapB s x).take k)).1 = 0 := fun k hk => by
    have := load_torn (s.turn + 1) x (by omega) k (by omega)
    unfold wrapB
    rw [this]
  rcases nxt12 s with e | e
  · rw [e] at hi hg e0 e1 e2 hm3 hroom ⊢
    rw [fD_wF, fD_other (by omega), hu.f0] at e0
    rw [fD_wF, fD_other (by omega), hu.f2, settle_fS] at e2
    rw [fD_wF, fD_set hi] at e1
    obtain ⟨z, hz, hc⟩ := torn_settle hg _ (crU_le (us := us) (k := 1) (f := g))
    rw [hz] at e1
    rw [if_pos rfl] at hc
    have mk : ∀ s', Cur z y2 s' → Up (crashD us (Slt.wF (setF d0 1 g) 0 true)) z y2 s' := fun s' c => ⟨hm3, hroom, e0, e1, e2, c⟩
    rcases hc with rfl | rfl | ⟨k, hk, rfl⟩
    · exact ⟨_, _, s, mk _ hu.cur, l1, l2, .inl rfl⟩
    · rcases hu.cur.other [] rfl with ⟨_, c⟩ | ⟨q, _⟩
      · exact ⟨_, _, s, mk _ c, by simp, l2, .inl rfl⟩
      · rw [e] at q; exact absurd q (by decide)
    · have hlk : ((wrapB s x).take k).length ≤ 2000 := by rw [List.length_take]; omega
      by_cases hkl : k < (wrapB s x).length
      · rcases hu.cur.other _ (hz0 k hkl) with ⟨_, c⟩ | ⟨q, _⟩
        · exact ⟨_, _, s, mk _ c, hlk, l2, .inl rfl⟩
        · rw [e] at q; exact absurd q (by decide)
      · have hall : (wrapB s x).take k = wrapB s x := List.take_of_length_le (by omega)
        rw [hall] at mk hlk
        rcases hu.cur.next x (by omega) ht with ⟨_, c⟩ | ⟨q, _⟩
        · exact ⟨_, _, _, mk _ c, hlk, l2, .inr ⟨rfl, rfl⟩⟩
        · rw [e] at q; exact absurd q (by decide)
  · rw [e] at hi hg e0 e1 e2 hm3 hroom ⊢
    rw [fD_wF, fD_other (by omega), hu.f0] at e0
    rw [fD_wF, fD_other (by omega), hu.f1, settle_fS] at e1
    rw [fD_wF, fD_set hi] at e2
    obtain ⟨z, hz, hc⟩ := torn_settle hg _ (crU_le (us := us) (k := 2) (f := g))
    rw [hz] at e2
    rw [if_neg (by decide)] at hc
    have mk : ∀ s', Cur y1 z s' → Up (crashD us (Slt.wF (setF d0 2 g) 0 true)) y1 z s' := fun s' c => ⟨hm3, hroom, e0, e1, e2, c⟩
    rcases hc with rfl | rfl | ⟨k, hk, rfl⟩
    · exact ⟨_, _, s, mk _ hu.cur, l1, l2, .inl rfl⟩
    · rcases hu.cur.other [] rfl with ⟨q, _⟩ | ⟨_, c⟩
      · rw [e] at q; exact absurd q (by decide)
      · exact ⟨_, _, s, mk _ c, l1, by simp, .inl rfl⟩
    · have hlk : ((wrapB s x).take k).length ≤ 2000 := by rw [List.length_take]; omega
      by_cases hkl : k < (wrapB s x).length
      · rcases hu.cur.other _ (hz0 k hkl) with ⟨q, _⟩ | ⟨_, c⟩
        · rw [e] at q; exact absurd q (by decide)
        · exact ⟨_, _, s, mk _ c, l1, hlk, .inl rfl⟩
      · have hall : (wrapB s x).take k = wrapB s x := List.take_of_length_le (by omega)
        rw [hall] at mk hlk
        rcases hu.cur.next x (by omega) ht with ⟨q, _⟩ | ⟨_, c⟩
        · rw [e] at q; exact absurd q (by decide)
        · exact ⟨_, _, _, mk _ c, l1, hlk, .inr ⟨rfl, rfl⟩⟩
end Go.Proofs.YtgmahahhkaofbaaGreatDoor.Slt

namespace Go.Proofs.YtgmahahhkaofbaaGreatDoor.Slt
open Go.RowKit Go.Mir Go.Mir.Parts Dk Rol Wr
open Frm (frame)

theorem snew (room : Nat) (w : World) (h : 1 ≤ room ∧ room ≤ 65536) :
    Calls Tryz.prog 4 #[.int .i64 (room : Int)] w fun e w' => ∃ db, e = .returned (.tuple #[.pointer (some ⟨db, 0, none⟩), .int .i64 0]) ∧ DX w.heap.size db (DD.new room) w' ∧ Below w.heap.size w w' := by
  refine (new_any room w h).mono ?_
  rintro e w' ⟨db, vs, he, hd, hb⟩
  exact ⟨db, he, ⟨hb.size, vs, hd⟩, hb⟩
theorem sarm {base db : Nat} {d : DD} (w : World) (h : DX base db d w) (n : Int) (hn : n ≤ 9223372036854775807) :
    Calls Tryz.prog 29 #[.pointer (some ⟨db, 0, none⟩), .int .i64 n] w fun e w' => e = .returned (.tuple #[]) ∧ DX base db ⟨d.fs, d.room, n.toNat, d.down⟩ w' ∧ KT base w w' := by
  obtain ⟨h0, vs, h1⟩ := h
  refine (arm_any w h1 n hn).mono ?_
  rintro e w' ⟨he, hd, ht⟩
  exact ⟨he, DX.left h1 h0 (LeftD.row h1 hd ht)⟩
theorem scrash {base db : Nat} {d : DD} (w : World) (h : DX base db d w) (us : List Int) (p : Option Addr) (c : Nat) (hN : Ns w p us.length c us) (hap : ∀ a, p = some a → ¬ DTy base w a.block ∧ a.block < w.heap.size) :
    Calls Tryz.prog 31 #[.pointer (some ⟨db, 0, none⟩), .slice p us.length c] w fun e w' => e = .returned (.tuple #[]) ∧ DX base db (crashD us d) w' ∧ KT base w w' := by
  obtain ⟨h0, vs, h1⟩ := h
  refine (crash_any w h1 h0 us p c hN (fun a ha => ⟨fun ho => (hap a ha).1 (dat_dty h1 _ ho), (hap a ha).2⟩)).mono ?_
  rintro e w' ⟨he, hl⟩
  exact ⟨he, DX.left h1 h0 hl⟩
/-- a row of bytes reads as them -/
theorem bs_row {w : World} {g : Nat} {cur : Array Value} {t : TypeId} {fr : Nat × Nat} {l : List UInt8} (hr : w.heap[g]? = some (.cells cur t fr)) (hc : cur.toList = bytesV l) (hm : l.length ≤ 9223372036854775807) : Bs w (some ⟨g, 0, none⟩) l.length l.length l :=
  ⟨by rw [bytesV_length, Nat.mul_one], Nat.le_refl _, hm, fun h => (by cases h), fun a ha j u hu => by
    obtain rfl := Option.some.inj ha
    rw [add_none, cell_of_row _ _ _ _ _ _ hr, ← Array.getElem?_toList, hc, Nat.zero_add]
    exact hu⟩
theorem few_new (room : Nat) : ∀ j, (fD (DD.new room) j).steps.length ≤ 0
  | 0 => Nat.le_refl _
  | 1 => Nat.le_refl _
  | 2 => Nat.le_refl _
  | _ + 3 => Nat.le_refl _
theorem opn_new (room a b : Nat) (ha : a < 3) (hb : b < 3) : opnS (DD.new room) a b = ⟨-1, 0, []⟩ := by
  have h : ∀ i, i < 3 → (fD (DD.new room) i).now = [] := fun i hi => by
    match i, hi with
    | 0, _ => rfl
    | 1, _ => rfl
    | 2, _ => rfl
  unfold opnS
  rw [h a ha, h b hb]
  rfl
/-- a snapshot put on a disk that is up and has room -/
theorem putUp_any {base sb db a b N : Nat} {d : DD} {s : SS} (w : World) (h : SX base sb db a b d s w) (ha : a < 3) (hb : b < 3) (p : Option Addr) (c : Nat) (x : List UInt8) (hK : ∀ w', KT base w w' → Bs w' p x.length c x) (hx : x.length ≤ 3000) (hN : N ≤ 4398046000000) (hfew : ∀ j, (fD d j).steps.length ≤ N)
    (h1 : d.down = false) (h2 : d.fuse = 0) (ht : s.turn + 1 < 18446744073709551616) (hr : usedL d.fs + (16 + x.length) ≤ d.room) :
    Calls Tryz.prog 14 #[.pointer (some ⟨sb, 0, none⟩), .slice p x.length c] w fun e w' => e = .returned (.int .i64 0) ∧ SX base sb db a b (setF d (nxt s a b) (fS (wrapB s x))) ⟨(nxt s a b : Int), s.turn + 1, x⟩ w' ∧ KS base w w' := by
  have hp := put_up (d := d) (s := s) (a := a) (b := b) (x := x) h.dx.len3 ha hb h1 h2 (fun i hi => h.dx.ok hi) (by omega) ht hr
  have := sput_any w h ha hb p c x hK hx hN hfew
  unfold SPutP at this
  rwa [hp.1, hp.2.1, hp.2.2] at this
set_option maxRecDepth 100000 in
set_option maxHeartbeats 3200000 in
theorem alive21_any (w : World) (hE : Rdr.EType w) :
    Calls Tryz.prog 6 #[] w fun e w' => e = .returned (.bool true) ∧ Below w.heap.size w w' := by
  have HE := Lib.hid hE
  have HN : Hid (Calls Tryz.prog 4 #[.int .i64 100] w fun e w' => ∃ db, e = .returned (.tuple #[.pointer (some ⟨db, 0, none⟩), .int .i64 0]) ∧ DX w.heap.size db (DD.new 100) w' ∧ Below w.heap.size w w') := snew 100 w (by omega)
  clear hE
  go_enter Tryz.func6, Tryz.ntmps6
  go_wp2_with fail
  refine HN.out.mono ?_
  rintro e w1 ⟨db, rfl, hd1, hb1⟩
  have HB1 := Lib.hid hb1
  have HO := Lib.hid (sopen_any w1 (HE.out.below hb1 HE.out.lt) hd1 1 2 (by omega) (by omega) (by omega) rfl)
  clear hd1 hb1 HN
  go_wp2_with fail
  refine HO.out.mono ?_
  rintro e w2 ⟨sb, rfl, hs2, hb2⟩
  rw [opn_new 100 1 2 (by omega) (by omega)] at hs2
  have HS2 := Lib.hid hs2
  have HB2 := Lib.hid (HB1.out.trans (hb2.mono HB1.out.size))
  clear hs2 hb2 HO
  go_wp2_with fail
  refine (file_any w2 HS2.out).mono ?_
  rintro e w' ⟨rfl, rfl⟩
  have hal : Below w2.heap.size w2 (w2.alloc (.cells #[.int .u8 5] 5)) := Below.allocs _ _
  have hrow := heap_alloc_last w2 (.cells #[.int .u8 5] 5)
  have HA3 := Lib.hid (HB2.out.trans (hal.mono HB2.out.size))
  have HS3 := Lib.hid (HS2.out.below hal)
  have HP1 := Lib.hid (putUp_any (N := 0) _ (HS2.out.below hal) (by omega) (by omega) (some ⟨w2.heap.size, 0, none⟩) 1 [5] (fun w' hk => bs_row (hk.row hrow (by decide) (by decide)) rfl (by decide)) (by decide) (by omega) (few_new 100) rfl rfl (by show 0 + 1 < _; omega) (by show 0 + (16 + 1) ≤ 100; omega))
  clear hal hrow HS2
  go_wp2_with fail
  refine HP1.out.mono ?_
  rintro e w4 ⟨rfl, hs4, hk4⟩
  have hn1 : nxt ⟨-1, 0, []⟩ 1 2 = 1 := rfl
  rw [hn1] at hs4
  have HB4 := Lib.hid (HA3.out.trans (hk4.below HA3.out.size))
  have hu := used_setF (d := DD.new 100) (i := 1) (by decide) (fS (wrapB ⟨-1, 0, []⟩ [5]))
  have hwl := wrapB_len ⟨-1, 0, []⟩ [5]
  have hU : usedL (setF (DD.new 100) 1 (fS (wrapB ⟨-1, 0, []⟩ [5]))).fs = 17 := by
    have e1 : (fD (DD.new 100) 1).need = 0 := rfl
    have e2 : usedL (DD.new 100).fs = 0 := rfl
    have e3 : (fS (wrapB ⟨-1, 0, []⟩ [5])).need = (wrapB ⟨-1, 0, []⟩ [5]).length := rfl
    have e4 : ([5] : List UInt8).length = 1 := rfl
    omega
  have hF : ∀ j, (fD (setF (DD.new 100) 1 (fS (wrapB ⟨-1, 0, []⟩ [5]))) j).steps.length ≤ 0 := fun j => few_set (few_new 100) (Nat.le_refl _)
  have hR : (setF (DD.new 100) 1 (fS (wrapB ⟨-1, 0, []⟩ [5]))).room = 100 := rfl
  have hD : (setF (DD.new 100) 1 (fS (wrapB ⟨-1, 0, []⟩ [5]))).down = false := rfl
  have hZ : (setF (DD.new 100) 1 (fS (wrapB ⟨-1, 0, []⟩ [5]))).fuse = 0 := rfl
  clear hu hwl
  generalize setF (DD.new 100) 1 (fS (wrapB ⟨-1, 0, []⟩ [5])) = D1 at *
  have hs4 : SX w.heap.size sb db 1 2 D1 ⟨1, 1, [5]⟩ w4 := hs4
  have hal : Below w4.heap.size w4 (w4.alloc (.cells #[.int .u8 6] 5)) := Below.allocs _ _
  have hrow := heap_alloc_last w4 (.cells #[.int .u8 6] 5)
  have HA5 := Lib.hid (HB4.out.trans (hal.mono HB4.out.size))
  have HP2 := Lib.hid (putUp_any (N := 0) _ (hs4.below hal) (by omega) (by omega) (some ⟨w4.heap.size, 0, none⟩) 1 [6] (fun w' hk => bs_row (hk.row hrow (by decide) (by decide)) rfl (by decide)) (by decide) (by omega) hF hD hZ (by show 1 + 1 < _; omega) (by rw [hU, hR]; decide))
  clear hal hrow hs4 hk4 hU hF hR hD hZ HP1 HS3
  go_wp2_with fail
  refine HP2.out.mono ?_
  rintro e w6 ⟨rfl, hs6, hk6⟩
  have hn2 : nxt ⟨1, 1, [5]⟩ 1 2 = 2 := rfl
  rw [hn2] at hs6
  have HB6 := Lib.hid (HA5.out.trans (hk6.below HA5.out.size))
  generalize setF D1 2 (fS (wrapB ⟨1, 1, [5]⟩ [6])) = D2 at *
  have hs6 : SX w.heap.size sb db 1 2 D2 ⟨2, 2, [6]⟩ w6 := hs6
  have HS6 := Lib.hid hs6
  have HG := Lib.hid (get_any w6 hs6 (fun h => absurd (show (2 : Nat) = 0 from h) (by decide)) (by decide))
  clear hs6 hk6 HP2
  go_wp2_with fail
  refine HG.out.mono ?_
  rintro e w7 ⟨p7, c7, rfl, ho7, hb7⟩
  have HS7 := Lib.hid (HS6.out.below hb7)
  have HB7 := Lib.hid (HB6.out.trans (hb7.mono HB6.out.size))
  have HC7 : (convert 22 9 (.slice p7 1 c7)).run Tryz.prog w7 = .ok (.string (S [6])) w7 := Cut.bconv (n := 1) (Cut.own_bs ho7)
  clear ho7 hb7 HG HS6
  go_wp2_with fail
  refine (file_any w7 HS7.out).mono ?_
  rintro e w' ⟨rfl, rfl⟩
  go_wp2_with fail
  refine (turn_any w7 HS7.out).mono ?_
  rintro e w' ⟨rfl, rfl⟩
  go_wp2_with fail
  go_ret
  exact ⟨rfl, HB7.out⟩
end Go.Proofs.YtgmahahhkaofbaaGreatDoor.Slt

namespace Go.Proofs.YtgmahahhkaofbaaGreatDoor.Slt
open Go.RowKit Go.Mir Go.Mir.Parts

/-- what a call of the statement is -/
structure SOp where
  kind : Int
  n : Int
  m : Int
  b : List UInt8
def sopA (o : SOp) (pb : Option Addr) (cb : Nat) : Array Value := #[.int .i64 o.kind, .int .i64 o.n, .int .i64 o.m, .slice pb o.b.length cb]
structure SOpAt (w : World) (cs : List Value) (o : SOp) : Prop where
  form : ∃ pb cb, cs = (sopA o pb cb).toList ∧ Bs w pb o.b.length cb o.b
  kindB : -9223372036854775808 ≤ o.kind ∧ o.kind ≤ 9223372036854775807
  nB : -9223372036854775808 ≤ o.n ∧ o.n ≤ 9223372036854775807
  mB : -9223372036854775808 ≤ o.m ∧ o.m ≤ 9223372036854775807
theorem SOpAt.below {w w' : World} {cs : List Value} {o : SOp} (h : SOpAt w cs o) (hb : Below w.heap.size w w') : SOpAt w' cs o := by
  obtain ⟨pb, cb, h1, h2⟩ := h.form
  exact ⟨⟨pb, cb, h1, h2.below hb⟩, h.kindB, h.nB, h.mB⟩
structure SOps (w : World) (p : Option Addr) (n c : Nat) (os : List SOp) (rows : List (List Value)) : Prop where
  rs : Rs w p n c 4 rows
  count : os.length = n
  each : ∀ (i : Nat) r o, rows[i]? = some r → os[i]? = some o → SOpAt w r o
theorem SOps.below {w w' : World} {p : Option Addr} {n c : Nat} {os : List SOp} {rows : List (List Value)} (h : SOps w p n c os rows) (hb : Below w.heap.size w w') : SOps w' p n c os rows :=
  ⟨h.rs.below hb, h.count, fun i r o h1 h2 => (h.each i r o h1 h2).below hb⟩
theorem SOps.at {w : World} {b o n c : Nat} {os : List SOp} {rows : List (List Value)} (h : SOps w (some ⟨b, o, none⟩) n c os rows) (k : Nat) (hk : k < os.length) : ∃ pb cb, Bs w pb os[k].b.length cb os[k].b ∧ w.rangeAt b (o + k * 4) (sopA os[k] pb cb).toList := by
  have hkr : k < rows.length := by rw [h.rs.count, ← h.count]; exact hk
  obtain ⟨pb, cb, e, h1⟩ := (h.each k _ os[k] (List.getElem?_eq_getElem hkr) (List.getElem?_eq_getElem hk)).form
  refine ⟨pb, cb, h1, ?_⟩
  rw [← e]
  exact h.rs.row k hkr
theorem sopA_cell {w : World} {b : Nat} {o : SOp} {pb : Option Addr} {cb : Nat} {t : TypeId} {fr : Nat × Nat} (h : w.heap[b]? = some (.cells (sopA o pb cb) t fr)) :
    w.cell? ⟨b, 0, none⟩ = some (.int .i64 o.kind) ∧ w.cell? ⟨b, 1, none⟩ = some (.int .i64 o.n) ∧ w.cell? ⟨b, 2, none⟩ = some (.int .i64 o.m) ∧ w.cell? ⟨b, 3, none⟩ = some (.slice pb o.b.length cb) := by
  refine ⟨?_, ?_, ?_, ?_⟩ <;> (rw [cell_of_row _ _ _ _ _ _ h]; rfl)
theorem sopA_one (o : SOp) (pb : Option Addr) (cb : Nat) : (sopA o pb cb).all (·.oneCell') = true := by
  unfold sopA
  simp [Value.oneCell']
theorem infoSOp (n : Nat) (h : n = 4) : (Tryz.prog.info? 51).map (·.size) = some n := by subst h; kernel_rfl
theorem zSOp : ∃ Z : Array Value, (∀ w0, (zeroValue 51).run Tryz.prog w0 = .ok (.agg Z) w0) ∧ Z.size = 4 := ⟨#[.int .i64 0, .int .i64 0, .int .i64 0, .slice none 0 0], fun w0 => by kernel_rfl, by kernel_rfl⟩
/-- how many bytes the calls hold -/
def bsum : List SOp → Nat
  | [] => 0
  | o :: r => o.b.length + bsum r
theorem bsum_take_succ : ∀ (l : List SOp) (k : Nat) (h : k < l.length), bsum (l.take (k + 1)) = bsum (l.take k) + (l[k]).b.length
  | o :: r, 0, _ => by simp [bsum]
  | o :: r, k + 1, h => by
    have := bsum_take_succ r k (by simpa using h)
    simp only [List.take_succ_cons, bsum, List.getElem_cons_succ, this]; omega
theorem bsum_take_le : ∀ (l : List SOp) (k : Nat), bsum (l.take k) ≤ bsum l
  | [], _ => by simp [bsum]
  | o :: r, 0 => by simp [bsum]
  | o :: r, k + 1 => by
    have := bsum_take_le r k
    simp only [List.take_succ_cons, bsum]; omega
theorem bsum_mem : ∀ {l : List SOp} {o : SOp}, o ∈ l → o.b.length ≤ bsum l
  | x :: r, o, h => by
    rcases List.mem_cons.1 h with rfl | h
    · simp [bsum]
    · have := bsum_mem h
      simp only [bsum]; omega
/-- a Case: room, what both files hold at first, and calls -/
def case4 (room : Int) (pa : Option Addr) (na ca : Nat) (pb : Option Addr) (nb cb : Nat) (p : Option Addr) (n c : Nat) : Array Value := #[.int .i64 room, .slice pa na ca, .slice pb nb cb, .slice p n c]
theorem case4_cells {w : World} {g : Nat} {room : Int} {pa : Option Addr} {na ca : Nat} {pb : Option Addr} {nb cb : Nat} {p : Option Addr} {n c : Nat} {t : TypeId} {fr : Nat × Nat} (h : w.heap[g]? = some (.cells (case4 room pa na ca pb nb cb p n c) t fr)) :
    w.cell? ⟨g, 0, none⟩ = some (.int .i64 room) ∧ w.cell? ⟨g, 1, none⟩ = some (.slice pa na ca) ∧ w.cell? ⟨g, 2, none⟩ = some (.slice pb nb cb) ∧ w.cell? ⟨g, 3, none⟩ = some (.slice p n c) := by
  refine ⟨?_, ?_, ?_, ?_⟩ <;> (rw [cell_of_row _ _ _ _ _ _ h]; rfl)
theorem infoCase21 (n : Nat) (h : n = 4) : (Tryz.prog.info? 25).map (·.size) = some n := by subst h; kernel_rfl
set_option maxRecDepth 100000 in
set_option maxHeartbeats 1600000 in
theorem small21_any (room : Int) (pa : Option Addr) (na ca : Nat) (pb : Option Addr) (nb cb : Nat) (os : List SOp) (p : Option Addr) (c : Nat) (rows : List (List Value)) (w : World) (h : SOps w p os.length c os rows) (hbl : os.length + na + nb + bsum os ≤ 4611686018427387904) :
    Calls Tryz.prog 5 #[.agg (case4 room pa na ca pb nb cb p os.length c)] w fun e w' => e = .returned (.bool (decide (os.length + na + nb + bsum os ≤ 1000))) ∧ Below w.heap.size w w' := by
  obtain ⟨Z, hz, hZ⟩ := zSOp
  have HZZ := Lib.hid hZ
  have hal := Below.allocs w (.cells (case4 room pa na ca pb nb cb p os.length c) 25)
  have hrow : (w.alloc (.cells (case4 room pa na ca pb nb cb p os.length c) 25)).heap[w.heap.size]? = some (.cells (case4 room pa na ca pb nb cb p os.length c) 25 (0, 0)) := heap_alloc_last _ _
  obtain ⟨_, hc1, hc2, hc3⟩ := case4_cells hrow
  have HB1 := Lib.hid hal
  have H := Lib.hid (h.below hal)
  have HBL := Lib.hid hbl
  have hle := h.rs.sl.le
  have hmax := h.rs.sl.max
  obtain ⟨M, hM⟩ : ∃ M, M = os.length + na + nb := ⟨_, rfl⟩
  have HM := Lib.hid hM
  have hwa : IntKind.i64.wrap ((os.length : Int) + (na : Int)) = (os.length : Int) + (na : Int) := IntWalk.i64_in _ (by omega)
  have hwb : IntKind.i64.wrap ((os.length : Int) + (na : Int) + (nb : Int)) = (M : Int) := by rw [IntWalk.i64_in _ (by omega)]; omega
  clear h hZ hbl hal hrow hM
  go_enter Tryz.func5, Tryz.ntmps5
  go_upto_region 1 with fail
  generalize w.alloc (.cells (case4 room pa na ca pb nb cb p os.length c) 25) = w1 at *
  go_wp2_with fail
  clear hc1 hc2 hc3 hwa hwb
  go_loopw [3, 20] (fun a j wr => ∃ k : Nat, k ≤ os.length ∧ j = .int .i64 k ∧ a = .int .i64 ((M + bsum (os.take k) : Nat) : Int) ∧ Below w1.heap.size w1 wr) (fun _ j _ => os.length - (intOf j).toNat)
  case atStart => exact ⟨0, by omega, rfl, by simp [bsum], Below.refl _ _⟩
  case round =>
    obtain ⟨k, hk, rfl, rfl, hb0⟩ := hrel
    have HB0 := Lib.hid hb0
    clear hb0
    by_cases hlt : k < os.length
    · have hd : decide ((k : Int) < (os.length : Int)) = true := decide_eq_true (by omega)
      have hd2 : decide (k < os.length) = true := decide_eq_true hlt
      obtain ⟨b, o, rfl⟩ := H.out.rs.sl.addr (by omega) (by omega)
      obtain ⟨pb, cb, hbs, hrg⟩ := H.out.at k hlt
      have HRG := Lib.hid (range_below hrg HB0.out)
      have hts := bsum_take_succ os k hlt
      have hx1 := bsum_take_le os (k + 1)
      have hx2 := HBL.out
      have hx3 := HM.out
      have HTS := Lib.hid hts
      generalize hoo : os[k] = oo at *
      have HOB : Hid (os[k].b.length = oo.b.length) := by show _ = _; rw [hoo]
      clear hoo
      generalize hS : bsum (os.take k) = SS at *
      have hw1 : IntKind.i64.wrap (((M + SS : Nat) : Int) + (oo.b.length : Int)) = ((M + bsum (os.take (k + 1)) : Nat) : Int) := by rw [IntWalk.i64_in _ (by omega)]; omega
      have hw2 : IntKind.i64.wrap (((M : Int) + (SS : Int)) + (oo.b.length : Int)) = ((M + bsum (os.take (k + 1)) : Nat) : Int) := by rw [IntWalk.i64_in _ (by omega)]; omega
      have HSS : Hid (bsum (os.take k) = SS) := hS
      clear hts hx1 hx2 hx3 hbs hrg hS
      generalize bsum (os.take (k + 1)) = S2 at *
      obtain ⟨A, hA⟩ : ∃ A, A = sopA oo pb cb := ⟨_, rfl⟩
      have HOS : Hid (A.size = 4) := by show _ = _; rw [hA]; rfl
      have HOO : Hid (A.all (·.oneCell') = true) := by show _ = _; rw [hA]; exact sopA_one _ _ _
      have HOL : Hid (A.toList.length = 4) := by show _ = _; rw [Array.length_toList]; exact HOS.out
      have HNW := Lib.hid (box_new wr Z 51)
      have hbr := box_row wr Z A 51
      have HBB := Lib.hid (box_below wr Z A 51)
      have HB3 := Lib.hid (HB0.out.trans (HBB.out.mono HB0.out.size))
      rw [hA] at hbr
      obtain ⟨_, _, _, hc3⟩ := sopA_cell hbr
      rw [← hA] at hc3 HRG
      clear hbr hA
      go_wp2_with (first
        | ((with_reducible refine wpAt 23 ?_); refine wpList_load_mid rfl 51 _ rfl b (o + k * 4) rfl A.toList _ HRG.out Tryz.underlying51 rfl (infoSOp _ HOL.out) ?_)
        | ((with_reducible refine wpStoreAt 5 ?_); refine wpList_store_row rfl 51 _ _ rfl wr.heap.size A rfl rfl 51 Z HNW.out (infoSOp _ HOS.out) (HZZ.out.trans HOS.out.symm) HOO.out ?_))
      go_roundw
      case rel => exact ⟨k + 1, by omega, by go_num, by rw [bsum_take_succ os k hlt, HSS.out, HOB.out]; first | rfl | (refine congrArg (Value.int IntKind.i64) ?_; have e1 := HTS.out; omega), HB3.out⟩
      case measure => simp [intOf]; omega
    · have hd : decide ((k : Int) < (os.length : Int)) = false := decide_eq_false (by omega)
      have hd2 : decide (k < os.length) = false := decide_eq_false hlt
      obtain rfl : k = os.length := by omega
      rw [List.take_length]
      have hMe := HM.out
      have hq : decide (((M + bsum os : Nat) : Int) ≤ 1000) = decide (os.length + na + nb + bsum os ≤ 1000) := by rw [decide_eq_decide]; omega
      have hq2 : decide ((M : Int) + (bsum os : Int) ≤ 1000) = decide (os.length + na + nb + bsum os ≤ 1000) := by rw [decide_eq_decide]; omega
      have HBF := Lib.hid (HB1.out.trans (HB0.out.mono HB1.out.size))
      clear hMe
      go_wp2_with fail
      go_ret
      exact ⟨by first | rfl | simp [hq, hq2], HBF.out⟩
end Go.Proofs.YtgmahahhkaofbaaGreatDoor.Slt

namespace Go.Proofs.YtgmahahhkaofbaaGreatDoor.Slt
open Go.RowKit Go.Mir Go.Mir.Parts Dk Rol Rk Wr
open Frm (frame one)

/-- one of both files -/
def wh (n : Int) : Nat := 1 + (n % 2).toNat
theorem wh_lt (n : Int) : wh n < 3 := by unfold wh; omega
structure BodyOk (s : SS) : Prop where
  no : s.turn = 0 → s.body = []
  len : s.body.length ≤ 100000
theorem load_len (l : List UInt8) : (loadP l).2.length ≤ 65536 := by
  unfold loadP
  split
  · have := one_len l
    show (List.drop _ _).length ≤ _
    rw [List.length_drop]; omega
  · exact Nat.zero_le _
theorem bet_len {s : SS} {f : Nat} {l : List UInt8} (h : s.body.length ≤ 65536) : (bet s f l).body.length ≤ 65536 := by
  unfold bet
  split
  · exact load_len l
  · exact h
theorem BodyOk.opn (d : DD) (a b : Nat) : BodyOk (opnS d a b) := ⟨opn_body d a b, Nat.le_trans (bet_len (bet_len (Nat.zero_le _))) (by omega)⟩
theorem BodyOk.put {d : DD} {s : SS} {a b : Nat} {x : List UInt8} (h : BodyOk s) (hx : x.length ≤ 1000) : BodyOk (putSS d s a b x) := by
  unfold putSS
  split
  · exact ⟨fun h0 => absurd h0 (by show ¬ s.turn + 1 = 0; omega), by show x.length ≤ _; omega⟩
  · exact h
theorem few_stpD {d : DD} {i N : Nat} {a : LA} (h : FewD d N) : FewD (stpD d i a) (N + 1) := by
  cases a with
  | cut => exact h.doD (fewfd h)
  | sync => exact (FewD.syncD h).mono (by omega)
  | put b => exact h.doD (fewfd h)
theorem few_layD : ∀ (i : Nat) (l : List LA) {d : DD} {N : Nat}, FewD d N → FewD (layD i l d) (N + l.length)
  | _, [], _, _, h => h
  | i, a :: r, d, N, h => by
    unfold layD
    split
    · exact (few_layD i r (few_stpD h)).mono (by simp only [List.length_cons]; omega)
    · exact (few_stpD h).mono (by simp only [List.length_cons]; omega)
theorem few_putSD {d : DD} {s : SS} {a b N : Nat} {x : List UInt8} (h : FewD d N) : FewD (putSD d s a b x) (N + 4) := by
  unfold putSD
  split
  · refine (few_layD _ _ h).mono ?_
    unfold acts
    split
    · exact Nat.le_refl _
    · show N + 2 ≤ N + 4; omega
  · exact h.mono (by omega)
theorem few_crash {d : DD} (us : List Int) : FewD (crashD us d) 0 := fun f hf => by
  have := crF_few us d.fs 0 f hf
  omega
theorem kr_of_ks {base : Nat} {a b : World} (h : KS base a b) : KR 0 a b := h.imp (fun k _ ⟨_, M, t, fr, hm, ht⟩ => ⟨M, t, fr, hm, by
  rcases ht with rfl | rfl | rfl
  · exact ⟨by decide, by decide⟩
  · exact ⟨by decide, by decide⟩
  · exact ⟨by decide, by decide⟩⟩)
theorem ks_setRow {base : Nat} {w Y : World} {g : Nat} {A : Array Value} (h : KS base w Y) (hg : w.heap.size ≤ g) : KS base w (Y.setRow g A) :=
  ⟨h.os, h.tape, h.output, by have := h.size; simpa [World.setRow] using this, fun i hi hS => by rw [setRow_other _ _ _ _ (by omega)]; exact h.block i hi hS⟩
/-- what calls, and stores of the results' boxes, turn -/
def S2 (base n : Nat) (X w' : World) : Prop := Turns (fun k => STy base X k ∨ k = n + 3 ∨ k = n + 4) X w'
theorem S2.of_ks {base n : Nat} {X Y : World} (h : KS base X Y) : S2 base n X Y := h.imp (fun _k _ hk => .inl hk)
theorem S2.row {base n : Nat} {a b : World} (h : S2 base n a b) {k : Nat} {M : Array Value} {t : TypeId} {fr : Nat × Nat} (hr : a.heap[k]? = some (.cells M t fr)) (h1 : t ≠ 59) (h2 : t ≠ 97) (h3 : t ≠ 76) (hk : k ≠ n + 3 ∧ k ≠ n + 4) : b.heap[k]? = some (.cells M t fr) :=
  Turns.keep h hr (fun hs => by
    rcases hs with ⟨_, M', t', fr', e, ht⟩ | e | e
    · rw [hr] at e
      injection e with e1
      injection e1 with _ e2
      subst e2
      rcases ht with ht | ht | ht
      · exact h1 ht
      · exact h2 ht
      · exact h3 ht
    · exact hk.1 e
    · exact hk.2 e)
theorem S2.set {base n g : Nat} {X Y : World} {A : Array Value} (h : S2 base n X Y) (hg : g = n + 3 ∨ g = n + 4) : S2 base n X (Y.setRow g A) :=
  ⟨h.os, h.tape, h.output, by have := h.size; simpa [World.setRow] using this, fun i hi hS => by
    rw [setRow_other _ _ _ _ (fun e => hS (.inr (by rw [e]; exact hg)))]
    exact h.block i hi hS⟩
/-- the five boxes of step -/
structure SB (w : World) (A0 A1 A2 : Array Value) (X : World) : Prop where
  r0 : X.heap[w.heap.size]? = some (.cells A0 37 (0, 0))
  r1 : X.heap[w.heap.size + 1]? = some (.cells A1 46 (0, 0))
  r2 : X.heap[w.heap.size + 2]? = some (.cells A2 51 (0, 0))
  r3 : X.heap[w.heap.size + 3]? = some (.cells zD 37 (0, 0))
  r4 : X.heap[w.heap.size + 4]? = some (.cells zS 46 (0, 0))
theorem SB.ks {base : Nat} {w X Y : World} {A0 A1 A2 : Array Value} (h : SB w A0 A1 A2 X) (k : KS base X Y) : SB w A0 A1 A2 Y :=
  ⟨k.row h.r0 (by decide) (by decide) (by decide), k.row h.r1 (by decide) (by decide) (by decide), k.row h.r2 (by decide) (by decide) (by decide), k.row h.r3 (by decide) (by decide) (by decide), k.row h.r4 (by decide) (by decide) (by decide)⟩
theorem SB.below {w X Y : World} {A0 A1 A2 : Array Value} (h : SB w A0 A1 A2 X) (k : Below X.heap.size X Y) : SB w A0 A1 A2 Y := h.ks (base := 0) (KS.of_below k)
theorem SB.set0 {w X : World} {A0 A1 A2 B : Array Value} (h : SB w A0 A1 A2 X) : SB w B A1 A2 (X.setRow w.heap.size B) :=
  ⟨setRow_heap _ _ _ _ _ _ h.r0, by rw [setRow_other _ _ _ _ (by omega)]; exact h.r1, by rw [setRow_other _ _ _ _ (by omega)]; exact h.r2, by rw [setRow_other _ _ _ _ (by omega)]; exact h.r3, by rw [setRow_other _ _ _ _ (by omega)]; exact h.r4⟩
theorem five_boxes (w : World) (A0 A1 A2 : Array Value) :
    SB w A0 A1 A2 (((((w.alloc (.cells A0 37)).alloc (.cells A1 46)).alloc (.cells A2 51)).alloc (.cells zD 37)).alloc (.cells zS 46)) ∧
      Below w.heap.size w (((((w.alloc (.cells A0 37)).alloc (.cells A1 46)).alloc (.cells A2 51)).alloc (.cells zD 37)).alloc (.cells zS 46)) ∧
      (((((w.alloc (.cells A0 37)).alloc (.cells A1 46)).alloc (.cells A2 51)).alloc (.cells zD 37)).alloc (.cells zS 46)).heap.size = w.heap.size + 5 := by
  obtain ⟨q1, q2, q3, q4, q5⟩ := threes w (.cells A0 37) (.cells A1 46) (.cells A2 51)
  generalize ((w.alloc (.cells A0 37)).alloc (.cells A1 46)).alloc (.cells A2 51) = w1 at *
  obtain ⟨b1, b2, b3, b4⟩ := two_allocs w1 (.cells zD 37) (.cells zS 46)
  rw [q4] at b1 b2 b3
  exact ⟨⟨Below.keepOld b4 q1, Below.keepOld b4 q2, Below.keepOld b4 q3, b1, b2⟩, q5.trans (b4.mono q5.size), b3⟩
/-- what step leaves -/
def StepS (base db N : Nat) (w : World) (e : Ending) (w' : World) : Prop := ∃ d' s' sb ts p c, e = .returned (.tuple #[.pointer (some ⟨sb, 0, none⟩), .agg (rdA ts d'), .agg (rsA 1 2 s' p c), .bool true]) ∧
  SX base sb db 1 2 d' s' w' ∧ RDB w' ts d' ∧ RBs w' p s'.body.length c s'.body ∧ KS base w w' ∧ FewD d' (N + 4) ∧ BodyOk s'
theorem results_tcct {P : Program} {fn : Func} {p q r s : Tmp} {ty ty' : TypeId} (h : fn.results = #[.tmp s, .cell p ty, .cell q ty', .tmp r]) (tmps : Array Value) (w : World) (g g' : Nat) (t t' : TypeId) (cs cs' : Array Value) (fr fr' : Nat × Nat) (d d' : TypeDesc)
    (hp : tmps.getD p undef = .pointer (some ⟨g, 0, none⟩)) (hq : tmps.getD q undef = .pointer (some ⟨g', 0, none⟩)) (hg : w.heap[g]? = some (.cells cs t fr)) (hg' : w.heap[g']? = some (.cells cs' t' fr'))
    (hu : P.underlying ty = some d) (hd : (match d with | .struct _ | .array _ _ => true | _ => false) = true) (hi : (P.info? ty).map (·.size) = some cs.size)
    (hu' : P.underlying ty' = some d') (hd' : (match d' with | .struct _ | .array _ _ => true | _ => false) = true) (hi' : (P.info? ty').map (·.size) = some cs'.size) :
    (results fn tmps).run P w = .ok (.tuple #[tmps.getD s undef, .agg cs, .agg cs', tmps.getD r undef]) w := by
  have hp' : tmps[p]?.getD undef = .pointer (some ⟨g, 0, none⟩) := by simpa using hp
  have hq' : tmps[q]?.getD undef = .pointer (some ⟨g', 0, none⟩) := by simpa using hq
  simp [results, h, hp', hq', asAddr, run_loadVar_row w g t ty cs fr d hg hu hd hi, run_loadVar_row w g' t' ty' cs' fr' d' hg' hu' hd' hi']
/-- the results' boxes are stored -/
theorem fin21 {w X : World} {base sb db : Nat} {d : DD} {s : SS} {T : List RF} {p : Option Addr} {c : Nat} {A0 A1 A2 : Array Value} (hB : SB w A0 A1 A2 X) (hS : SX base sb db 1 2 d s X) (hR : RDB X T d) (hb : RBs X p s.body.length c s.body) (hK : KS base w X) :
    ((X.setRow (w.heap.size + 3) (rdA T d)).setRow (w.heap.size + 4) (rsA 1 2 s p c)).heap[w.heap.size + 3]? = some (.cells (rdA T d) 37 (0, 0)) ∧
      ((X.setRow (w.heap.size + 3) (rdA T d)).setRow (w.heap.size + 4) (rsA 1 2 s p c)).heap[w.heap.size + 4]? = some (.cells (rsA 1 2 s p c) 46 (0, 0)) ∧
      SX base sb db 1 2 d s ((X.setRow (w.heap.size + 3) (rdA T d)).setRow (w.heap.size + 4) (rsA 1 2 s p c)) ∧ RDB ((X.setRow (w.heap.size + 3) (rdA T d)).setRow (w.heap.size + 4) (rsA 1 2 s p c)) T d ∧
      RBs ((X.setRow (w.heap.size + 3) (rdA T d)).setRow (w.heap.size + 4) (rsA 1 2 s p c)) p s.body.length c s.body ∧ KS base w ((X.setRow (w.heap.size + 3) (rdA T d)).setRow (w.heap.size + 4) (rsA 1 2 s p c)) ∧
      (X.setRow (w.heap.size + 3) (rdA T d)).heap[w.heap.size + 4]? = some (.cells zS 46 (0, 0)) := by
  have hz4 : (X.setRow (w.heap.size + 3) (rdA T d)).heap[w.heap.size + 4]? = some (.cells zS 46 (0, 0)) := by rw [setRow_other _ _ _ _ (by omega)]; exact hB.r4
  have hz3 := setRow_heap _ _ _ (rdA T d) _ _ hB.r3
  have t1 := turns_setRow X (w.heap.size + 3) (rdA T d)
  have hs1 := hS.off t1 hB.r3 (by decide) (by decide) (by decide) (by decide) (by decide)
  have k1 := kr_turn (base := 0) t1 hB.r3 (by decide) (by decide)
  have kk : KS base w (X.setRow (w.heap.size + 3) (rdA T d)) := ks_setRow hK (by omega)
  generalize X.setRow (w.heap.size + 3) (rdA T d) = Y at *
  have t2 := turns_setRow Y (w.heap.size + 4) (rsA 1 2 s p c)
  have hs2 := hs1.off t2 hz4 (by decide) (by decide) (by decide) (by decide) (by decide)
  have k2 := k1.trans (kr_turn (base := 0) t2 hz4 (by decide) (by decide))
  exact ⟨by rw [setRow_other _ _ _ _ (by omega)]; exact hz3, setRow_heap _ _ _ _ _ _ hz4, hs2, hR.step k2, hb.step k2, ks_setRow kk (by omega), hz4⟩
theorem rarm_ox (T : List RF) (d : DD) (n : Int) (w : World) (h : RDB w T d) (hn : n ≤ 9223372036854775807) :
    Calls Tryz.prog 30 #[.agg (rdA T d), .int .i64 n] w (CrOx ⟨d.fs, d.room, n.toNat, d.down⟩ w) :=
  (rarm_any T d n w h.n3 h.m3).mono fun e w' ⟨he, hb⟩ => ⟨T, he, (⟨h.n3, h.m3, h.each, h.room1, (show n.toNat ≤ _ by omega), h.used⟩ : RDB w T ⟨d.fs, d.room, n.toNat, d.down⟩).below hb, hb⟩
theorem ns3 (w : World) (x y z : Int) (hx : -9223372036854775808 ≤ x ∧ x ≤ 9223372036854775807) (hy : -9223372036854775808 ≤ y ∧ y ≤ 9223372036854775807) (hz : -9223372036854775808 ≤ z ∧ z ≤ 9223372036854775807) : Ns (w.alloc (.cells #[.int .i64 x, .int .i64 y, .int .i64 z] 3)) (some ⟨w.heap.size, 0, none⟩) [x, y, z].length 3 [x, y, z] :=
  ns_lit w 3 [x, y, z] (show 3 ≤ 65536 by decide) (fun u hu => by
    simp only [List.mem_cons, List.not_mem_nil, or_false] at hu
    rcases hu with rfl | rfl | rfl
    · exact hx
    · exact hy
    · exact hz)
/-- three numbers on the way to a crash are no disk's -/
theorem own3 (base : Nat) (w : World) (x y z : Int) : ∀ a, some (⟨w.heap.size, 0, none⟩ : Addr) = some a → ¬ DTy base (w.alloc (.cells #[.int .i64 x, .int .i64 y, .int .i64 z] 3)) a.block ∧ a.block < (w.alloc (.cells #[.int .i64 x, .int .i64 y, .int .i64 z] 3)).heap.size := fun a ha => by
  obtain rfl := Option.some.inj ha
  refine ⟨fun hk => ?_, by simp⟩
  obtain ⟨_, M, t, fr, e, ht⟩ := hk
  have e0 := heap_alloc_last w (.cells #[.int .i64 x, .int .i64 y, .int .i64 z] 3)
  rw [e0] at e
  injection e with e1
  injection e1 with _ e2
  subst e2
  rcases ht with h | h <;> exact absurd h (by decide)
theorem tmod2 (n : Int) : n.tmod 2 = n % 2 ∨ n.tmod 2 = n % 2 - 2 := by
  by_cases h : 0 ≤ n
  · exact .inl (Int.tmod_eq_emod_of_nonneg h)
  · have h1 : n.tmod 2 = -((-n).tmod 2) := by rw [Int.neg_tmod, Int.neg_neg]
    have h2 := Int.tmod_eq_emod_of_nonneg (a := -n) (b := 2) (by omega)
    rw [h1, h2]; omega
theorem wh_is (n : Int) : wrap64 (1 + (wrap64 (n.tmod 2 + 2)).tmod 2) = (wh n : Int) := by
  have h1 := tmod2 n
  have h2 : wrap64 (n.tmod 2 + 2) = n.tmod 2 + 2 := by
    generalize n.tmod 2 = m at *
    unfold wrap64; omega
  rw [h2, Int.tmod_eq_emod_of_nonneg (a := n.tmod 2 + 2) (b := 2) (by generalize n.tmod 2 = m at *; omega)]
  generalize n.tmod 2 = m at *
  unfold wrap64 wh
  omega
set_option maxRecDepth 100000 in
set_option maxHeartbeats 400000 in
theorem which_any (n : Int) (_hn : -9223372036854775808 ≤ n ∧ n ≤ 9223372036854775807) (w : World) : Calls Tryz.prog 28 #[.int .i64 n] w fun e w' => e = .returned (.int .i64 (wh n : Int)) ∧ w = w' := by
  go_enter Tryz.func28, Tryz.ntmps28
  go_wp2_with fail
  go_ret
  refine ⟨?_, rfl⟩
  show Ending.returned (Value.int .i64 (wrap64 (1 + (wrap64 (n.tmod 2 + 2)).tmod 2))) = _
  rw [wh_is]
end Go.Proofs.YtgmahahhkaofbaaGreatDoor.Slt
