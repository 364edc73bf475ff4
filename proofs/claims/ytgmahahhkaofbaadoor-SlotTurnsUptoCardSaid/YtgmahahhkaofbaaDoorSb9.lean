/- PARTS, JOINED: PLAIN PART OF SlotKeeps: snapshots put while a fuse burns, and what a crash leaves. Conditions: none. LAYER 21: the statement's own words: alive; a disk made, armed, crashed. Conditions: the laid cell of errors.errorType. PLAIN PART OF SlotTurns: how the disk stands, and where turns begin. Conditions: none. THE WALKS OF THE REFERENCE's SMALL WORDS ON PARTS: Few, Join. Conditions: sizes that fit. LAYER 21: SlotKeeps: whatever crashes, and whenever. Conditions: the laid cell of errors.errorType; a bulk that an int holds. WHAT THE BOUND OF AN '..UptoSaid' GIVES: sizes of what came in. Conditions: the bound. LAYER 21: SlotTurns: turns go up by one, files take turns, a snapshot that is told is one's own. Conditions: the laid cell of errors.errorType; a bulk that an int holds. -/
import Derived.Test.YtgmahahhkaofbaaDoorSb1
import Derived.Test.YtgmahahhkaofbaaDoorSb2
import Derived.Test.YtgmahahhkaofbaaDoorSb3
import Derived.Test.YtgmahahhkaofbaaDoorSb4
import Derived.Test.YtgmahahhkaofbaaDoorSb5
import Derived.Test.YtgmahahhkaofbaaDoorSb6
import Derived.Test.YtgmahahhkaofbaaDoorSb7
import Derived.Test.YtgmahahhkaofbaaDoorSb8
import Derived.Test.YtgmahahhkaofbaaDoorProg
import Derived.Test.YtgmahahhkaofbaaDoorRows
namespace Go.Proofs.YtgmahahhkaofbaaDoor.Slt
open Go.RowKit Go.Mir Dk Rol Wr
open Frm (frame one frame_length one_frame0 one_torn)

/-- the same files, another fuse -/
def wF (d : DD) (fz : Nat) (dn : Bool) : DD := ⟨d.fs, d.room, fz, dn⟩
theorem do_fz {d : DD} {i : Nat} {f : FD} {s : St} (h1 : d.down = false) (h : usedL d.fs - f.need + max f.need (s.size f.now.length) ≤ d.room) :
    (doE d i f s = 0 ∧ doD d i f s = wF (setF d i (f.take s)) (d.fuse - 1) false) ∨ (doE d i f s = 18 ∧ doD d i f s = wF (setF d i (f.take s)) 0 true) := by
  obtain ⟨fs, room, fuse, down⟩ := d
  have h1 : down = false := h1
  subst h1
  unfold doE doD
  rw [if_neg (show ¬ (DD.mk fs room fuse false).down = true from Bool.false_ne_true), if_neg (Nat.not_lt.2 h), if_neg (show ¬ (DD.mk fs room fuse false).down = true from Bool.false_ne_true), if_neg (Nat.not_lt.2 h)]
  unfold DD.burn setF wF
  dsimp only
  by_cases h0 : 0 < fuse
  · rw [if_pos h0]
    by_cases h2 : fuse = 1
    · subst h2; exact .inr ⟨rfl, rfl⟩
    · rw [decide_eq_false h2]; exact .inl ⟨rfl, rfl⟩
  · obtain rfl : fuse = 0 := by omega
    exact .inl ⟨rfl, rfl⟩
theorem sync_fz {d : DD} {i : Nat} {f : FD} (h1 : d.down = false) :
    (syncE d = 0 ∧ syncD d i f = wF (setF d i (f.settle (unitsAll f.steps))) (d.fuse - 1) false) ∨ (syncE d = 18 ∧ syncD d i f = wF d 0 true) := by
  obtain ⟨fs, room, fuse, down⟩ := d
  have h1 : down = false := h1
  subst h1
  unfold syncE syncD
  rw [if_neg (show ¬ (DD.mk fs room fuse false).down = true from Bool.false_ne_true), if_neg (show ¬ (DD.mk fs room fuse false).down = true from Bool.false_ne_true)]
  unfold DD.burn setF wF
  dsimp only
  by_cases h0 : 0 < fuse
  · rw [if_pos h0]
    by_cases h2 : fuse = 1
    · subst h2; exact .inr ⟨rfl, rfl⟩
    · rw [decide_eq_false h2]; exact .inl ⟨rfl, rfl⟩
  · obtain rfl : fuse = 0 := by omega
    exact .inl ⟨rfl, rfl⟩
theorem lay_nil (i : Nat) (d : DD) : layD i [] d = d := rfl
theorem wF_wF (d : DD) (a b : Nat) (x y : Bool) : wF (wF d a x) b y = wF d b y := rfl
theorem setF_wF (d : DD) (a : Nat) (x : Bool) (i : Nat) (f : FD) : setF (wF d a x) i f = wF (setF d i f) a x := rfl
theorem fD_wF (d : DD) (a : Nat) (x : Bool) (i : Nat) : fD (wF d a x) i = fD d i := rfl
/-- how a file stands in which the disk went down -/
def Torn (y fr : List UInt8) (g : FD) : Prop := g = ⟨y, [], [.cut 0], y.length⟩ ∨ g = ⟨[], fr, [.put fr], fr.length⟩
theorem put2_fz {d : DD} {i : Nat} {fr : List UInt8} (hi : i < d.fs.length) (h1 : d.down = false) (hf : fD d i = fS []) (hr : usedL d.fs + fr.length ≤ d.room) :
    (∃ k, layE i [.put fr, .sync] d = 0 ∧ layD i [.put fr, .sync] d = wF (setF d i (fS fr)) k false) ∨ (layE i [.put fr, .sync] d = 18 ∧ layD i [.put fr, .sync] d = wF (setF d i ⟨[], fr, [.put fr], fr.length⟩) 0 true) := by
  have ht : (fS []).take (.put fr) = ⟨[], fr, [.put fr], fr.length⟩ := by rw [take_put, List.nil_append, List.length_nil, Nat.zero_add]
  have hst : (⟨[], fr, [.put fr], fr.length⟩ : FD).settle (unitsAll [.put fr]) = fS fr := by
    have := settle_put [] fr fr.length
    rwa [List.nil_append] at this
  rcases do_fz (i := i) (f := fD d i) (s := .put fr) h1 (by rw [hf]; show usedL d.fs - 0 + max 0 (0 + fr.length) ≤ _; omega) with ⟨e1, e2⟩ | ⟨e1, e2⟩
  · rw [hf, ht] at e2
    have e1' : stpE d i (.put fr) = 0 := e1
    have e2' : stpD d i (.put fr) = wF (setF d i ⟨[], fr, [.put fr], fr.length⟩) (d.fuse - 1) false := by
      show doD d i (fD d i) (.put fr) = _
      rw [hf]; exact e2
    obtain ⟨c1, c2⟩ := lay_ok (r := [.sync]) e1'
    rw [c1, c2, e2']
    have hfd : fD (wF (setF d i ⟨[], fr, [.put fr], fr.length⟩) (d.fuse - 1) false) i = ⟨[], fr, [.put fr], fr.length⟩ := fD_set hi _
    rcases sync_fz (d := wF (setF d i ⟨[], fr, [.put fr], fr.length⟩) (d.fuse - 1) false) (i := i) (f := ⟨[], fr, [.put fr], fr.length⟩) rfl with ⟨g1, g2⟩ | ⟨g1, g2⟩
    · rw [hst, setF_wF, setF_setF, wF_wF] at g2
      obtain ⟨k1, k2⟩ := lay_ok (i := i) (a := .sync) (r := []) (d := wF (setF d i ⟨[], fr, [.put fr], fr.length⟩) (d.fuse - 1) false) g1
      rw [k1, k2]
      refine .inl ⟨d.fuse - 1 - 1, rfl, ?_⟩
      rw [lay_nil]
      show syncD _ i (fD _ i) = _
      rw [hfd]; exact g2
    · rw [wF_wF] at g2
      have hne : ¬ stpE (wF (setF d i ⟨[], fr, [.put fr], fr.length⟩) (d.fuse - 1) false) i .sync = 0 := by
        show ¬ syncE _ = 0
        rw [g1]; decide
      obtain ⟨k1, k2⟩ := lay_no (r := []) hne
      rw [k1, k2]
      refine .inr ⟨g1, ?_⟩
      show syncD _ i (fD _ i) = _
      rw [hfd]; exact g2
  · rw [hf, ht] at e2
    have hne : ¬ stpE d i (.put fr) = 0 := by
      show ¬ doE d i (fD d i) (.put fr) = 0
      rw [e1]; decide
    obtain ⟨c1, c2⟩ := lay_no (r := [.sync]) hne
    rw [c1, c2]
    refine .inr ⟨e1, ?_⟩
    show doD d i (fD d i) (.put fr) = _
    rw [hf]; exact e2
theorem lay_fz {d : DD} {i : Nat} {y fr : List UInt8} (hi : i < d.fs.length) (h1 : d.down = false) (hf : fD d i = fS y) (hr : usedL d.fs + fr.length ≤ d.room) :
    (∃ k, layE i (acts d i fr) d = 0 ∧ layD i (acts d i fr) d = wF (setF d i (fS fr)) k false) ∨ (layE i (acts d i fr) d = 18 ∧ ∃ g, Torn y fr g ∧ layD i (acts d i fr) d = wF (setF d i g) 0 true) := by
  have hm := usedL_mem hi
  rw [fD_eq hi, hf] at hm
  have hm : y.length ≤ usedL d.fs := hm
  unfold acts
  by_cases hfu : full d i = true
  · rw [if_pos hfu]
    have ht : (fS y).take (.cut 0) = ⟨y, [], [.cut 0], y.length⟩ := by rw [take_cut y 0 (Nat.zero_le _), List.take_zero]
    have hst : (⟨y, [], [.cut 0], y.length⟩ : FD).settle (unitsAll [.cut 0]) = fS [] := by
      have := settle_cut y 0 y.length
      rwa [List.take_zero] at this
    rcases do_fz (i := i) (f := fD d i) (s := .cut 0) h1 (by rw [hf]; show usedL d.fs - y.length + max y.length 0 ≤ _; omega) with ⟨e1, e2⟩ | ⟨e1, e2⟩
    · rw [hf, ht] at e2
      have e1' : stpE d i .cut = 0 := e1
      have e2' : stpD d i .cut = wF (setF d i ⟨y, [], [.cut 0], y.length⟩) (d.fuse - 1) false := by
        show doD d i (fD d i) (.cut 0) = _
        rw [hf]; exact e2
      obtain ⟨c1, c2⟩ := lay_ok (r := [.sync, .put fr, .sync]) e1'
      rw [c1, c2, e2']
      have hfd : fD (wF (setF d i ⟨y, [], [.cut 0], y.length⟩) (d.fuse - 1) false) i = ⟨y, [], [.cut 0], y.length⟩ := fD_set hi _
      rcases sync_fz (d := wF (setF d i ⟨y, [], [.cut 0], y.length⟩) (d.fuse - 1) false) (i := i) (f := ⟨y, [], [.cut 0], y.length⟩) rfl with ⟨g1, g2⟩ | ⟨g1, g2⟩
      · rw [hst, setF_wF, setF_setF, wF_wF] at g2
        have g2' : stpD (wF (setF d i ⟨y, [], [.cut 0], y.length⟩) (d.fuse - 1) false) i .sync = wF (setF d i (fS [])) (d.fuse - 1 - 1) false := by
          show syncD _ i (fD _ i) = _
          rw [hfd]; exact g2
        obtain ⟨k1, k2⟩ := lay_ok (i := i) (a := .sync) (r := [.put fr, .sync]) (d := wF (setF d i ⟨y, [], [.cut 0], y.length⟩) (d.fuse - 1) false) g1
        rw [k1, k2, g2']
        have hu := used_setF hi (fS [])
        have hz : (fS []).need = 0 := rfl
        have hl : (wF (setF d i (fS [])) (d.fuse - 1 - 1) false).fs.length = d.fs.length := List.length_set
        have := put2_fz (d := wF (setF d i (fS [])) (d.fuse - 1 - 1) false) (i := i) (fr := fr) (by rw [hl]; exact hi) rfl (fD_set hi _) (by show usedL (setF d i (fS [])).fs + _ ≤ d.room; omega)
        rw [setF_wF, setF_setF, setF_wF, setF_setF] at this
        rcases this with ⟨k, a, b⟩ | ⟨a, b⟩
        · exact .inl ⟨k, a, b⟩
        · exact .inr ⟨a, _, .inr rfl, b⟩
      · rw [wF_wF] at g2
        have hne : ¬ stpE (wF (setF d i ⟨y, [], [.cut 0], y.length⟩) (d.fuse - 1) false) i .sync = 0 := by
          show ¬ syncE _ = 0
          rw [g1]; decide
        obtain ⟨k1, k2⟩ := lay_no (r := [.put fr, .sync]) hne
        rw [k1, k2]
        refine .inr ⟨g1, _, .inl rfl, ?_⟩
        show syncD _ i (fD _ i) = _
        rw [hfd]; exact g2
    · rw [hf, ht] at e2
      have hne : ¬ stpE d i .cut = 0 := by
        show ¬ doE d i (fD d i) (.cut 0) = 0
        rw [e1]; decide
      obtain ⟨c1, c2⟩ := lay_no (r := [.sync, .put fr, .sync]) hne
      rw [c1, c2]
      refine .inr ⟨e1, _, .inl rfl, ?_⟩
      show doD d i (fD d i) (.cut 0) = _
      rw [hf]; exact e2
  · rw [if_neg hfu]
    have hn0 : y = [] := by
      refine List.length_eq_zero_iff.1 (Nat.eq_zero_of_not_pos fun h => hfu ?_)
      unfold full
      rw [hf, decide_eq_true (show 0 < (fS y).now.length from h)]
      rfl
    subst hn0
    rcases put2_fz hi h1 hf hr with ⟨k, a, b⟩ | ⟨a, b⟩
    · exact .inl ⟨k, a, b⟩
    · exact .inr ⟨a, _, .inr rfl, b⟩
theorem lay_dn {d : DD} {i : Nat} {fr : List UInt8} (h1 : d.down = true) : layE i (acts d i fr) d = 18 ∧ layD i (acts d i fr) d = d := by
  have h18 : ¬ (18 : Int) = 0 := by decide
  unfold acts
  split
  · obtain ⟨a, b⟩ := do_dn (i := i) (f := fD d i) (s := .cut 0) h1
    have hne : ¬ stpE d i .cut = 0 := by show ¬ doE _ _ _ _ = 0; rw [b]; exact h18
    obtain ⟨c1, c2⟩ := lay_no (r := [.sync, .put fr, .sync]) hne
    rw [c1, c2]; exact ⟨b, a⟩
  · obtain ⟨a, b⟩ := do_dn (i := i) (f := fD d i) (s := .put fr) h1
    have hne : ¬ stpE d i (.put fr) = 0 := by show ¬ doE _ _ _ _ = 0; rw [b]; exact h18
    obtain ⟨c1, c2⟩ := lay_no (r := [.sync]) hne
    rw [c1, c2]; exact ⟨b, a⟩
/-! ### which snapshot is told -/
def opS (y1 y2 : List UInt8) : SS := bet (bet ⟨-1, 0, []⟩ 1 y1) 2 y2
theorem opnS_is (d : DD) : opnS d 1 2 = opS (fD d 1).now (fD d 2).now := rfl
/-- of these contents s is told -/
structure Cur (y1 y2 : List UInt8) (s : SS) : Prop where
  how : (s = ⟨-1, 0, []⟩ ∧ (loadP y1).1 = 0 ∧ (loadP y2).1 = 0) ∨ (s.now = 1 ∧ 1 ≤ s.turn ∧ loadP y1 = (s.turn, s.body) ∧ (loadP y2).1 < s.turn) ∨ (s.now = 2 ∧ 1 ≤ s.turn ∧ loadP y2 = (s.turn, s.body) ∧ (loadP y1).1 < s.turn)
theorem bet_no {s : SS} {f : Nat} {l : List UInt8} (h : (loadP l).1 ≤ s.turn) : bet s f l = s := if_neg (by omega)
theorem Cur.op {y1 y2 : List UInt8} {s : SS} (h : Cur y1 y2 s) : opS y1 y2 = s := by
  obtain ⟨now, turn, body⟩ := s
  unfold opS
  rcases h.how with ⟨e, a, b⟩ | ⟨e, h1, a, b⟩ | ⟨e, h1, a, b⟩
  · rw [bet_no (s := ⟨-1, 0, []⟩) (f := 1) (l := y1) (by rw [a]; exact Nat.zero_le _), bet_no (by rw [b]; exact Nat.zero_le _), e]
  · have e : now = 1 := e
    have a : loadP y1 = (turn, body) := a
    subst e
    have h2 : bet ⟨-1, 0, []⟩ 1 y1 = ⟨1, turn, body⟩ := by unfold bet; rw [a]; exact if_pos h1
    rw [h2]
    exact bet_no (Nat.le_of_lt b)
  · have e : now = 2 := e
    have a : loadP y2 = (turn, body) := a
    have b : (loadP y1).1 < turn := b
    subst e
    have h2 : (bet ⟨-1, 0, []⟩ 1 y1).turn < turn := by
      unfold bet
      split
      · exact b
      · exact h1
    unfold bet at h2 ⊢
    rw [a]
    exact if_pos h2
/-- the file that is not current holds another content that tells no turn -/
theorem Cur.other {y1 y2 : List UInt8} {s : SS} (h : Cur y1 y2 s) (z : List UInt8) (hz : (loadP z).1 = 0) : (nxt s 1 2 = 1 ∧ Cur z y2 s) ∨ (nxt s 1 2 = 2 ∧ Cur y1 z s) := by
  obtain ⟨now, turn, body⟩ := s
  rcases h.how with ⟨e, a, b⟩ | ⟨e, h1, a, b⟩ | ⟨e, h1, a, b⟩
  · refine .inl ⟨?_, ⟨.inl ⟨e, hz, b⟩⟩⟩
    rw [e]; rfl
  · have e : now = 1 := e
    subst e
    exact .inr ⟨rfl, ⟨.inr (.inl ⟨rfl, h1, a, by rw [hz]; exact h1⟩)⟩⟩
  · have e : now = 2 := e
    subst e
    exact .inl ⟨rfl, ⟨.inr (.inr ⟨rfl, h1, a, by rw [hz]; exact h1⟩)⟩⟩
/-- it holds the next snapshot -/
theorem Cur.next {y1 y2 : List UInt8} {s : SS} (h : Cur y1 y2 s) (x : List UInt8) (hx : x.length ≤ 65528) (ht : s.turn + 1 < 18446744073709551616) :
    (nxt s 1 2 = 1 ∧ Cur (wrapB s x) y2 ⟨1, s.turn + 1, x⟩) ∨ (nxt s 1 2 = 2 ∧ Cur y1 (wrapB s x) ⟨2, s.turn + 1, x⟩) := by
  have hl : loadP (wrapB s x) = (s.turn + 1, x) := load_frame _ _ ht hx
  obtain ⟨now, turn, body⟩ := s
  rcases h.how with ⟨e, a, b⟩ | ⟨e, h1, a, b⟩ | ⟨e, h1, a, b⟩
  · refine .inl ⟨by rw [e]; rfl, ⟨.inr (.inl ⟨rfl, by show 1 ≤ turn + 1; omega, hl, by show _ < turn + 1; omega⟩)⟩⟩
  · have e : now = 1 := e
    subst e
    exact .inr ⟨rfl, ⟨.inr (.inr ⟨rfl, by show 1 ≤ turn + 1; omega, hl, by rw [a]; show turn < turn + 1; omega⟩)⟩⟩
  · have e : now = 2 := e
    subst e
    exact .inl ⟨rfl, ⟨.inr (.inl ⟨rfl, by show 1 ≤ turn + 1; omega, hl, by rw [a]; show turn < turn + 1; omega⟩)⟩⟩
/-! ### the disk of two files -/
structure Up (d : DD) (y1 y2 : List UInt8) (s : SS) : Prop where
  m3 : d.fs.length = 3
  room : d.room = 65536
  f0 : fD d 0 = FD.none
  f1 : fD d 1 = fS y1
  f2 : fD d 2 = fS y2
  cur : Cur y1 y2 s
theorem used3 {d : DD} (h : d.fs.length = 3) : usedL d.fs = (fD d 0).need + (fD d 1).need + (fD d 2).need := by
  obtain ⟨fs, room, fuse, down⟩ := d
  obtain ⟨a, b, c, rfl⟩ := list3 h
  show a.need + (b.need + (c.need + 0)) = a.need + b.need + c.need
  omega
theorem Up.used {d : DD} {y1 y2 : List UInt8} {s : SS} (h : Up d y1 y2 s) : usedL d.fs = y1.length + y2.length := by
  rw [used3 h.m3, h.f0, h.f1, h.f2]
  show 0 + y1.length + y2.length = _
  omega
theorem Up.wF {d : DD} {y1 y2 : List UInt8} {s : SS} (h : Up d y1 y2 s) (k : Nat) (x : Bool) : Up (wF d k x) y1 y2 s := ⟨h.m3, h.room, h.f0, h.f1, h.f2, h.cur⟩
theorem wrapB_len (s : SS) (x : List UInt8) : (wrapB s x).length = 16 + x.length := by unfold wrapB; rw [frame_length, List.length_append, be_length]; omega
/-- how the disk stands when it went down while a snapshot was put -/
structure Dn (d : DD) (s : SS) (x : List UInt8) : Prop where
  down : d.down = true
  was : ∃ d0 y1 y2 g, Up d0 y1 y2 s ∧ d = Slt.wF (setF d0 (nxt s 1 2) g) 0 true ∧ Torn (if nxt s 1 2 = 1 then y1 else y2) (wrapB s x) g ∧ y1.length ≤ 2000 ∧ y2.length ≤ 2000
theorem nxt12 (s : SS) : nxt s 1 2 = 1 ∨ nxt s 1 2 = 2 := by unfold nxt; split; exact .inr rfl; exact .inl rfl
/-- a snapshot put: it is there, or the disk went down -/
theorem put_keeps {d : DD} {y1 y2 : List UInt8} {s : SS} {x : List UInt8} (h : Up d y1 y2 s) (h1 : d.down = false) (l1 : y1.length ≤ 2000) (l2 : y2.length ≤ 2000) (hx : x.length ≤ 1000) (ht : s.turn + 1 < 18446744073709551616) :
    (putSE d s 1 2 x = 0 ∧ (∃ z1 z2, Up (putSD d s 1 2 x) z1 z2 (putSS d s 1 2 x) ∧ z1.length ≤ 2000 ∧ z2.length ≤ 2000) ∧ (putSD d s 1 2 x).down = false ∧ (putSS d s 1 2 x).turn = s.turn + 1 ∧ (putSS d s 1 2 x).body = x) ∨
    (putSE d s 1 2 x = 18 ∧ Dn (putSD d s 1 2 x) s x ∧ putSS d s 1 2 x = s) := by
  have hf : fits s x = true := by unfold fits; rw [decide_eq_true (by omega), decide_eq_true ht]; rfl
  have hw := wrapB_len s x
  have hu := h.used
  have hi : nxt s 1 2 < d.fs.length := by rcases nxt12 s with e | e <;> rw [e, h.m3] <;> omega
  have hfi : fD d (nxt s 1 2) = fS (if nxt s 1 2 = 1 then y1 else y2) := by
    rcases nxt12 s with e | e
    · rw [e]; exact h.f1
    · rw [e]; exact h.f2
  unfold putSE putSD putSS
  rw [if_pos hf, if_pos hf]
  rcases lay_fz hi h1 hfi (fr := wrapB s x) (by rw [h.room]; omega) with ⟨k, e1, e2⟩ | ⟨e1, g, hg, e2⟩
  · refine .inl ⟨e1, ?_, by rw [e2]; rfl, by rw [if_pos ⟨hf, e1⟩], by rw [if_pos ⟨hf, e1⟩]⟩
    rw [if_pos ⟨hf, e1⟩, e2]
    rcases h.cur.next x (by omega) ht with ⟨e, c⟩ | ⟨e, c⟩
    · rw [e] at hi ⊢
      exact ⟨wrapB s x, y2, ⟨by show (List.set _ _ _).length = 3; rw [List.length_set]; exact h.m3, h.room, by rw [fD_wF, fD_other (by omega)]; exact h.f0, by rw [fD_wF]; exact fD_set hi _, by rw [fD_wF, fD_other (by omega)]; exact h.f2, c⟩, by omega, l2⟩
    · rw [e] at hi ⊢
      exact ⟨y1, wrapB s x, ⟨by show (List.set _ _ _).length = 3; rw [List.length_set]; exact h.m3, h.room, by rw [fD_wF, fD_other (by omega)]; exact h.f0, by rw [fD_wF, fD_other (by omega)]; exact h.f1, by rw [fD_wF]; exact fD_set hi _, c⟩, l1, by omega⟩
  · refine .inr ⟨e1, ⟨by rw [e2]; rfl, d, y1, y2, g, h, e2, hg, l1, l2⟩, ?_⟩
    rw [if_neg (fun hh => by rw [e1] at hh; exact absurd hh.2 (by decide))]
/-- a snapshot put on a disk that is down -/
theorem put_down {d : DD} {s : SS} {x : List UInt8} (h1 : d.down = true) (hx : x.length ≤ 1000) (ht : s.turn + 1 < 18446744073709551616) : putSE d s 1 2 x = 18 ∧ putSD d s 1 2 x = d ∧ putSS d s 1 2 x = s := by
  have hf : fits s x = true := by unfold fits; rw [decide_eq_true (by omega), decide_eq_true ht]; rfl
  obtain ⟨e1, e2⟩ := lay_dn (i := nxt s 1 2) (fr := wrapB s x) h1
  unfold putSE putSD putSS
  rw [if_pos hf, if_pos hf, if_neg (fun hh => by rw [e1] at hh; exact absurd hh.2 (by decide))]
  exact ⟨e1, e2, rfl⟩
/-! ### a crash -/
theorem fD_crash {us : List Int} {d : DD} (h : d.fs.length = 3) (k : Nat) (hk : k < 3) : fD (crashD us d) k = (fD d k).settle (crU us k (fD d k)) := by
  obtain ⟨fs, room, fuse, down⟩ := d
  obtain ⟨a, b, c, rfl⟩ := list3 h
  match k, hk with
  | 0, _ => rfl
  | 1, _ => rfl
  | 2, _ => rfl
theorem settle_fS (y : List UInt8) (u : Nat) : (fS y).settle u = fS y := rfl
theorem torn_settle {y fr : List UInt8} {g : FD} (h : Torn y fr g) (u : Nat) (hu : u ≤ unitsAll g.steps) : ∃ z, g.settle u = fS z ∧ (z = y ∨ z = [] ∨ ∃ k, k ≤ fr.length ∧ z = fr.take k) := by
  rcases h with rfl | rfl
  · refine ⟨someU y [.cut 0] u, rfl, ?_⟩
    show (if min u 1 = 0 then y else y.take 0) = y ∨ (if min u 1 = 0 then y else y.take 0) = [] ∨ _
    split
    · exact .inl rfl
    · exact .inr (.inl List.take_zero)
  · have hu : u ≤ fr.length + 0 := hu
    have e : someU [] [.put fr] u = fr.take u := by
      show (St.put fr).act [] (min u fr.length) = _
      rw [Nat.min_eq_left (by omega)]; rfl
    refine ⟨fr.take u, ?_, .inr (.inr ⟨u, by omega, rfl⟩)⟩
    show (⟨someU [] _ _, someU [] _ _, [], (someU [] _ _).length⟩ : FD) = _
    rw [e]; rfl
theorem Up.crash {d : DD} {y1 y2 : List UInt8} {s : SS} (h : Up d y1 y2 s) (us : List Int) : Up (crashD us d) y1 y2 s := by
  have e0 := fD_crash (us := us) h.m3 0 (by omega)
  have e1 := fD_crash (us := us) h.m3 1 (by omega)
  have e2 := fD_crash (us := us) h.m3 2 (by omega)
  rw [h.f0] at e0
  rw [h.f1, settle_fS] at e1
  rw [h.f2, settle_fS] at e2
  refine ⟨?_, h.room, e0, e1, e2, h.cur⟩
  obtain ⟨fs, room, fuse, down⟩ := d
  obtain ⟨a, b, c, rfl⟩ := list3 h.m3
  rfl
theorem Up.told {d : DD} {y1 y2 : List UInt8} {s : SS} (h : Up d y1 y2 s) : opnS d 1 2 = s := by
  rw [opnS_is, h.f1, h.f2]
  exact h.cur.op
/-- what is told behind a crash, of a disk that went down while a snapshot was put: the old one, or that one -/
theorem Dn.crash {d : DD} {s : SS} {x : List UInt8} (h : Dn d s x) (hx : x.length ≤ 1000) (ht : s.turn + 1 < 18446744073709551616) (us : List Int) :
    ∃ z1 z2 s', Up (crashD us d) z1 z2 s' ∧ z1.length ≤ 2000 ∧ z2.length ≤ 2000 ∧ (s' = s ∨ (s'.turn = s.turn + 1 ∧ s'.body = x)) := by
  obtain ⟨d0, y1, y2, g, hu, rfl, hg, l1, l2⟩ := h.was
  have hw := wrapB_len s x
  have hm : (Slt.wF (setF d0 (nxt s 1 2) g) 0 true).fs.length = 3 := by show (List.set _ _ _).length = 3; rw [List.length_set]; exact hu.m3
  have e0 := fD_crash (us := us) hm 0 (by omega)
  have e1 := fD_crash (us := us) hm 1 (by omega)
  have e2 := fD_crash (us := us) hm 2 (by omega)
  have hm3 : (crashD us (Slt.wF (setF d0 (nxt s 1 2) g) 0 true)).fs.length = 3 := by
    generalize Slt.wF (setF d0 (nxt s 1 2) g) 0 true = D at hm
    obtain ⟨fs, room, fuse, down⟩ := D
    obtain ⟨a, b, c, rfl⟩ := list3 hm
    rfl
  have hi : nxt s 1 2 < d0.fs.length := by rcases nxt12 s with e | e <;> rw [e, hu.m3] <;> omega
  have hroom : (crashD us (Slt.wF (setF d0 (nxt s 1 2) g) 0 true)).room = 65536 := hu.room
  have hz0 : ∀ k, k < (wrapB s x).length → (loadP ((wrapB s x).take k)).1 = 0 := fun k hk => by
    have := load_torn (s.turn + 1) x (by omega) k (by omega)
    unfold wrapB
    rw [this]
  rcases nxt12 s with e | e
  · rw [e] at hi hg e0 e1 e2 hm3 hroom ⊢
    rw [fD_wF, fD_other (by omega), hu.f0] at e0
    rw [fD_wF, fD_other (by omega), hu.f2, settle_fS] at e2
    rw [fD_wF, fD_set hi] at e1
    obtain ⟨z, hz, hc⟩ := torn_settle hg _ (crU_le (us := us) (k := 1) (f := g))
    rw [hz] at e1
    rw [if_pos rfl] at hc
    have mk : ∀ s', Cur z y2 s' → Up (crashD us (Slt.wF (setF d0 1 g) 0 true)) z y2 s' := fun s' c => ⟨hm3, hroom, e0, e1, e2, c⟩
    rcases hc with rfl | rfl | ⟨k, hk, rfl⟩
    · exact ⟨_, _, s, mk _ hu.cur, l1, l2, .inl rfl⟩
    · rcases hu.cur.other [] rfl with ⟨_, c⟩ | ⟨q, _⟩
      · exact ⟨_, _, s, mk _ c, by simp, l2, .inl rfl⟩
      · rw [e] at q; exact absurd q (by decide)
    · have hlk : ((wrapB s x).take k).length ≤ 2000 := by rw [List.length_take]; omega
      by_cases hkl : k < (wrapB s x).length
      · rcases hu.cur.other _ (hz0 k hkl) with ⟨_, c⟩ | ⟨q, _⟩
        · exact ⟨_, _, s, mk _ c, hlk, l2, .inl rfl⟩
        · rw [e] at q; exact absurd q (by decide)
      · have hall : (wrapB s x).take k = wrapB s x := List.take_of_length_le (by omega)
        rw [hall] at mk hlk
        rcases hu.cur.next x (by omega) ht with ⟨_, c⟩ | ⟨q, _⟩
        · exact ⟨_, _, _, mk _ c, hlk, l2, .inr ⟨rfl, rfl⟩⟩
        · rw [e] at q; exact absurd q (by decide)
  · rw [e] at hi hg e0 e1 e2 hm3 hroom ⊢
    rw [fD_wF, fD_other (by omega), hu.f0] at e0
    rw [fD_wF, fD_other (by omega), hu.f1, settle_fS] at e1
    rw [fD_wF, fD_set hi] at e2
    obtain ⟨z, hz, hc⟩ := torn_settle hg _ (crU_le (us := us) (k := 2) (f := g))
    rw [hz] at e2
    rw [if_neg (by decide)] at hc
    have mk : ∀ s', Cur y1 z s' → Up (crashD us (Slt.wF (setF d0 2 g) 0 true)) y1 z s' := fun s' c => ⟨hm3, hroom, e0, e1, e2, c⟩
    rcases hc with rfl | rfl | ⟨k, hk, rfl⟩
    · exact ⟨_, _, s, mk _ hu.cur, l1, l2, .inl rfl⟩
    · rcases hu.cur.other [] rfl with ⟨q, _⟩ | ⟨_, c⟩
      · rw [e] at q; exact absurd q (by decide)
      · exact ⟨_, _, s, mk _ c, l1, by simp, .inl rfl⟩
    · have hlk : ((wrapB s x).take k).length ≤ 2000 := by rw [List.length_take]; omega
      by_cases hkl : k < (wrapB s x).length
      · rcases hu.cur.other _ (hz0 k hkl) with ⟨q, _⟩ | ⟨_, c⟩
        · rw [e] at q; exact absurd q (by decide)
        · exact ⟨_, _, s, mk _ c, l1, hlk, .inl rfl⟩
      · have hall : (wrapB s x).take k = wrapB s x := List.take_of_length_le (by omega)
        rw [hall] at mk hlk
        rcases hu.cur.next x (by omega) ht with ⟨q, _⟩ | ⟨_, c⟩
        · rw [e] at q; exact absurd q (by decide)
        · exact ⟨_, _, _, mk _ c, l1, hlk, .inr ⟨rfl, rfl⟩⟩
end Go.Proofs.YtgmahahhkaofbaaDoor.Slt

namespace Go.Proofs.YtgmahahhkaofbaaDoor.Slt
open Go.RowKit Go.Mir Go.Mir.Parts Dk Rol Wr
open Frm (frame)

theorem snew (room : Nat) (w : World) (h : 1 ≤ room ∧ room ≤ 65536) :
    Calls Tryd.prog 8 #[.int .i64 (room : Int)] w fun e w' => ∃ db, e = .returned (.tuple #[.pointer (some ⟨db, 0, none⟩), .int .i64 0]) ∧ DX w.heap.size db (DD.new room) w' ∧ Below w.heap.size w w' := by
  refine (new_any room w h).mono ?_
  rintro e w' ⟨db, vs, he, hd, hb⟩
  exact ⟨db, he, ⟨hb.size, vs, hd⟩, hb⟩
theorem sarm {base db : Nat} {d : DD} (w : World) (h : DX base db d w) (n : Int) (hn : n ≤ 9223372036854775807) :
    Calls Tryd.prog 17 #[.pointer (some ⟨db, 0, none⟩), .int .i64 n] w fun e w' => e = .returned (.tuple #[]) ∧ DX base db ⟨d.fs, d.room, n.toNat, d.down⟩ w' ∧ KT base w w' := by
  obtain ⟨h0, vs, h1⟩ := h
  refine (arm_any w h1 n hn).mono ?_
  rintro e w' ⟨he, hd, ht⟩
  exact ⟨he, DX.left h1 h0 (LeftD.row h1 hd ht)⟩
theorem scrash {base db : Nat} {d : DD} (w : World) (h : DX base db d w) (us : List Int) (p : Option Addr) (c : Nat) (hN : Ns w p us.length c us) (hap : ∀ a, p = some a → ¬ DTy base w a.block ∧ a.block < w.heap.size) :
    Calls Tryd.prog 18 #[.pointer (some ⟨db, 0, none⟩), .slice p us.length c] w fun e w' => e = .returned (.tuple #[]) ∧ DX base db (crashD us d) w' ∧ KT base w w' := by
  obtain ⟨h0, vs, h1⟩ := h
  refine (crash_any w h1 h0 us p c hN (fun a ha => ⟨fun ho => (hap a ha).1 (dat_dty h1 _ ho), (hap a ha).2⟩)).mono ?_
  rintro e w' ⟨he, hl⟩
  exact ⟨he, DX.left h1 h0 hl⟩
/-- a row of bytes reads as them -/
theorem bs_row {w : World} {g : Nat} {cur : Array Value} {t : TypeId} {fr : Nat × Nat} {l : List UInt8} (hr : w.heap[g]? = some (.cells cur t fr)) (hc : cur.toList = bytesV l) (hm : l.length ≤ 9223372036854775807) : Bs w (some ⟨g, 0, none⟩) l.length l.length l :=
  ⟨by rw [bytesV_length, Nat.mul_one], Nat.le_refl _, hm, fun h => (by cases h), fun a ha j u hu => by
    obtain rfl := Option.some.inj ha
    rw [add_none, cell_of_row _ _ _ _ _ _ hr, ← Array.getElem?_toList, hc, Nat.zero_add]
    exact hu⟩
theorem few_new (room : Nat) : ∀ j, (fD (DD.new room) j).steps.length ≤ 0
  | 0 => Nat.le_refl _
  | 1 => Nat.le_refl _
  | 2 => Nat.le_refl _
  | _ + 3 => Nat.le_refl _
theorem opn_new (room a b : Nat) (ha : a < 3) (hb : b < 3) : opnS (DD.new room) a b = ⟨-1, 0, []⟩ := by
  have h : ∀ i, i < 3 → (fD (DD.new room) i).now = [] := fun i hi => by
    match i, hi with
    | 0, _ => rfl
    | 1, _ => rfl
    | 2, _ => rfl
  unfold opnS
  rw [h a ha, h b hb]
  rfl
/-- a snapshot put on a disk that is up and has room -/
theorem putUp_any {base sb db a b N : Nat} {d : DD} {s : SS} (w : World) (h : SX base sb db a b d s w) (ha : a < 3) (hb : b < 3) (p : Option Addr) (c : Nat) (x : List UInt8) (hK : ∀ w', KT base w w' → Bs w' p x.length c x) (hx : x.length ≤ 3000) (hN : N ≤ 4398046000000) (hfew : ∀ j, (fD d j).steps.length ≤ N)
    (h1 : d.down = false) (h2 : d.fuse = 0) (ht : s.turn + 1 < 18446744073709551616) (hr : usedL d.fs + (16 + x.length) ≤ d.room) :
    Calls Tryd.prog 15 #[.pointer (some ⟨sb, 0, none⟩), .slice p x.length c] w fun e w' => e = .returned (.int .i64 0) ∧ SX base sb db a b (setF d (nxt s a b) (fS (wrapB s x))) ⟨(nxt s a b : Int), s.turn + 1, x⟩ w' ∧ KS base w w' := by
  have hp := put_up (d := d) (s := s) (a := a) (b := b) (x := x) h.dx.len3 ha hb h1 h2 (fun i hi => h.dx.ok hi) (by omega) ht hr
  have := sput_any w h ha hb p c x hK hx hN hfew
  unfold SPutP at this
  rwa [hp.1, hp.2.1, hp.2.2] at this
set_option maxRecDepth 100000 in
set_option maxHeartbeats 3200000 in
theorem alive21_any (w : World) (hE : Rdr.EType w) :
    Calls Tryd.prog 7 #[] w fun e w' => e = .returned (.bool true) ∧ Below w.heap.size w w' := by
  have HE := Lib.hid hE
  have HN : Hid (Calls Tryd.prog 8 #[.int .i64 100] w fun e w' => ∃ db, e = .returned (.tuple #[.pointer (some ⟨db, 0, none⟩), .int .i64 0]) ∧ DX w.heap.size db (DD.new 100) w' ∧ Below w.heap.size w w') := snew 100 w (by omega)
  clear hE
  go_enter Tryd.func7, Tryd.ntmps7
  go_wp2_with fail
  refine HN.out.mono ?_
  rintro e w1 ⟨db, rfl, hd1, hb1⟩
  have HB1 := Lib.hid hb1
  have HO := Lib.hid (sopen_any w1 (HE.out.below hb1 HE.out.lt) hd1 1 2 (by omega) (by omega) (by omega) rfl)
  clear hd1 hb1 HN
  go_wp2_with fail
  refine HO.out.mono ?_
  rintro e w2 ⟨sb, rfl, hs2, hb2⟩
  rw [opn_new 100 1 2 (by omega) (by omega)] at hs2
  have HS2 := Lib.hid hs2
  have HB2 := Lib.hid (HB1.out.trans (hb2.mono HB1.out.size))
  clear hs2 hb2 HO
  go_wp2_with fail
  refine (file_any w2 HS2.out).mono ?_
  rintro e w' ⟨rfl, rfl⟩
  have hal : Below w2.heap.size w2 (w2.alloc (.cells #[.int .u8 5] 5)) := Below.allocs _ _
  have hrow := heap_alloc_last w2 (.cells #[.int .u8 5] 5)
  have HA3 := Lib.hid (HB2.out.trans (hal.mono HB2.out.size))
  have HS3 := Lib.hid (HS2.out.below hal)
  have HP1 := Lib.hid (putUp_any (N := 0) _ (HS2.out.below hal) (by omega) (by omega) (some ⟨w2.heap.size, 0, none⟩) 1 [5] (fun w' hk => bs_row (hk.row hrow (by decide) (by decide)) rfl (by decide)) (by decide) (by omega) (few_new 100) rfl rfl (by show 0 + 1 < _; omega) (by show 0 + (16 + 1) ≤ 100; omega))
  clear hal hrow HS2
  go_wp2_with fail
  refine HP1.out.mono ?_
  rintro e w4 ⟨rfl, hs4, hk4⟩
  have hn1 : nxt ⟨-1, 0, []⟩ 1 2 = 1 := rfl
  rw [hn1] at hs4
  have HB4 := Lib.hid (HA3.out.trans (hk4.below HA3.out.size))
  have hu := used_setF (d := DD.new 100) (i := 1) (by decide) (fS (wrapB ⟨-1, 0, []⟩ [5]))
  have hwl := wrapB_len ⟨-1, 0, []⟩ [5]
  have hU : usedL (setF (DD.new 100) 1 (fS (wrapB ⟨-1, 0, []⟩ [5]))).fs = 17 := by
    have e1 : (fD (DD.new 100) 1).need = 0 := rfl
    have e2 : usedL (DD.new 100).fs = 0 := rfl
    have e3 : (fS (wrapB ⟨-1, 0, []⟩ [5])).need = (wrapB ⟨-1, 0, []⟩ [5]).length := rfl
    have e4 : ([5] : List UInt8).length = 1 := rfl
    omega
  have hF : ∀ j, (fD (setF (DD.new 100) 1 (fS (wrapB ⟨-1, 0, []⟩ [5]))) j).steps.length ≤ 0 := fun j => few_set (few_new 100) (Nat.le_refl _)
  have hR : (setF (DD.new 100) 1 (fS (wrapB ⟨-1, 0, []⟩ [5]))).room = 100 := rfl
  have hD : (setF (DD.new 100) 1 (fS (wrapB ⟨-1, 0, []⟩ [5]))).down = false := rfl
  have hZ : (setF (DD.new 100) 1 (fS (wrapB ⟨-1, 0, []⟩ [5]))).fuse = 0 := rfl
  clear hu hwl
  generalize setF (DD.new 100) 1 (fS (wrapB ⟨-1, 0, []⟩ [5])) = D1 at *
  have hs4 : SX w.heap.size sb db 1 2 D1 ⟨1, 1, [5]⟩ w4 := hs4
  have hal : Below w4.heap.size w4 (w4.alloc (.cells #[.int .u8 6] 5)) := Below.allocs _ _
  have hrow := heap_alloc_last w4 (.cells #[.int .u8 6] 5)
  have HA5 := Lib.hid (HB4.out.trans (hal.mono HB4.out.size))
  have HP2 := Lib.hid (putUp_any (N := 0) _ (hs4.below hal) (by omega) (by omega) (some ⟨w4.heap.size, 0, none⟩) 1 [6] (fun w' hk => bs_row (hk.row hrow (by decide) (by decide)) rfl (by decide)) (by decide) (by omega) hF hD hZ (by show 1 + 1 < _; omega) (by rw [hU, hR]; decide))
  clear hal hrow hs4 hk4 hU hF hR hD hZ HP1 HS3
  go_wp2_with fail
  refine HP2.out.mono ?_
  rintro e w6 ⟨rfl, hs6, hk6⟩
  have hn2 : nxt ⟨1, 1, [5]⟩ 1 2 = 2 := rfl
  rw [hn2] at hs6
  have HB6 := Lib.hid (HA5.out.trans (hk6.below HA5.out.size))
  generalize setF D1 2 (fS (wrapB ⟨1, 1, [5]⟩ [6])) = D2 at *
  have hs6 : SX w.heap.size sb db 1 2 D2 ⟨2, 2, [6]⟩ w6 := hs6
  have HS6 := Lib.hid hs6
  have HG := Lib.hid (get_any w6 hs6 (fun h => absurd (show (2 : Nat) = 0 from h) (by decide)) (by decide))
  clear hs6 hk6 HP2
  go_wp2_with fail
  refine HG.out.mono ?_
  rintro e w7 ⟨p7, c7, rfl, ho7, hb7⟩
  have HS7 := Lib.hid (HS6.out.below hb7)
  have HB7 := Lib.hid (HB6.out.trans (hb7.mono HB6.out.size))
  have HC7 : (convert 31 9 (.slice p7 1 c7)).run Tryd.prog w7 = .ok (.string (S [6])) w7 := Cut.bconv (n := 1) (Cut.own_bs ho7)
  clear ho7 hb7 HG HS6
  go_wp2_with fail
  refine (file_any w7 HS7.out).mono ?_
  rintro e w' ⟨rfl, rfl⟩
  go_wp2_with fail
  refine (turn_any w7 HS7.out).mono ?_
  rintro e w' ⟨rfl, rfl⟩
  go_wp2_with fail
  go_ret
  exact ⟨rfl, HB7.out⟩
end Go.Proofs.YtgmahahhkaofbaaDoor.Slt

namespace Go.Proofs.YtgmahahhkaofbaaDoor.Slt
open Go.RowKit Go.Mir Dk Rol Wr
open Frm (frame one frame_length)

/-- a disk that is up, without a fuse, with room -/
structure TU (d : DD) (u : Nat) : Prop where
  down : d.down = false
  fuse : d.fuse = 0
  room : d.room = 65536
  few : ∀ j, (fD d j).steps.length ≤ 1
  used : usedL d.fs ≤ u
  m3 : d.fs.length = 3
theorem fD_setF_few {d : DD} {i : Nat} {f : FD} {N : Nat} (h : ∀ j, (fD d j).steps.length ≤ N) (hf : f.steps.length ≤ N) (j : Nat) : (fD (setF d i f) j).steps.length ≤ N := by
  by_cases hij : i = j
  · subst hij
    by_cases hl : i < d.fs.length
    · rw [fD_set hl]; exact hf
    · have : fD (setF d i f) i = FD.none := by
        unfold fD setF
        rw [List.getElem?_eq_none (by rw [List.length_set]; omega)]; rfl
      rw [this]; exact Nat.zero_le _
  · rw [fD_other hij]; exact h j
theorem TU.put {d : DD} {u : Nat} (h : TU d u) {i : Nat} (hi : i < 3) (y : List UInt8) : TU (setF d i (fS y)) (u + y.length) := by
  have hs := used_setF (d := d) (i := i) (by rw [h.m3]; exact hi) (fS y)
  have hn : (fS y).need = y.length := rfl
  have hu := h.used
  exact ⟨h.down, h.fuse, h.room, fD_setF_few h.few (Nat.zero_le _), by omega, by show (List.set _ _ _).length = 3; rw [List.length_set]; exact h.m3⟩
theorem TU.mono {d : DD} {u v : Nat} (h : TU d u) (huv : u ≤ v) : TU d v := ⟨h.down, h.fuse, h.room, h.few, Nat.le_trans h.used huv, h.m3⟩
theorem new_few (room j : Nat) : (fD (DD.new room) j).steps.length ≤ 1 := by
  match j with
  | 0 => exact Nat.zero_le _
  | 1 => exact Nat.zero_le _
  | 2 => exact Nat.zero_le _
  | _ + 3 => exact Nat.zero_le _
theorem TU.new : TU (DD.new 65536) 20 := ⟨rfl, rfl, rfl, new_few _, by show 0 ≤ 20; omega, rfl⟩
/-- a turn that stands in the first file -/
theorem turn_starts (t : Nat) (h0 : 0 < t) (ht : t < 18446744073709551616) :
    doE (DD.new 65536) 0 (fD (DD.new 65536) 0) (.put (frame (be t 8 ++ [7]))) = 0 ∧ TU (doD (DD.new 65536) 0 (fD (DD.new 65536) 0) (.put (frame (be t 8 ++ [7])))) 20 ∧ opnS (doD (DD.new 65536) 0 (fD (DD.new 65536) 0) (.put (frame (be t 8 ++ [7])))) 0 2 = ⟨0, t, [7]⟩ := by
  have hl : (frame (be t 8 ++ [7])).length = 17 := by rw [frame_length, List.length_append, be_length]; rfl
  have hld := load_frame t [7] ht (by show 1 ≤ 65528; omega)
  generalize frame (be t 8 ++ [7]) = F at *
  have f0 : fD (DD.new 65536) 0 = FD.none := rfl
  obtain ⟨e1, e2⟩ := up_do (d := DD.new 65536) (i := 0) (f := fD (DD.new 65536) 0) (s := .put F) rfl rfl (by rw [f0]; show 0 - 0 + max 0 (0 + F.length) ≤ 65536; omega)
  rw [e2, f0]
  have h3 : 0 < (DD.new 65536).fs.length := by decide
  have hs := used_setF (d := DD.new 65536) (i := 0) h3 (FD.none.take (.put F))
  have hn : (FD.none.take (.put F)).need = F.length := by show max 0 (0 + F.length) = _; omega
  have hz : usedL (DD.new 65536).fs = 0 := rfl
  have hnow : (fD (setF (DD.new 65536) 0 (FD.none.take (.put F))) 0).now = F := by
    rw [fD_set h3]
    show (St.put F).act [] (St.put F).units = F
    rw [act_full]; rfl
  have hnow2 : (fD (setF (DD.new 65536) 0 (FD.none.take (.put F))) 2).now = [] := by rw [fD_other (by omega)]; rfl
  refine ⟨by rw [← f0]; exact e1, ⟨rfl, rfl, rfl, fD_setF_few (new_few _) (Nat.le_refl _), by omega, rfl⟩, ?_⟩
  unfold opnS
  rw [hnow, hnow2]
  have hb : bet ⟨-1, 0, []⟩ 0 F = ⟨0, t, [7]⟩ := by
    unfold bet
    rw [hld]
    exact if_pos h0
  rw [hb]
  exact bet_no (Nat.zero_le _)
theorem nxt02 (s : SS) : (nxt s 0 2 = 0 ∨ nxt s 0 2 = 2) ∧ (nxt s 0 2 : Int) ≠ s.now := by
  unfold nxt
  split
  · rename_i h
    refine ⟨.inr rfl, ?_⟩
    rw [h]; decide
  · rename_i h
    exact ⟨.inl rfl, fun e => h e.symm⟩
/-- no turn behind the last one -/
theorem put_last {d : DD} {s : SS} {a b : Nat} {x : List UInt8} (h : ¬ s.turn + 1 < 18446744073709551616) : putSE d s a b x = 1 ∧ putSD d s a b x = d ∧ putSS d s a b x = s := by
  have hf : ¬ fits s x = true := by unfold fits; rw [decide_eq_false h, Bool.and_false]; decide
  unfold putSE putSD putSS
  rw [if_neg hf, if_neg hf, if_neg (fun hh => hf hh.1)]
  exact ⟨rfl, rfl, rfl⟩
end Go.Proofs.YtgmahahhkaofbaaDoor.Slt

namespace Go.Proofs.YtgmahahhkaofbaaDoor.R02
open Go.RowKit Go.Mir

theorem infoB : (Tryd.prog.info? 5).map (fun i => (i.zero, i.size, i.bytes)) = some (some (.int .u8 0), 1, 1) := by kernel_rfl
theorem take_snoc {α : Type} (l : List α) (k : Nat) (h : k < l.length) : l.take (k + 1) = l.take k ++ [l[k]] := by
  rw [List.take_succ_eq_append_getElem h]
def total (ls : List (List UInt8)) : Nat := (ls.map List.length).sum
theorem total_take (ls : List (List UInt8)) (k : Nat) (h : k < ls.length) : total (ls.take (k + 1)) = total (ls.take k) + ls[k].length := by
  rw [take_snoc ls k h]; simp only [total, List.map_append, List.sum_append, List.map_cons, List.map_nil, List.sum_cons, List.sum_nil, Nat.add_zero]
theorem total_le (ls : List (List UInt8)) (k : Nat) : total (ls.take k) ≤ total ls := by
  have := congrArg total (List.take_append_drop k ls)
  simp only [total, List.map_append, List.sum_append] at this ⊢
  omega
theorem total_flatten (ls : List (List UInt8)) : ls.flatten.length = total ls := by simp [total, List.length_flatten]

set_option maxRecDepth 100000 in
set_option maxHeartbeats 400000 in
theorem few_any (p : Option Addr) (n c : Nat) (ls : List (List UInt8)) (most : Nat) (w : World) (h : Pts w p n c ls) (hs : n + total ls ≤ 4611686018427387904) (_hm : most ≤ 4611686018427387904) :
    Calls Tryd.prog 6 #[.slice p n c, .int .i64 (most : Int)] w fun e w' => e = .returned (.bool (decide (n + total ls ≤ most))) ∧ w = w' := by
  have hle := h.le
  have hmax := h.max
  have hn := h.len
  go_enter Tryd.func6, Tryd.ntmps6
  go_wp2
  go_loop [5, 6] (fun x j => ∃ k : Nat, k ≤ n ∧ j = .int .i64 k ∧ x = .int .i64 ((n + total (ls.take k) : Nat) : Int)) (fun _ j => n - (intOf j).toNat)
  case atStart => exact ⟨0, by omega, rfl, rfl⟩
  case round =>
    obtain ⟨k, hk, rfl, rfl⟩ := hrel
    have htl := total_le ls k
    by_cases hlt : k < n
    · obtain ⟨b, o, rfl⟩ := h.addr (by omega)
      obtain ⟨q, m, d, hc, hB⟩ := h.cell _ rfl k (by omega)
      rw [add_none] at hc
      have htk := total_take ls k (by omega)
      have htl' := total_le ls (k + 1)
      rw [hB.length] at htk
      have HTK := Lib.hid htk
      have hsum : n + total (ls.take k) + m ≤ 4611686018427387904 := by omega
      clear htk htl' hB
      generalize hT : total (ls.take k) = T at *
      have HT := Lib.hid hT
      clear hT
      go_wp2
      go_round
      case rel => exact ⟨k + 1, by omega, by go_num, by rw [HTK.out]; go_num⟩
      case measure => simp [intOf]; omega
    · have hk' : k = ls.length := by omega
      rw [hk', List.take_length]
      generalize hT : total ls = T at *
      have HT := Lib.hid hT
      clear hT htl
      by_cases hf : n + T ≤ most
      · have hd : decide (n + T ≤ most) = true := by simp [hf]
        have HD := Lib.hid hd
        clear hd
        go_wp2
        go_ret
        exact ⟨congrArg (fun b => Ending.returned (.bool b)) (by rw [HT.out, HD.out]; simp; omega), rfl⟩
      · have hd : decide (n + T ≤ most) = false := by simp [hf]
        have HD := Lib.hid hd
        clear hd
        go_wp2
        go_ret
        exact ⟨congrArg (fun b => Ending.returned (.bool b)) (by rw [HT.out, HD.out]; simp; omega), rfl⟩

end Go.Proofs.YtgmahahhkaofbaaDoor.R02

namespace Go.Proofs.YtgmahahhkaofbaaDoor.Slt
open Go.RowKit Go.Mir Go.Mir.Parts Dk Rol Wr
open Frm (frame)

theorem Up.few {d : DD} {y1 y2 : List UInt8} {s : SS} (h : Up d y1 y2 s) : ∀ j, (fD d j).steps.length ≤ 1
  | 0 => by rw [h.f0]; exact Nat.zero_le _
  | 1 => by rw [h.f1]; exact Nat.zero_le _
  | 2 => by rw [h.f2]; exact Nat.zero_le _
  | j + 3 => by
    have : fD d (j + 3) = FD.none := by
      unfold fD
      rw [List.getElem?_eq_none (by rw [h.m3]; omega)]; rfl
    rw [this]; exact Nat.zero_le _
theorem Dn.few {d : DD} {s : SS} {x : List UInt8} (h : Dn d s x) : ∀ j, (fD d j).steps.length ≤ 1 := by
  obtain ⟨d0, y1, y2, g, hu, rfl, hg, l1, l2⟩ := h.was
  intro j
  rw [fD_wF]
  refine fD_setF_few hu.few ?_ j
  rcases hg with rfl | rfl <;> exact Nat.le_refl _
theorem up_new (fz : Nat) : Up ⟨(DD.new 65536).fs, 65536, fz, false⟩ [] [] ⟨-1, 0, []⟩ := ⟨rfl, rfl, rfl, rfl, rfl, ⟨.inl ⟨rfl, rfl, rfl⟩⟩⟩
/-- slots while snapshots are put: the disk is up, or it went down while one was put -/
def KPh (w1 : World) (D : DD) (s : SS) (x12 x14 : Value) : Prop :=
  (D.down = false ∧ (∃ y1 y2, Up D y1 y2 s ∧ y1.length ≤ 2000 ∧ y2.length ≤ 2000) ∧ x14 = .bool false ∧ x12 = .slice none 0 0) ∨
  (D.down = true ∧ ∃ z, Dn D s z ∧ z.length ≤ 1000 ∧ x14 = .bool true ∧ ∃ q k, x12 = .slice q z.length k ∧ Bs w1 q z.length k z)
theorem KPh.few {w1 : World} {D : DD} {s : SS} {x12 x14 : Value} (h : KPh w1 D s x12 x14) : ∀ j, (fD D j).steps.length ≤ 1 := by
  rcases h with ⟨_, ⟨y1, y2, hu, _⟩, _⟩ | ⟨_, z, hd, _⟩
  · exact hu.few
  · exact hd.few
set_option maxRecDepth 100000 in
set_option maxHeartbeats 12800000 in
theorem law_keeps (p0 : Option Addr) (n0 c0 : Nat) (ls : List (List UInt8)) (fz : Nat) (hfz : fz < 256) (u0 u1 u2 : Int) (hun : ∀ x ∈ [u0, u1, u2], -9223372036854775808 ≤ x ∧ x ≤ 9223372036854775807) (w : World) (hE : Rdr.EType w) (hP : Pts w p0 n0 c0 ls) (hs : n0 + R02.total ls ≤ 4611686018427387904) :
    Calls Tryd.prog 5 #[.slice p0 n0 c0, .int .u8 (fz : Int), .agg #[.int .i64 u0, .int .i64 u1, .int .i64 u2]] w fun e w' => e = .returned (.bool true) ∧ Below w.heap.size w w' := by
  have hal := Below.allocs w (.cells #[.int .i64 u0, .int .i64 u1, .int .i64 u2] 48)
  have HBX := Lib.hid hal
  have HNP := Lib.hid hP.len
  have hla := hP.le
  have hma := hP.max
  have HE := Lib.hid (hE.below hal hE.lt)
  have HP := Lib.hid (hP.below hal)
  have HFEW := Lib.hid (R02.few_any p0 n0 c0 ls 1000 _ (hP.below hal) hs (by omega))
  have HNS : Hid (Ns (w.alloc (.cells #[.int .i64 u0, .int .i64 u1, .int .i64 u2] 48)) (some ⟨w.heap.size, 0, none⟩) [u0, u1, u2].length 3 [u0, u1, u2]) := ns_lit w 48 [u0, u1, u2] (show 3 ≤ 65536 by decide) hun
  have HSZ1 : Hid ((w.alloc (.cells #[.int .i64 u0, .int .i64 u1, .int .i64 u2] 48)).heap.size = w.heap.size + 1) := by show _ = _; simp
  clear hE hP hal hun
  go_enter Tryd.func5, Tryd.ntmps5
  go_upto_region 1 with fail
  generalize w.alloc (.cells #[.int .i64 u0, .int .i64 u1, .int .i64 u2] 48) = w1 at *
  have HB0 : Hid (Below w1.heap.size w1 w1) := Below.refl _ _
  by_cases hfew : n0 + R02.total ls ≤ 1000
  rotate_left
  · have HD : Hid (decide (n0 + R02.total ls ≤ 1000) = false) := decide_eq_false hfew
    clear hfew hs
    go_wp2_with fail
    refine HFEW.out.mono ?_
    rintro e w' ⟨rfl, rfl⟩
    rw [HD.out]
    skip
    go_wp2_with fail
    refine (alive21_any _ (HE.out.below (HB0.out) HE.out.lt)).mono ?_
    rintro e w99 ⟨rfl, hb99⟩
    have HB99 : Hid (Below w.heap.size w w99) := HBX.out.trans ((Below.trans (HB0.out) (hb99.mono (Below.size (HB0.out)))).mono HBX.out.size)
    clear hb99
    go_wp2_with fail
    go_ret
    exact ⟨rfl, HB99.out⟩
  have HD : Hid (decide (n0 + R02.total ls ≤ 1000) = true) := decide_eq_true hfew
  have HTOT := Lib.hid hfew
  have HN : Hid (Calls Tryd.prog 8 #[.int .i64 65536] w1 fun e w' => ∃ db, e = .returned (.tuple #[.pointer (some ⟨db, 0, none⟩), .int .i64 0]) ∧ DX w1.heap.size db (DD.new 65536) w' ∧ Below w1.heap.size w1 w') := snew 65536 w1 (by omega)
  clear hfew hs
  go_wp2_with fail
  refine HFEW.out.mono ?_
  rintro e w' ⟨rfl, rfl⟩
  rw [HD.out]
  clear HD HFEW
  go_wp2_with fail
  refine HN.out.mono ?_
  rintro e w2 ⟨db, rfl, hd2, hb2⟩
  have HB2 := Lib.hid hb2
  have HO := Lib.hid (sopen_any w2 (HE.out.below hb2 HE.out.lt) hd2 1 2 (by omega) (by omega) (by omega) rfl)
  clear hd2 hb2 HN
  go_wp2_with fail
  refine HO.out.mono ?_
  rintro e w3 ⟨sb, rfl, hs3, hb3⟩
  rw [opn_new 65536 1 2 (by omega) (by omega)] at hs3
  have HS3 := Lib.hid hs3
  have HB3 := Lib.hid (HB2.out.trans (hb3.mono HB2.out.size))
  have HAR := Lib.hid (sarm w3 hs3.dx ((fz : Int) % 40) (by omega))
  clear hs3 hb3 HO HB2
  go_wp2_with fail
  refine HAR.out.mono ?_
  rintro e w4 ⟨rfl, hd4, hk4⟩
  have HS4 : Hid (SX w1.heap.size sb db 1 2 ⟨(DD.new 65536).fs, 65536, ((fz : Int) % 40).toNat, false⟩ ⟨-1, 0, []⟩ w4) := HS3.out.kt hk4 hd4
  have HB4 := Lib.hid (HB3.out.trans (hk4.below HB3.out.size))
  have HU0 := Lib.hid (up_new ((fz : Int) % 40).toNat)
  have HDN0 : Hid ((⟨(DD.new 65536).fs, 65536, ((fz : Int) % 40).toNat, false⟩ : DD).down = false) := rfl
  clear hd4 hk4 HAR HS3 HB3
  generalize (⟨(DD.new 65536).fs, 65536, ((fz : Int) % 40).toNat, false⟩ : DD) = D0 at *
  go_upto_region 10 with fail
  go_wp2_with fail
  go_loopw [11, 12, 13, 14, 51] (fun x11 x12 x13 x14 j wr => ∃ (i : Nat) (D : DD) (s : SS), i ≤ n0 ∧ j = .int .i64 i ∧ SX w1.heap.size sb db 1 2 D s wr ∧ s.turn ≤ i ∧ (∃ q k, x11 = .slice q s.body.length k ∧ Bs w1 q s.body.length k s.body) ∧ s.body.length ≤ 1000 ∧ x13 = .bool (decide (0 < s.turn)) ∧ KPh w1 D s x12 x14 ∧ Below w1.heap.size w1 wr) (fun _ _ _ _ j _ => n0 - (intOf j).toNat)
  case atStart => exact ⟨0, D0, ⟨-1, 0, []⟩, by omega, rfl, HS4.out, Nat.le_refl _, ⟨none, 0, rfl, Sl.nil _ _⟩, Nat.zero_le _, rfl, .inl ⟨HDN0.out, ⟨_, _, HU0.out, Nat.zero_le _, Nat.zero_le _⟩, rfl, rfl⟩, HB4.out⟩
  case round =>
    clear HS4 HU0 HDN0 HB4
    obtain ⟨i, D, s, hi, rfl, hsx, htn, ⟨ql, kl, rfl, hlb⟩, hbl, rfl, hph, hbw⟩ := hrel
    have HSX := Lib.hid hsx
    have HTN := Lib.hid htn
    have HLB := Lib.hid hlb
    have HBL := Lib.hid hbl
    have HPH := Lib.hid hph
    have HBW := Lib.hid hbw
    clear hsx htn hlb hbl hph hbw
    by_cases hlt : i < n0
    · obtain ⟨b, o, rfl⟩ := HP.out.addr (by omega)
      have hil : i < ls.length := by rw [HNP.out]; exact hlt
      obtain ⟨q, m, dd, hc0, hbx0⟩ := HP.out.cell _ rfl i hil
      rw [add_none] at hc0
      have hcell := cell_below hc0 HBW.out
      have htt : (ls[i]'hil).length ≤ 1000 := by
        have h1 := R02.total_le ls (i + 1)
        have h2 : R02.total (ls.take (i + 1)) = R02.total (ls.take i) + (ls[i]'hil).length := by
          unfold R02.total
          rw [List.take_succ_eq_append_getElem hil, List.map_append, List.sum_append]
          simp
        have := HTOT.out
        omega
      have hxl := hbx0.length
      generalize ls[i]'hil = x at *
      obtain rfl : x.length = m := hxl
      have HM1 := Lib.hid htt
      have hdi : decide ((i : Int) < (n0 : Int)) = true := decide_eq_true (by omega)
      have hdi2 : decide (i < n0) = true := decide_eq_true hlt
      have HBXX := Lib.hid hbx0
      have HTL : Hid (s.turn + 1 < 18446744073709551616) := by show _ < _; have := HTN.out; have := HTOT.out; omega
      have hp := sput_any (N := 1) wr HSX.out (by omega) (by omega) q dd x (fun w' hk => HBXX.out.below (HBW.out.trans (hk.below HBW.out.size))) (by omega) (by omega) HPH.out.few
      unfold SPutP at hp
      have HPU := Lib.hid hp
      clear hc0 hbx0 htt hp
      rcases HPH.out with ⟨hdn, ⟨y1, y2, hup, l1, l2⟩, rfl, rfl⟩ | ⟨hdn, z, hdd, hzl, rfl, qz, kz, rfl, hbz⟩
      · rcases put_keeps hup hdn l1 l2 HM1.out HTL.out with ⟨e1, ⟨z1, z2, e2, e3, e4⟩, e5, e6, e7⟩ | ⟨e1, e2, e3⟩
        · rw [e1] at HPU
          have HE2 := Lib.hid e2
          have HE34 := Lib.hid (And.intro e3 e4)
          have HE5 := Lib.hid e5
          have HE6 := Lib.hid e6
          have HE7 := Lib.hid e7
          clear e1 e2 e3 e4 e5 e6 e7 hdn hup l1 l2 HPH
          generalize putSD D s 1 2 x = D2 at *
          generalize putSS D s 1 2 x = s2 at *
          go_wp2_with fail
          refine HPU.out.mono ?_
          rintro e w5 ⟨rfl, hs5, hk5⟩
          have HS5 := Lib.hid hs5
          have HB5 := Lib.hid (HBW.out.trans (hk5.below HBW.out.size))
          clear hs5 hk5 HPU hcell
          go_wp2_with fail
          go_roundw
          case rel => exact ⟨i + 1, D2, s2, by omega, by go_num, HS5.out, by rw [HE6.out]; exact Nat.succ_le_succ HTN.out, by rw [HE7.out]; exact ⟨_, _, rfl, HBXX.out⟩, by rw [HE7.out]; exact HM1.out, by rw [HE6.out, decide_eq_true (Nat.succ_pos _)], .inl ⟨HE5.out, ⟨_, _, HE2.out, HE34.out.1, HE34.out.2⟩, rfl, rfl⟩, HB5.out⟩
          case measure => simp [intOf]; omega
        · rw [e1, e3] at HPU
          have HE2 := Lib.hid e2
          clear e1 e2 e3 hdn hup l1 l2 HPH
          generalize putSD D s 1 2 x = D2 at *
          go_wp2_with fail
          refine HPU.out.mono ?_
          rintro e w5 ⟨rfl, hs5, hk5⟩
          have HS5 := Lib.hid hs5
          have HB5 := Lib.hid (HBW.out.trans (hk5.below HBW.out.size))
          clear hs5 hk5 HPU hcell
          go_wp2_with fail
          go_roundw
          case rel => exact ⟨i + 1, D2, s, by omega, by go_num, HS5.out, Nat.le_succ_of_le HTN.out, ⟨_, _, rfl, HLB.out⟩, HBL.out, rfl, .inr ⟨HE2.out.down, x, HE2.out, HM1.out, rfl, _, _, rfl, HBXX.out⟩, HB5.out⟩
          case measure => simp [intOf]; omega
      · obtain ⟨e1, e2, e3⟩ := put_down (x := x) hdn HM1.out HTL.out
        rw [e1, e2, e3] at HPU
        clear e1 e2 e3 hdn hdd hzl hbz
        go_wp2_with fail
        refine HPU.out.mono ?_
        rintro e w5 ⟨rfl, hs5, hk5⟩
        have HS5 := Lib.hid hs5
        have HB5 := Lib.hid (HBW.out.trans (hk5.below HBW.out.size))
        clear hs5 hk5 HPU hcell
        go_wp2_with fail
        go_roundw
        case rel => exact ⟨i + 1, D, s, by omega, by go_num, HS5.out, Nat.le_succ_of_le HTN.out, ⟨_, _, rfl, HLB.out⟩, HBL.out, rfl, HPH.out, HB5.out⟩
        case measure => simp [intOf]; omega
    · have hdi : decide ((i : Int) < (n0 : Int)) = false := decide_eq_false (by omega)
      have hdi2 : decide (i < n0) = false := decide_eq_false hlt
      have HNSW := Lib.hid (HNS.out.below HBW.out)
      have HCR := Lib.hid (scrash wr HSX.out.dx [u0, u1, u2] (some ⟨w.heap.size, 0, none⟩) 3 HNSW.out (fun a ha => by
        obtain rfl := Option.some.inj ha
        refine ⟨fun hk => ?_, ?_⟩
        · have h1 := hk.1
          have h2 := HSZ1.out
          have h3 : w1.heap.size ≤ w.heap.size := h1
          omega
        · have h2 := HSZ1.out
          have h3 := HBW.out.size
          show w.heap.size < _
          omega))
      have HTL : Hid (s.turn + 1 + 1 < 18446744073709551616) := by show _ < _; have := HTN.out; have := HTOT.out; omega
      clear HTN HSX HNSW
      go_upto_region 21 with fail
      go_wp2_with fail
      refine HCR.out.mono ?_
      rintro e w7 ⟨rfl, hd7, hk7⟩
      have HX7 := Lib.hid hd7
      have HB7 := Lib.hid (HBW.out.trans (hk7.below HBW.out.size))
      have HDN : Hid ((crashD [u0, u1, u2] D).down = false) := rfl
      have HFZ : Hid ((crashD [u0, u1, u2] D).fuse = 0) := rfl
      clear hd7 hk7 HCR HBW
      rcases HPH.out with ⟨hdn, ⟨y1, y2, hup, l1, l2⟩, rfl, rfl⟩ | ⟨hdn, z, hdd, hzl, rfl, qz, kz, rfl, hbz⟩
      · have HUE := Lib.hid (hup.crash [u0, u1, u2])
        have HZL : Hid (y1.length + y2.length ≤ 4000) := by show _ ≤ _; omega
        have HTL2 : Hid (s.turn + 1 < 18446744073709551616) := by show _ < _; have := HTL.out; omega
        clear hdn hup l1 l2 HPH HTL
        generalize crashD [u0, u1, u2] D = DE at *
        skip
        -- behind the crash: world W7, disk DE, HX7, HB7; s1 the slots that are told
        have HO := Lib.hid (sopen_any w7 (HE.out.below HB7.out HE.out.lt) HX7.out 1 2 (by omega) (by omega) (by omega) HDN.out)
        have HTO := Lib.hid HUE.out.told
        have hbd := opn_body DE 1 2
        rw [HTO.out] at hbd
        have HBD := Lib.hid hbd
        clear hbd HX7
        go_wp2_with fail
        refine HO.out.mono ?_
        rintro e w8 ⟨sb8, rfl, hs8, hb8⟩
        rw [HTO.out] at hs8
        have HS8 := Lib.hid hs8
        have HB8 := Lib.hid (HB7.out.trans (hb8.mono HB7.out.size))
        have HG := Lib.hid (get_any w8 hs8 HBD.out (by have := HBL.out; omega))
        clear hs8 hb8 HO HTO HB7
        go_upto_region 25 with fail
        go_wp2_with fail
        refine HG.out.mono ?_
        rintro e w9 ⟨p9, c9, rfl, ho9, hb9⟩
        have HS9 := Lib.hid (HS8.out.below hb9)
        have HB9 := Lib.hid (HB8.out.trans (hb9.mono HB8.out.size))
        have hcv1 := Cut.bconv (Cut.own_bs ho9)
        have hcv2 := Cut.bconv (HLB.out.below HB9.out)
        clear ho9 hb9 HG HS8 HB8
        skip
        -- ok == some, and the snapshot is the last one: world WX, HSX : Hid (SX .. DE s WX), HUE : Up
        have hok : (decide (0 < s.turn) == decide (0 < s.turn)) = true := beq_self_eq_true _
        have hqs : (s.body == s.body) = true := beq_self_eq_true _
        have HPU := Lib.hid (putUp_any w9 HS9.out (by omega) (by omega) none 0 [] (fun w' _ => Sl.nil _ _) (Nat.zero_le _) (N := 1) (by omega) HUE.out.few HDN.out HFZ.out HTL2.out (by rw [HUE.out.room, HUE.out.used]; have := HZL.out; show _ + (16 + 0) ≤ _; omega))
        clear HS9
        go_upto_region 28 with fail
        go_wp2_with fail
        refine HPU.out.mono ?_
        rintro e w10 ⟨rfl, _, hk10⟩
        have HB10 := Lib.hid (HB9.out.trans (hk10.below HB9.out.size))
        clear hk10 HPU
        go_wp2_with fail
        refine (alive21_any _ (HE.out.below (HB10.out) HE.out.lt)).mono ?_
        rintro e w99 ⟨rfl, hb99⟩
        have HB99 : Hid (Below w.heap.size w w99) := HBX.out.trans ((Below.trans (HB10.out) (hb99.mono (Below.size (HB10.out)))).mono HBX.out.size)
        clear hb99
        go_wp2_with fail
        go_ret
        exact ⟨rfl, HB99.out⟩
      · obtain ⟨z1, z2, s1, hup, l1, l2, hs1⟩ := hdd.crash hzl (by have := HTL.out; omega) [u0, u1, u2]
        have HUE := Lib.hid hup
        have HZL : Hid (z1.length + z2.length ≤ 4000) := by show _ ≤ _; omega
        have HBZ := Lib.hid hbz
        have HZZ := Lib.hid hzl
        clear hdn hdd hup l1 l2 HPH hbz hzl
        generalize crashD [u0, u1, u2] D = DE at *
        rcases hs1 with rfl | ⟨g1, g2⟩
        · have HTL2 : Hid (s1.turn + 1 < 18446744073709551616) := by show _ < _; have := HTL.out; omega
          skip
          -- behind the crash: world W7, disk DE, HX7, HB7; s1 the slots that are told
          have HO := Lib.hid (sopen_any w7 (HE.out.below HB7.out HE.out.lt) HX7.out 1 2 (by omega) (by omega) (by omega) HDN.out)
          have HTO := Lib.hid HUE.out.told
          have hbd := opn_body DE 1 2
          rw [HTO.out] at hbd
          have HBD := Lib.hid hbd
          clear hbd HX7
          go_wp2_with fail
          refine HO.out.mono ?_
          rintro e w8 ⟨sb8, rfl, hs8, hb8⟩
          rw [HTO.out] at hs8
          have HS8 := Lib.hid hs8
          have HB8 := Lib.hid (HB7.out.trans (hb8.mono HB7.out.size))
          have HG := Lib.hid (get_any w8 hs8 HBD.out (by have := HBL.out; omega))
          clear hs8 hb8 HO HTO HB7
          go_upto_region 25 with fail
          go_wp2_with fail
          refine HG.out.mono ?_
          rintro e w9 ⟨p9, c9, rfl, ho9, hb9⟩
          have HS9 := Lib.hid (HS8.out.below hb9)
          have HB9 := Lib.hid (HB8.out.trans (hb9.mono HB8.out.size))
          have hcv1 := Cut.bconv (Cut.own_bs ho9)
          have hcv2 := Cut.bconv (HLB.out.below HB9.out)
          clear ho9 hb9 HG HS8 HB8
          have hcv3 := Cut.bconv (HBZ.out.below HB9.out)
          by_cases ho : 0 < s1.turn
          · have hod : decide (0 < s1.turn) = true := decide_eq_true ho
            by_cases hz : s1.body = z
            · have hq : (s1.body == z) = true := beq_iff_eq.2 hz
              clear ho hz
              go_upto_region 27 with fail
              skip
              go_wp2_with fail
              refine (alive21_any _ (HE.out.below (HB9.out) HE.out.lt)).mono ?_
              rintro e w99 ⟨rfl, hb99⟩
              have HB99 : Hid (Below w.heap.size w w99) := HBX.out.trans ((Below.trans (HB9.out) (hb99.mono (Below.size (HB9.out)))).mono HBX.out.size)
              clear hb99
              go_wp2_with fail
              go_ret
              exact ⟨rfl, HB99.out⟩
            · have hq : (s1.body == z) = false := beq_eq_false_iff_ne.2 hz
              clear ho hz
              skip
              -- ok == some, and the snapshot is the last one: world WX, HSX : Hid (SX .. DE s1 WX), HUE : Up
              have hok : (decide (0 < s1.turn) == decide (0 < s1.turn)) = true := beq_self_eq_true _
              have hqs : (s1.body == s1.body) = true := beq_self_eq_true _
              have HPU := Lib.hid (putUp_any w9 HS9.out (by omega) (by omega) none 0 [] (fun w' _ => Sl.nil _ _) (Nat.zero_le _) (N := 1) (by omega) HUE.out.few HDN.out HFZ.out HTL2.out (by rw [HUE.out.room, HUE.out.used]; have := HZL.out; show _ + (16 + 0) ≤ _; omega))
              clear HS9
              go_upto_region 28 with fail
              go_wp2_with fail
              refine HPU.out.mono ?_
              rintro e w10 ⟨rfl, _, hk10⟩
              have HB10 := Lib.hid (HB9.out.trans (hk10.below HB9.out.size))
              clear hk10 HPU
              go_wp2_with fail
              refine (alive21_any _ (HE.out.below (HB10.out) HE.out.lt)).mono ?_
              rintro e w99 ⟨rfl, hb99⟩
              have HB99 : Hid (Below w.heap.size w w99) := HBX.out.trans ((Below.trans (HB10.out) (hb99.mono (Below.size (HB10.out)))).mono HBX.out.size)
              clear hb99
              go_wp2_with fail
              go_ret
              exact ⟨rfl, HB99.out⟩
          · have hod : decide (0 < s1.turn) = false := decide_eq_false ho
            clear ho
            skip
            -- ok == some, and the snapshot is the last one: world WX, HSX : Hid (SX .. DE s1 WX), HUE : Up
            have hok : (decide (0 < s1.turn) == decide (0 < s1.turn)) = true := beq_self_eq_true _
            have hqs : (s1.body == s1.body) = true := beq_self_eq_true _
            have HPU := Lib.hid (putUp_any w9 HS9.out (by omega) (by omega) none 0 [] (fun w' _ => Sl.nil _ _) (Nat.zero_le _) (N := 1) (by omega) HUE.out.few HDN.out HFZ.out HTL2.out (by rw [HUE.out.room, HUE.out.used]; have := HZL.out; show _ + (16 + 0) ≤ _; omega))
            clear HS9
            go_upto_region 28 with fail
            go_wp2_with fail
            refine HPU.out.mono ?_
            rintro e w10 ⟨rfl, _, hk10⟩
            have HB10 := Lib.hid (HB9.out.trans (hk10.below HB9.out.size))
            clear hk10 HPU
            go_wp2_with fail
            refine (alive21_any _ (HE.out.below (HB10.out) HE.out.lt)).mono ?_
            rintro e w99 ⟨rfl, hb99⟩
            have HB99 : Hid (Below w.heap.size w w99) := HBX.out.trans ((Below.trans (HB10.out) (hb99.mono (Below.size (HB10.out)))).mono HBX.out.size)
            clear hb99
            go_wp2_with fail
            go_ret
            exact ⟨rfl, HB99.out⟩
        · have HBL1 : Hid (s1.body.length ≤ 1000) := by show _ ≤ _; rw [g2]; exact HZZ.out
          have hod : decide (0 < s1.turn) = true := decide_eq_true (by omega)
          have hq : (s1.body == z) = true := beq_iff_eq.2 g2
          clear g1 g2
          skip
          -- behind the crash: world W7, disk DE, HX7, HB7; s1 the slots that are told
          have HO := Lib.hid (sopen_any w7 (HE.out.below HB7.out HE.out.lt) HX7.out 1 2 (by omega) (by omega) (by omega) HDN.out)
          have HTO := Lib.hid HUE.out.told
          have hbd := opn_body DE 1 2
          rw [HTO.out] at hbd
          have HBD := Lib.hid hbd
          clear hbd HX7
          go_wp2_with fail
          refine HO.out.mono ?_
          rintro e w8 ⟨sb8, rfl, hs8, hb8⟩
          rw [HTO.out] at hs8
          have HS8 := Lib.hid hs8
          have HB8 := Lib.hid (HB7.out.trans (hb8.mono HB7.out.size))
          have HG := Lib.hid (get_any w8 hs8 HBD.out (by have := HBL1.out; omega))
          clear hs8 hb8 HO HTO HB7
          go_upto_region 25 with fail
          go_wp2_with fail
          refine HG.out.mono ?_
          rintro e w9 ⟨p9, c9, rfl, ho9, hb9⟩
          have HS9 := Lib.hid (HS8.out.below hb9)
          have HB9 := Lib.hid (HB8.out.trans (hb9.mono HB8.out.size))
          have hcv1 := Cut.bconv (Cut.own_bs ho9)
          have hcv2 := Cut.bconv (HLB.out.below HB9.out)
          clear ho9 hb9 HG HS8 HB8
          have hcv3 := Cut.bconv (HBZ.out.below HB9.out)
          go_upto_region 27 with fail
          skip
          go_wp2_with fail
          refine (alive21_any _ (HE.out.below (HB9.out) HE.out.lt)).mono ?_
          rintro e w99 ⟨rfl, hb99⟩
          have HB99 : Hid (Below w.heap.size w w99) := HBX.out.trans ((Below.trans (HB9.out) (hb99.mono (Below.size (HB9.out)))).mono HBX.out.size)
          clear hb99
          go_wp2_with fail
          go_ret
          exact ⟨rfl, HB99.out⟩
end Go.Proofs.YtgmahahhkaofbaaDoor.Slt

namespace Go.Proofs.YtgmahahhkaofbaaDoor.bulks
open Go.Mir

theorem one_le {H : Type} (d : DataW H) : 1 ≤ Rows.uptoBulk d := by
  cases d with
  | lit l => cases l <;> simp [Rows.uptoBulk]
  | nil => simp [Rows.uptoBulk]
  | ptr d => simp [Rows.uptoBulk]
  | slice elems spare => simp [Rows.uptoBulk]
  | agg parts => simp [Rows.uptoBulk]
  | iface t d => simp [Rows.uptoBulk]
  | map entries => simp [Rows.uptoBulk]
  | held h => simp [Rows.uptoBulk]
theorem bulkAll_cons {H : Type} (d : DataW H) (r : List (DataW H)) : Rows.uptoBulkAll (d :: r) = Rows.uptoBulk d + Rows.uptoBulkAll r := by simp only [Rows.uptoBulkAll]
theorem bulkAll_nil {H : Type} : Rows.uptoBulkAll ([] : List (DataW H)) = 0 := by simp only [Rows.uptoBulkAll]
theorem length_le {H : Type} (l : List (DataW H)) : l.length ≤ Rows.uptoBulkAll l := by
  induction l with
  | nil => simp [Rows.uptoBulkAll]
  | cons x r ih => have := one_le x; simp only [Rows.uptoBulkAll, List.length_cons]; omega
theorem slice_eq {H : Type} (elems spare : List (DataW H)) : Rows.uptoBulk (.slice elems spare) = Rows.uptoBulkAll elems + Rows.uptoBulkAll spare + 1 := by
  simp only [Rows.uptoBulk]
theorem agg_eq {H : Type} (ds : List (DataW H)) : Rows.uptoBulk (.agg ds) = Rows.uptoBulkAll ds + 1 := by
  simp only [Rows.uptoBulk]
theorem dlen_le {H : Type} (d : DataW H) : dlen d + 1 ≤ Rows.uptoBulk d := by
  cases d with
  | slice elems spare => have := length_le elems; rw [slice_eq]; simp only [dlen]; omega
  | _ => exact one_le _
theorem dlens_le {H : Type} (l : List (DataW H)) : (l.map dlen).sum + l.length ≤ Rows.uptoBulkAll l := by
  induction l with
  | nil => simp [Rows.uptoBulkAll]
  | cons x r ih => have := dlen_le x; simp only [Rows.uptoBulkAll, List.length_cons, List.map_cons, List.sum_cons]; omega
theorem bound {H : Type} {l : List (DataW H)} (hk : Rows.uptoSmall H l = true) : Rows.uptoBulkAll l ≤ 1048576 := of_decide_eq_true hk
end Go.Proofs.YtgmahahhkaofbaaDoor.bulks

namespace Go.Proofs.YtgmahahhkaofbaaDoor.Slt
open Go.RowKit Go.Mir Go.Mir.Parts Dk Rol Wr
open Frm (frame)

theorem total_take_succ (ls : List (List UInt8)) (k : Nat) (h : k < ls.length) : R02.total (ls.take (k + 1)) = R02.total (ls.take k) + (ls[k]).length := by
  unfold R02.total
  rw [List.take_succ_eq_append_getElem h, List.map_append, List.sum_append]
  simp
theorem su8_add1 (v : UInt8) : ((v.toNat : Int) + 1) % 256 = ((v + 1).toNat : Int) := by
  rw [UInt8.toNat_add]; simp
theorem sbytesV_set1 (m : List UInt8) (j : Nat) (y : UInt8) : bytesV (m.set j y) = (bytesV m).set j (.int .u8 (y.toNat : Int)) := by simp [bytesV, List.map_set]
set_option maxRecDepth 100000 in
set_option maxHeartbeats 6400000 in
theorem law_turns (p0 : Option Addr) (n0 c0 : Nat) (ls : List (List UInt8)) (turn : Nat) (hturn : turn < 18446744073709551616) (w : World) (hE : Rdr.EType w) (hP : Pts w p0 n0 c0 ls) (hs : n0 + R02.total ls ≤ 4611686018427387904) :
    Calls Tryd.prog 3 #[.slice p0 n0 c0, .int .u64 (turn : Int)] w fun e w' => e = .returned (.bool true) ∧ Below w.heap.size w w' := by
  have HE := Lib.hid hE
  have HP := Lib.hid hP
  have HNP := Lib.hid hP.len
  have hla := hP.le
  have hma := hP.max
  have HFEW := Lib.hid (R02.few_any p0 n0 c0 ls 1000 w hP hs (by omega))
  have HB0 : Hid (Below w.heap.size w w) := Below.refl _ _
  clear hE hP
  by_cases hfew : n0 + R02.total ls ≤ 1000
  rotate_left
  · have HD : Hid (decide (n0 + R02.total ls ≤ 1000) = false) := decide_eq_false hfew
    clear hfew hs
    go_enter Tryd.func3, Tryd.ntmps3
    go_wp2_with fail
    refine HFEW.out.mono ?_
    rintro e w' ⟨rfl, rfl⟩
    rw [HD.out]
    skip
    go_wp2_with fail
    refine (alive21_any _ (HE.out.below (HB0.out) HE.out.lt)).mono ?_
    rintro e w99 ⟨rfl, hb99⟩
    have HB99 : Hid (Below w.heap.size w w99) := Below.trans (HB0.out) (hb99.mono (Below.size (HB0.out)))
    clear hb99
    go_wp2_with fail
    go_ret
    exact ⟨rfl, HB99.out⟩
  have HD : Hid (decide (n0 + R02.total ls ≤ 1000) = true) := decide_eq_true hfew
  have HTOT := Lib.hid hfew
  have HTR := Lib.hid hturn
  have HN : Hid (Calls Tryd.prog 8 #[.int .i64 65536] w fun e w' => ∃ db, e = .returned (.tuple #[.pointer (some ⟨db, 0, none⟩), .int .i64 0]) ∧ DX w.heap.size db (DD.new 65536) w' ∧ Below w.heap.size w w') := snew 65536 w (by omega)
  clear hfew hs hturn
  go_enter Tryd.func3, Tryd.ntmps3
  go_wp2_with fail
  refine HFEW.out.mono ?_
  rintro e w' ⟨rfl, rfl⟩
  rw [HD.out]
  clear HD HFEW
  go_wp2_with fail
  refine HN.out.mono ?_
  rintro e w1 ⟨db, rfl, hd1, hb1⟩
  have HX1 := Lib.hid hd1
  have HB1 := Lib.hid hb1
  clear hd1 hb1 HN
  go_upto_region 6 with fail
  by_cases ht0 : 0 < turn
  · have dt1 : decide ((0 : Int) < (turn : Int)) = true := decide_eq_true (by omega)
    have dt2 : decide (0 < turn) = true := decide_eq_true ht0
    obtain ⟨q1, q2, q3⟩ := turn_starts turn ht0 HTR.out
    have HQ1 := Lib.hid q1
    have HQ2 := Lib.hid q2
    have HQ3 := Lib.hid q3
    have HNU := Lib.hid (RW.number_any turn 8 HTR.out (by omega) w1)
    clear q1 q2 q3 ht0
    go_upto_region 7 with fail
    clear dt1 dt2
    go_wp2_with fail
    refine HNU.out.mono ?_
    rintro e w2 ⟨⟨v, rfl, ho2⟩, hb2⟩
    obtain ⟨p2, c2, rfl, -⟩ := own_sl ho2
    have hal : Below w2.heap.size w2 (w2.alloc (.cells #[.int .u8 7] 5)) := Below.allocs _ _
    have HNEW : Hid (Bs (w2.alloc (.cells #[.int .u8 7] 5)) (some ⟨w2.heap.size, 0, none⟩) 1 1 [7]) := Bs.made _ _ _ _ _ _ rfl rfl (by omega)
    have HOW : Hid ((w2.alloc (.cells #[.int .u8 7] 5)).ownsRow w1.heap.size 5 1 (.slice p2 8 c2) 8 (bytesV (be turn 8))) := own_touch ho2 (Turns.of_below (S := fun _ => False) hal) (fun _ _ h => h)
    have HB13 : Hid (Below w1.heap.size w1 (w2.alloc (.cells #[.int .u8 7] 5))) := hb2.trans (hal.mono hb2.size)
    clear hal ho2 hb2 HNU
    go_wp2_with (at_builtin; refine wpList_append_nx rfl _ _ 31 rfl (base := w1.heap.size) Tryd.underlying31 info8 rfl (by omega) rfl HOW.out rfl HNEW.out (bytesV_one _) ⟨by omega, by omega⟩ HB13.out.size ?_)
    intro p4 c4 w4 ho4 hg4 _ _
    have HB14 := Lib.hid (HB13.out.trans (own_below HOW.out hg4 HB13.out.size))
    have hl9 : (be turn 8 ++ [7]).length = 9 := by rw [List.length_append, be_length]; rfl
    have hbs4 : Bs w4 p4 9 c4 (be turn 8 ++ [7]) := Cut.own_bs (base := w1.heap.size) (by rw [bytesV_append]; exact ho4)
    have HRB := Lib.hid (Frm.rbytes_any p4 9 c4 (be turn 8 ++ [7]) w4 hbs4 (by omega))
    clear HNEW HOW HB13 ho4 hg4 hl9 hbs4
    go_wp2_with fail
    refine HRB.out.mono ?_
    rintro e w5 ⟨p5, c5, rfl, ho5, hb5⟩
    have HB15 := Lib.hid (HB14.out.trans (hb5.mono HB14.out.size))
    have HX5 := Lib.hid (HX1.out.below HB15.out)
    have hfl : (frame (be turn 8 ++ [7])).length = 17 := by rw [Frm.frame_length, List.length_append, be_length]; rfl
    have HAP := Lib.hid (xappend w5 HX5.out 0 (by omega) p5 _ c5 _ (Cut.own_bs ho5) (by omega) (by show 0 + 1 ≤ _; omega))
    rw [HQ1.out] at HAP
    clear ho5 hb5 hfl HRB HB14
    obtain ⟨DD0, hDD⟩ : ∃ DD0, doD (DD.new 65536) 0 (fD (DD.new 65536) 0) (.put (frame (be turn 8 ++ [7]))) = DD0 := ⟨_, rfl⟩
    rw [hDD] at HAP HQ2 HQ3
    clear hDD HQ1
    generalize frame (be turn 8 ++ [7]) = FR at *
    go_wp2_with fail
    refine HAP.out.mono ?_
    rintro e w6 ⟨rfl, hx6, hk6⟩
    have HX := Lib.hid hx6
    have HBS := Lib.hid ((HB1.out.trans (HB15.out.mono HB1.out.size)).trans (hk6.below (HB1.out.trans (HB15.out.mono HB1.out.size)).size))
    have HTU := HQ2
    have HOP := HQ3
    clear hx6 hk6 HAP HX5 HB15 HX1 HB1 HQ2 HQ3
    go_upto_region 9 with fail
    skip
    -- from Open on: world w6, HBS : Hid (Below w w w6), HX : Hid (DX .. D w6), HTU : Hid (TU D 20), HOP : Hid (opnS D 0 2 = s0), HT0 : Hid (s0.turn = turn ∧ s0.now ≠ 1)
    obtain ⟨s0, hop0, ht00⟩ : ∃ s0 : SS, Hid (opnS DD0 0 2 = s0) ∧ Hid (s0.turn = turn ∧ s0.now ≠ 1) := ⟨_, HOP, ⟨(by first | rfl | exact HTZ.out.symm), (fun h => absurd (show ((0) : Int) = 1 from h) (by decide))⟩⟩
    clear HOP
    have HOP := hop0
    have HT0 := ht00
    clear hop0 ht00
    have HO := Lib.hid (sopen_any w6 (HE.out.below HBS.out HE.out.lt) HX.out 0 2 (by omega) (by omega) (by omega) HTU.out.down)
    clear HX
    go_wp2_with fail
    refine HO.out.mono ?_
    rintro e w5 ⟨sb, rfl, hs5, hb5⟩
    rw [HOP.out] at hs5
    have HS5 := Lib.hid hs5
    have HB5 := Lib.hid (HBS.out.trans (hb5.mono HBS.out.size))
    clear hs5 hb5 HO HOP HBS
    go_wp2_with fail
    refine (turn_any w5 HS5.out).mono ?_
    rintro e w' ⟨rfl, rfl⟩
    rw [HT0.out.1]
    have hne0 : ((turn : Int) != (turn : Int)) = false := bne_self_eq_false _
    go_upto_region 12 with fail
    clear hne0
    go_wp2_with fail
    go_loopw [1, 57] (fun tv j wr => ∃ (i : Nat) (D : DD) (s : SS), i ≤ n0 ∧ j = .int .i64 i ∧ tv = .int .u64 (s.turn : Int) ∧ SX w.heap.size sb db 0 2 D s wr ∧ TU D (20 + 16 * i + R02.total (ls.take i)) ∧ s.now ≠ 1 ∧ Below w.heap.size w wr) (fun _ j _ => n0 - (intOf j).toNat)
    case atStart => exact ⟨0, DD0, s0, by omega, rfl, by rw [HT0.out.1], HS5.out, HTU.out.mono (by omega), HT0.out.2, HB5.out⟩
    case round =>
      clear HS5 HTU HT0 HB5
      obtain ⟨i, D, s, hi, rfl, rfl, hsx, htu, hnow, hbw⟩ := hrel
      have HSX := Lib.hid hsx
      have HTU := Lib.hid htu
      have HNW := Lib.hid hnow
      have HBW := Lib.hid hbw
      clear hsx htu hnow hbw
      by_cases hlt : i < n0
      · obtain ⟨b, o, rfl⟩ := HP.out.addr (by omega)
        have hil : i < ls.length := by rw [HNP.out]; exact hlt
        obtain ⟨q, m, dd, hc0, hbx0⟩ := HP.out.cell _ rfl i hil
        rw [add_none] at hc0
        have hcell := cell_below hc0 HBW.out
        have htt := total_take_succ ls i hil
        have htl := R02.total_le ls (i + 1)
        have hxl := hbx0.length
        generalize ls[i]'hil = x at *
        obtain rfl : x.length = m := hxl
        have HM1 : Hid (x.length ≤ 1000) := by show _ ≤ _; have := HTOT.out; omega
        have HUS : Hid (20 + 16 * i + R02.total (ls.take i) + (16 + x.length) ≤ 65536) := by show _ ≤ _; have := HTOT.out; omega
        have hdi : decide ((i : Int) < (n0 : Int)) = true := decide_eq_true (by omega)
        have hdi2 : decide (i < n0) = true := decide_eq_true hlt
        have HBX := Lib.hid hbx0
        have HTT := Lib.hid htt
        have hK : ∀ w', KT w.heap.size wr w' → Bs w' q x.length dd x := fun w' hk => HBX.out.below (HBW.out.trans (hk.below HBW.out.size))
        have HK := Lib.hid hK
        clear hc0 hbx0 htt htl hK
        go_upto_region 15 with fail
        go_wp2_with fail
        refine (file_any wr HSX.out).mono ?_
        rintro e w' ⟨rfl, rfl⟩
        clear hcell
        by_cases htn : s.turn + 1 < 18446744073709551616
        · have HTN := Lib.hid htn
          have hwt : IntKind.u64.wrap ((s.turn : Int) + 1) = ((s.turn + 1 : Nat) : Int) := by rw [IntKind.wrap_u64]; omega
          have hz1 : (((s.turn + 1 : Nat) : Int) == 0) = false := by rw [beq_eq_false_iff_ne]; omega
          have HPU := Lib.hid (putUp_any wr HSX.out (by omega) (by omega) q dd x HK.out (by have := HM1.out; omega) (N := 1) (by omega) HTU.out.few HTU.out.down HTU.out.fuse HTN.out (by rw [HTU.out.room]; have := HTU.out.used; have := HUS.out; omega))
          have hnx := nxt02 s
          have hwl := wrapB_len s x
          have HTU2 : Hid (TU (setF D (nxt s 0 2) (fS (wrapB s x))) (20 + 16 * (i + 1) + R02.total (ls.take (i + 1)))) := (HTU.out.put (show nxt s 0 2 < 3 by rcases hnx.1 with e | e <;> omega) (wrapB s x)).mono (by have := HTT.out; omega)
          have HNX := Lib.hid hnx
          clear htn hnx hwl
          obtain ⟨NX, hNX⟩ : ∃ NX, nxt s 0 2 = NX := ⟨_, rfl⟩
          rw [hNX] at HPU HTU2 HNX
          obtain ⟨D2, hD2⟩ : ∃ D2, setF D NX (fS (wrapB s x)) = D2 := ⟨_, rfl⟩
          rw [hD2] at HPU HTU2
          clear hD2 hNX
          have hf1 : ((NX : Int) == s.now) = false := beq_eq_false_iff_ne.2 HNX.out.2
          have hf2 : ((NX : Int) == 1) = false := by rw [beq_eq_false_iff_ne]; rcases HNX.out.1 with e | e <;> omega
          have HN1 : Hid ((NX : Int) ≠ 1) := by show ¬ _; rcases HNX.out.1 with e | e <;> omega
          clear HNX
          obtain ⟨NW, hNW⟩ : ∃ NW, s.now = NW := ⟨_, rfl⟩
          rw [hNW] at hf1 ⊢
          obtain ⟨TN, hTN⟩ : ∃ TN, s.turn + 1 = TN := ⟨_, rfl⟩
          rw [hTN] at hwt hz1 HPU
          have HTNE := Lib.hid hTN
          clear hTN hNW
          generalize s.turn = T0 at *
          go_wp2_with fail
          refine HPU.out.mono ?_
          rintro e w6 ⟨rfl, hs6, hk6⟩
          have HS6 := Lib.hid hs6
          have HB6 := Lib.hid (HBW.out.trans (hk6.below HBW.out.size))
          have hg := get_any w6 hs6 (fun h => absurd (show TN = 0 from h) (by have := HTNE.out; omega)) (by show x.length ≤ _; have := HM1.out; omega)
          unfold GetP at hg
          have h0t : decide (0 < TN) = true := decide_eq_true (by have := HTNE.out; omega)
          rw [h0t] at hg
          have HG := Lib.hid hg
          clear hs6 hk6 HPU hg h0t
          go_wp2_with fail
          refine HG.out.mono ?_
          rintro e w7 ⟨p7, c7, rfl, ho7, hb7⟩
          have HS7 := Lib.hid (HS6.out.below hb7)
          have HB7 := Lib.hid (HB6.out.trans (hb7.mono HB6.out.size))
          have HO7 := Lib.hid ho7
          have HB67 := Lib.hid hb7
          have hcv1 := Cut.bconv (Cut.own_bs ho7)
          have hcv2 := Cut.bconv (HBX.out.below HB7.out)
          have hqt : ((TN : Int) != (TN : Int)) = false := bne_self_eq_false _
          clear ho7 hb7 HG
          go_wp2_with fail
          refine (turn_any w7 HS7.out).mono ?_
          rintro e w' ⟨rfl, rfl⟩
          go_wp2_with fail
          refine (file_any w7 HS7.out).mono ?_
          rintro e w' ⟨rfl, rfl⟩
          go_wp2_with fail
          refine (file_any w7 HS7.out).mono ?_
          rintro e w' ⟨rfl, rfl⟩
          go_wp2_with fail
          clear hcv1 hcv2 hqt hf1 hf2
          obtain ⟨mm, hmm⟩ : ∃ mm, x.length = mm := ⟨_, rfl⟩
          have HMM := Lib.hid hmm
          rw [hmm] at HO7 ⊢
          clear hmm
          have hmx : mm ≤ 1000 := by have := HMM.out; have := HM1.out; omega
          go_loopw [116] (fun j wz => ∃ (y : Nat) (l : List UInt8), y ≤ mm ∧ j = .int .i64 y ∧ l.length = mm ∧ wz.ownsRow w6.heap.size 5 1 (.slice p7 mm c7) mm (bytesV l) ∧ Turns (fun k => (Value.slice p7 mm c7).ownBlock = some k) w7 wz) (fun j _ => mm - (intOf j).toNat)
          case atStart => exact ⟨0, x, by omega, rfl, HMM.out, HO7.out, Turns.refl _ _⟩
          case round =>
            obtain ⟨y, l, hy, rfl, hll, hown, htu⟩ := hrel
            have HOW := Lib.hid hown
            have HTN2 := Lib.hid htu
            have HLL := Lib.hid hll
            clear hown htu hll
            by_cases hlty : y < mm
            · have hdk : decide ((y : Int) < (mm : Int)) = true := decide_eq_true (by omega)
              have hdk2 : decide (y < mm) = true := decide_eq_true hlty
              obtain ⟨g, cap, hp9, _, hcap1, hcap2⟩ := own_some HOW.out (by intro e; cases e; omega)
              cases hp9
              have hj : y < l.length := by rw [HLL.out]; omega
              have hcell : wr.cell? ⟨g, y, none⟩ = some (.int .u8 ((l[y]'hj).toNat : Int)) := by
                have := HOW.out.cellAt y (by omega)
                rw [this, bytesV_get _ _ hj]
              have hfz := HOW.out.frozenAt y
              have HSTO : Hid ((wr.setCell ⟨g, y, none⟩ (.int .u8 ((((l[y]'hj).toNat : Int) + 1) % 256))).ownsRow w6.heap.size 5 1 (.slice (some ⟨g, 0, none⟩) mm c7) mm (bytesV (l.set y ((l[y]'hj) + 1)))) := by
                rw [su8_add1, sbytesV_set1]
                exact (HOW.out.stored y _).1
              generalize l[y]'hj = y9 at *
              have hyl : y9.toNat < 256 := y9.toNat_lt
              go_wp2_with fail
              go_roundw
              case rel => exact ⟨y + 1, _, by omega, by go_num, by rw [List.length_set]; exact HLL.out, HSTO.out, HTN2.out.setCell (p := ⟨g, y, none⟩) (fun _ => rfl) _⟩
              case measure => simp [intOf]; omega
            · have hdk : decide ((y : Int) < (mm : Int)) = false := decide_eq_false (by omega)
              have hdk2 : decide (y < mm) = false := decide_eq_false hlty
              have hbz := HB67.out.trans (HTN2.out.below HB67.out.size (fun k hk => (HO7.out.lt k hk).1))
              have HSZ := Lib.hid (HS6.out.below hbz)
              have HBZ := Lib.hid (HB6.out.trans (hbz.mono HB6.out.size))
              have hg := get_any wr HSZ.out (fun h => absurd (show TN = 0 from h) (by have := HTNE.out; omega)) (by show x.length ≤ _; have := HM1.out; omega)
              unfold GetP at hg
              have HG := Lib.hid hg
              clear hbz hg HOW HTN2 HLL
              go_wp2_with fail
              refine HG.out.mono ?_
              rintro e w8 ⟨p8, c8, rfl, ho8, hb8⟩
              have HS8 := Lib.hid (HSZ.out.below hb8)
              have HB8 := Lib.hid (HBZ.out.trans (hb8.mono HBZ.out.size))
              have hcv1 := Cut.bconv (Cut.own_bs ho8)
              have hcv2 : (convert 31 9 (.slice q mm dd)).run Tryd.prog w8 = .ok (.string (S x)) w8 := Cut.bconv (n := mm) (by have := HBX.out.below HB8.out; rwa [HMM.out] at this)
              clear ho8 hb8 HG HSZ HBZ
              go_wp2_with fail
              go_roundw
              case rel => exact ⟨i + 1, D2, ⟨(NX : Int), TN, x⟩, by omega, by go_num, rfl, HS8.out, HTU2.out, HN1.out, HB8.out⟩
              case measure => simp [intOf]; omega
        · have hwt : IntKind.u64.wrap ((s.turn : Int) + 1) = ((0 : Nat) : Int) := by
            have := HSX.out.turn
            rw [IntKind.wrap_u64]; omega
          have hz1 : ((((0 : Nat) : Nat) : Int) == 0) = true := rfl
          have hp := sput_any (N := 1) wr HSX.out (by omega) (by omega) q dd x HK.out (by have := HM1.out; omega) (by omega) HTU.out.few
          unfold SPutP at hp
          obtain ⟨e1, e2, e3⟩ := put_last (d := D) (a := 0) (b := 2) (x := x) htn
          rw [e1, e2, e3] at hp
          have HPU := Lib.hid hp
          clear hp e1 e2 e3 htn
          have hqt : ((s.turn : Int) != (s.turn : Int)) = false := bne_self_eq_false _
          go_wp2_with fail
          refine HPU.out.mono ?_
          rintro e w6 ⟨rfl, hs6, hk6⟩
          have HS6 := Lib.hid hs6
          have HB6 := Lib.hid (HBW.out.trans (hk6.below HBW.out.size))
          have HTU2 : Hid (TU D (20 + 16 * (i + 1) + R02.total (ls.take (i + 1)))) := HTU.out.mono (by have := HTT.out; omega)
          clear hs6 hk6 HPU HSX
          go_wp2_with fail
          refine (turn_any w6 HS6.out).mono ?_
          rintro e w' ⟨rfl, rfl⟩
          go_wp2_with fail
          go_roundw
          case rel => exact ⟨i + 1, D, s, by omega, by go_num, rfl, HS6.out, HTU2.out, HNW.out, HB6.out⟩
          case measure => simp [intOf]; omega
      · have hdi : decide ((i : Int) < (n0 : Int)) = false := decide_eq_false (by omega)
        have hdi2 : decide (i < n0) = false := decide_eq_false hlt
        have HBE := Lib.hid HBW.out
        clear HSX HTU HNW
        skip
        go_wp2_with fail
        refine (alive21_any _ (HE.out.below (HBE.out) HE.out.lt)).mono ?_
        rintro e w99 ⟨rfl, hb99⟩
        have HB99 : Hid (Below w.heap.size w w99) := Below.trans (HBE.out) (hb99.mono (Below.size (HBE.out)))
        clear hb99
        go_wp2_with fail
        go_ret
        exact ⟨rfl, HB99.out⟩
  · have htz : turn = 0 := by omega
    have dt1 : decide ((0 : Int) < (turn : Int)) = false := decide_eq_false (by omega)
    have dt2 : decide (0 < turn) = false := decide_eq_false ht0
    have HTZ := Lib.hid htz
    have HTU := Lib.hid TU.new
    have HOP := Lib.hid (opn_new 65536 0 2 (by omega) (by omega))
    have HX := HX1
    have HBS := HB1
    clear ht0 htz HX1 HB1
    go_upto_region 9 with fail
    clear dt1 dt2
    -- from Open on: world w1, HBS : Hid (Below w w w1), HX : Hid (DX .. D w1), HTU : Hid (TU D 20), HOP : Hid (opnS D 0 2 = s0), HT0 : Hid (s0.turn = turn ∧ s0.now ≠ 1)
    obtain ⟨s0, hop0, ht00⟩ : ∃ s0 : SS, Hid (opnS (DD.new 65536) 0 2 = s0) ∧ Hid (s0.turn = turn ∧ s0.now ≠ 1) := ⟨_, HOP, ⟨(by first | rfl | exact HTZ.out.symm), (fun h => absurd (show ((-1) : Int) = 1 from h) (by decide))⟩⟩
    clear HOP
    have HOP := hop0
    have HT0 := ht00
    clear hop0 ht00
    have HO := Lib.hid (sopen_any w1 (HE.out.below HBS.out HE.out.lt) HX.out 0 2 (by omega) (by omega) (by omega) HTU.out.down)
    clear HX
    go_wp2_with fail
    refine HO.out.mono ?_
    rintro e w5 ⟨sb, rfl, hs5, hb5⟩
    rw [HOP.out] at hs5
    have HS5 := Lib.hid hs5
    have HB5 := Lib.hid (HBS.out.trans (hb5.mono HBS.out.size))
    clear hs5 hb5 HO HOP HBS
    go_wp2_with fail
    refine (turn_any w5 HS5.out).mono ?_
    rintro e w' ⟨rfl, rfl⟩
    rw [HT0.out.1]
    have hne0 : ((turn : Int) != (turn : Int)) = false := bne_self_eq_false _
    go_upto_region 12 with fail
    clear hne0
    go_wp2_with fail
    go_loopw [1, 57] (fun tv j wr => ∃ (i : Nat) (D : DD) (s : SS), i ≤ n0 ∧ j = .int .i64 i ∧ tv = .int .u64 (s.turn : Int) ∧ SX w.heap.size sb db 0 2 D s wr ∧ TU D (20 + 16 * i + R02.total (ls.take i)) ∧ s.now ≠ 1 ∧ Below w.heap.size w wr) (fun _ j _ => n0 - (intOf j).toNat)
    case atStart => exact ⟨0, (DD.new 65536), s0, by omega, rfl, by rw [HT0.out.1], HS5.out, HTU.out.mono (by omega), HT0.out.2, HB5.out⟩
    case round =>
      clear HS5 HTU HT0 HB5
      obtain ⟨i, D, s, hi, rfl, rfl, hsx, htu, hnow, hbw⟩ := hrel
      have HSX := Lib.hid hsx
      have HTU := Lib.hid htu
      have HNW := Lib.hid hnow
      have HBW := Lib.hid hbw
      clear hsx htu hnow hbw
      by_cases hlt : i < n0
      · obtain ⟨b, o, rfl⟩ := HP.out.addr (by omega)
        have hil : i < ls.length := by rw [HNP.out]; exact hlt
        obtain ⟨q, m, dd, hc0, hbx0⟩ := HP.out.cell _ rfl i hil
        rw [add_none] at hc0
        have hcell := cell_below hc0 HBW.out
        have htt := total_take_succ ls i hil
        have htl := R02.total_le ls (i + 1)
        have hxl := hbx0.length
        generalize ls[i]'hil = x at *
        obtain rfl : x.length = m := hxl
        have HM1 : Hid (x.length ≤ 1000) := by show _ ≤ _; have := HTOT.out; omega
        have HUS : Hid (20 + 16 * i + R02.total (ls.take i) + (16 + x.length) ≤ 65536) := by show _ ≤ _; have := HTOT.out; omega
        have hdi : decide ((i : Int) < (n0 : Int)) = true := decide_eq_true (by omega)
        have hdi2 : decide (i < n0) = true := decide_eq_true hlt
        have HBX := Lib.hid hbx0
        have HTT := Lib.hid htt
        have hK : ∀ w', KT w.heap.size wr w' → Bs w' q x.length dd x := fun w' hk => HBX.out.below (HBW.out.trans (hk.below HBW.out.size))
        have HK := Lib.hid hK
        clear hc0 hbx0 htt htl hK
        go_upto_region 15 with fail
        go_wp2_with fail
        refine (file_any wr HSX.out).mono ?_
        rintro e w' ⟨rfl, rfl⟩
        clear hcell
        by_cases htn : s.turn + 1 < 18446744073709551616
        · have HTN := Lib.hid htn
          have hwt : IntKind.u64.wrap ((s.turn : Int) + 1) = ((s.turn + 1 : Nat) : Int) := by rw [IntKind.wrap_u64]; omega
          have hz1 : (((s.turn + 1 : Nat) : Int) == 0) = false := by rw [beq_eq_false_iff_ne]; omega
          have HPU := Lib.hid (putUp_any wr HSX.out (by omega) (by omega) q dd x HK.out (by have := HM1.out; omega) (N := 1) (by omega) HTU.out.few HTU.out.down HTU.out.fuse HTN.out (by rw [HTU.out.room]; have := HTU.out.used; have := HUS.out; omega))
          have hnx := nxt02 s
          have hwl := wrapB_len s x
          have HTU2 : Hid (TU (setF D (nxt s 0 2) (fS (wrapB s x))) (20 + 16 * (i + 1) + R02.total (ls.take (i + 1)))) := (HTU.out.put (show nxt s 0 2 < 3 by rcases hnx.1 with e | e <;> omega) (wrapB s x)).mono (by have := HTT.out; omega)
          have HNX := Lib.hid hnx
          clear htn hnx hwl
          obtain ⟨NX, hNX⟩ : ∃ NX, nxt s 0 2 = NX := ⟨_, rfl⟩
          rw [hNX] at HPU HTU2 HNX
          obtain ⟨D2, hD2⟩ : ∃ D2, setF D NX (fS (wrapB s x)) = D2 := ⟨_, rfl⟩
          rw [hD2] at HPU HTU2
          clear hD2 hNX
          have hf1 : ((NX : Int) == s.now) = false := beq_eq_false_iff_ne.2 HNX.out.2
          have hf2 : ((NX : Int) == 1) = false := by rw [beq_eq_false_iff_ne]; rcases HNX.out.1 with e | e <;> omega
          have HN1 : Hid ((NX : Int) ≠ 1) := by show ¬ _; rcases HNX.out.1 with e | e <;> omega
          clear HNX
          obtain ⟨NW, hNW⟩ : ∃ NW, s.now = NW := ⟨_, rfl⟩
          rw [hNW] at hf1 ⊢
          obtain ⟨TN, hTN⟩ : ∃ TN, s.turn + 1 = TN := ⟨_, rfl⟩
          rw [hTN] at hwt hz1 HPU
          have HTNE := Lib.hid hTN
          clear hTN hNW
          generalize s.turn = T0 at *
          go_wp2_with fail
          refine HPU.out.mono ?_
          rintro e w6 ⟨rfl, hs6, hk6⟩
          have HS6 := Lib.hid hs6
          have HB6 := Lib.hid (HBW.out.trans (hk6.below HBW.out.size))
          have hg := get_any w6 hs6 (fun h => absurd (show TN = 0 from h) (by have := HTNE.out; omega)) (by show x.length ≤ _; have := HM1.out; omega)
          unfold GetP at hg
          have h0t : decide (0 < TN) = true := decide_eq_true (by have := HTNE.out; omega)
          rw [h0t] at hg
          have HG := Lib.hid hg
          clear hs6 hk6 HPU hg h0t
          go_wp2_with fail
          refine HG.out.mono ?_
          rintro e w7 ⟨p7, c7, rfl, ho7, hb7⟩
          have HS7 := Lib.hid (HS6.out.below hb7)
          have HB7 := Lib.hid (HB6.out.trans (hb7.mono HB6.out.size))
          have HO7 := Lib.hid ho7
          have HB67 := Lib.hid hb7
          have hcv1 := Cut.bconv (Cut.own_bs ho7)
          have hcv2 := Cut.bconv (HBX.out.below HB7.out)
          have hqt : ((TN : Int) != (TN : Int)) = false := bne_self_eq_false _
          clear ho7 hb7 HG
          go_wp2_with fail
          refine (turn_any w7 HS7.out).mono ?_
          rintro e w' ⟨rfl, rfl⟩
          go_wp2_with fail
          refine (file_any w7 HS7.out).mono ?_
          rintro e w' ⟨rfl, rfl⟩
          go_wp2_with fail
          refine (file_any w7 HS7.out).mono ?_
          rintro e w' ⟨rfl, rfl⟩
          go_wp2_with fail
          clear hcv1 hcv2 hqt hf1 hf2
          obtain ⟨mm, hmm⟩ : ∃ mm, x.length = mm := ⟨_, rfl⟩
          have HMM := Lib.hid hmm
          rw [hmm] at HO7 ⊢
          clear hmm
          have hmx : mm ≤ 1000 := by have := HMM.out; have := HM1.out; omega
          go_loopw [116] (fun j wz => ∃ (y : Nat) (l : List UInt8), y ≤ mm ∧ j = .int .i64 y ∧ l.length = mm ∧ wz.ownsRow w6.heap.size 5 1 (.slice p7 mm c7) mm (bytesV l) ∧ Turns (fun k => (Value.slice p7 mm c7).ownBlock = some k) w7 wz) (fun j _ => mm - (intOf j).toNat)
          case atStart => exact ⟨0, x, by omega, rfl, HMM.out, HO7.out, Turns.refl _ _⟩
          case round =>
            obtain ⟨y, l, hy, rfl, hll, hown, htu⟩ := hrel
            have HOW := Lib.hid hown
            have HTN2 := Lib.hid htu
            have HLL := Lib.hid hll
            clear hown htu hll
            by_cases hlty : y < mm
            · have hdk : decide ((y : Int) < (mm : Int)) = true := decide_eq_true (by omega)
              have hdk2 : decide (y < mm) = true := decide_eq_true hlty
              obtain ⟨g, cap, hp9, _, hcap1, hcap2⟩ := own_some HOW.out (by intro e; cases e; omega)
              cases hp9
              have hj : y < l.length := by rw [HLL.out]; omega
              have hcell : wr.cell? ⟨g, y, none⟩ = some (.int .u8 ((l[y]'hj).toNat : Int)) := by
                have := HOW.out.cellAt y (by omega)
                rw [this, bytesV_get _ _ hj]
              have hfz := HOW.out.frozenAt y
              have HSTO : Hid ((wr.setCell ⟨g, y, none⟩ (.int .u8 ((((l[y]'hj).toNat : Int) + 1) % 256))).ownsRow w6.heap.size 5 1 (.slice (some ⟨g, 0, none⟩) mm c7) mm (bytesV (l.set y ((l[y]'hj) + 1)))) := by
                rw [su8_add1, sbytesV_set1]
                exact (HOW.out.stored y _).1
              generalize l[y]'hj = y9 at *
              have hyl : y9.toNat < 256 := y9.toNat_lt
              go_wp2_with fail
              go_roundw
              case rel => exact ⟨y + 1, _, by omega, by go_num, by rw [List.length_set]; exact HLL.out, HSTO.out, HTN2.out.setCell (p := ⟨g, y, none⟩) (fun _ => rfl) _⟩
              case measure => simp [intOf]; omega
            · have hdk : decide ((y : Int) < (mm : Int)) = false := decide_eq_false (by omega)
              have hdk2 : decide (y < mm) = false := decide_eq_false hlty
              have hbz := HB67.out.trans (HTN2.out.below HB67.out.size (fun k hk => (HO7.out.lt k hk).1))
              have HSZ := Lib.hid (HS6.out.below hbz)
              have HBZ := Lib.hid (HB6.out.trans (hbz.mono HB6.out.size))
              have hg := get_any wr HSZ.out (fun h => absurd (show TN = 0 from h) (by have := HTNE.out; omega)) (by show x.length ≤ _; have := HM1.out; omega)
              unfold GetP at hg
              have HG := Lib.hid hg
              clear hbz hg HOW HTN2 HLL
              go_wp2_with fail
              refine HG.out.mono ?_
              rintro e w8 ⟨p8, c8, rfl, ho8, hb8⟩
              have HS8 := Lib.hid (HSZ.out.below hb8)
              have HB8 := Lib.hid (HBZ.out.trans (hb8.mono HBZ.out.size))
              have hcv1 := Cut.bconv (Cut.own_bs ho8)
              have hcv2 : (convert 31 9 (.slice q mm dd)).run Tryd.prog w8 = .ok (.string (S x)) w8 := Cut.bconv (n := mm) (by have := HBX.out.below HB8.out; rwa [HMM.out] at this)
              clear ho8 hb8 HG HSZ HBZ
              go_wp2_with fail
              go_roundw
              case rel => exact ⟨i + 1, D2, ⟨(NX : Int), TN, x⟩, by omega, by go_num, rfl, HS8.out, HTU2.out, HN1.out, HB8.out⟩
              case measure => simp [intOf]; omega
        · have hwt : IntKind.u64.wrap ((s.turn : Int) + 1) = ((0 : Nat) : Int) := by
            have := HSX.out.turn
            rw [IntKind.wrap_u64]; omega
          have hz1 : ((((0 : Nat) : Nat) : Int) == 0) = true := rfl
          have hp := sput_any (N := 1) wr HSX.out (by omega) (by omega) q dd x HK.out (by have := HM1.out; omega) (by omega) HTU.out.few
          unfold SPutP at hp
          obtain ⟨e1, e2, e3⟩ := put_last (d := D) (a := 0) (b := 2) (x := x) htn
          rw [e1, e2, e3] at hp
          have HPU := Lib.hid hp
          clear hp e1 e2 e3 htn
          have hqt : ((s.turn : Int) != (s.turn : Int)) = false := bne_self_eq_false _
          go_wp2_with fail
          refine HPU.out.mono ?_
          rintro e w6 ⟨rfl, hs6, hk6⟩
          have HS6 := Lib.hid hs6
          have HB6 := Lib.hid (HBW.out.trans (hk6.below HBW.out.size))
          have HTU2 : Hid (TU D (20 + 16 * (i + 1) + R02.total (ls.take (i + 1)))) := HTU.out.mono (by have := HTT.out; omega)
          clear hs6 hk6 HPU HSX
          go_wp2_with fail
          refine (turn_any w6 HS6.out).mono ?_
          rintro e w' ⟨rfl, rfl⟩
          go_wp2_with fail
          go_roundw
          case rel => exact ⟨i + 1, D, s, by omega, by go_num, rfl, HS6.out, HTU2.out, HNW.out, HB6.out⟩
          case measure => simp [intOf]; omega
      · have hdi : decide ((i : Int) < (n0 : Int)) = false := decide_eq_false (by omega)
        have hdi2 : decide (i < n0) = false := decide_eq_false hlt
        have HBE := Lib.hid HBW.out
        clear HSX HTU HNW
        skip
        go_wp2_with fail
        refine (alive21_any _ (HE.out.below (HBE.out) HE.out.lt)).mono ?_
        rintro e w99 ⟨rfl, hb99⟩
        have HB99 : Hid (Below w.heap.size w w99) := Below.trans (HBE.out) (hb99.mono (Below.size (HBE.out)))
        clear hb99
        go_wp2_with fail
        go_ret
        exact ⟨rfl, HB99.out⟩
end Go.Proofs.YtgmahahhkaofbaaDoor.Slt
