/- PARTS, JOINED: PLAIN PART OF SlotKeeps: snapshots put while a fuse burns, and what a crash leaves. Conditions: none. LAYER 21: the statement's own words: alive; a disk made, armed, crashed. Conditions: the laid cell of errors.errorType. LAYER 18: the document's example. Conditions: none. THE WALKS OF A DISK: nil, and one that no call made; DiskNil. Conditions: none. LAYER 21: SlotNil: no slots of a nil disk, of files that there are not, or of one file twice; nil slots, and such that no call made. Conditions: the laid cell of errors.errorType. -/
import Derived.Test.YtgmahahhkaofbaaDoorSn1
import Derived.Test.YtgmahahhkaofbaaDoorSn2
import Derived.Test.YtgmahahhkaofbaaDoorSn3
import Derived.Test.YtgmahahhkaofbaaDoorSn4
import Derived.Test.YtgmahahhkaofbaaDoorSn5
import Derived.Test.YtgmahahhkaofbaaDoorSn6
import Derived.Test.YtgmahahhkaofbaaDoorSn7
import Derived.Test.YtgmahahhkaofbaaDoorSn8
import Derived.Laws.Cover3
namespace Go.Proofs.YtgmahahhkaofbaaDoor.Slt
open Go.RowKit Go.Mir Dk Rol Wr
open Frm (frame one frame_length one_frame0 one_torn)

/-- the same files, another fuse -/
def wF (d : DD) (fz : Nat) (dn : Bool) : DD := ⟨d.fs, d.room, fz, dn⟩
theorem do_fz {d : DD} {i : Nat} {f : FD} {s : St} (h1 : d.down = false) (h : usedL d.fs - f.need + max f.need (s.size f.now.length) ≤ d.room) :
    (doE d i f s = 0 ∧ doD d i f s = wF (setF d i (f.take s)) (d.fuse - 1) false) ∨ (doE d i f s = 18 ∧ doD d i f s = wF (setF d i (f.take s)) 0 true) := by
  obtain ⟨fs, room, fuse, down⟩ := d
  have h1 : down = false := h1
  subst h1
  unfold doE doD
  rw [if_neg (show ¬ (DD.mk fs room fuse false).down = true from Bool.false_ne_true), if_neg (Nat.not_lt.2 h), if_neg (show ¬ (DD.mk fs room fuse false).down = true from Bool.false_ne_true), if_neg (Nat.not_lt.2 h)]
  unfold DD.burn setF wF
  dsimp only
  by_cases h0 : 0 < fuse
  · rw [if_pos h0]
    by_cases h2 : fuse = 1
    · subst h2; exact .inr ⟨rfl, rfl⟩
    · rw [decide_eq_false h2]; exact .inl ⟨rfl, rfl⟩
  · obtain rfl : fuse = 0 := by omega
    exact .inl ⟨rfl, rfl⟩
theorem sync_fz {d : DD} {i : Nat} {f : FD} (h1 : d.down = false) :
    (syncE d = 0 ∧ syncD d i f = wF (setF d i (f.settle (unitsAll f.steps))) (d.fuse - 1) false) ∨ (syncE d = 18 ∧ syncD d i f = wF d 0 true) := by
  obtain ⟨fs, room, fuse, down⟩ := d
  have h1 : down = false := h1
  subst h1
  unfold syncE syncD
  rw [if_neg (show ¬ (DD.mk fs room fuse false).down = true from Bool.false_ne_true), if_neg (show ¬ (DD.mk fs room fuse false).down = true from Bool.false_ne_true)]
  unfold DD.burn setF wF
  dsimp only
  by_cases h0 : 0 < fuse
  · rw [if_pos h0]
    by_cases h2 : fuse = 1
    · subst h2; exact .inr ⟨rfl, rfl⟩
    · rw [decide_eq_false h2]; exact .inl ⟨rfl, rfl⟩
  · obtain rfl : fuse = 0 := by omega
    exact .inl ⟨rfl, rfl⟩
theorem lay_nil (i : Nat) (d : DD) : layD i [] d = d := rfl
theorem wF_wF (d : DD) (a b : Nat) (x y : Bool) : wF (wF d a x) b y = wF d b y := rfl
theorem setF_wF (d : DD) (a : Nat) (x : Bool) (i : Nat) (f : FD) : setF (wF d a x) i f = wF (setF d i f) a x := rfl
theorem fD_wF (d : DD) (a : Nat) (x : Bool) (i : Nat) : fD (wF d a x) i = fD d i := rfl
/-- how a file stands in which the disk went down -/
def Torn (y fr : List UInt8) (g : FD) : Prop := g = ⟨y, [], [.cut 0], y.length⟩ ∨ g = ⟨[], fr, [.put fr], fr.length⟩
theorem put2_fz {d : DD} {i : Nat} {fr : List UInt8} (hi : i < d.fs.length) (h1 : d.down = false) (hf : fD d i = fS []) (hr : usedL d.fs + fr.length ≤ d.room) :
    (∃ k, layE i [.put fr, .sync] d = 0 ∧ layD i [.put fr, .sync] d = wF (setF d i (fS fr)) k false) ∨ (layE i [.put fr, .sync] d = 18 ∧ layD i [.put fr, .sync] d = wF (setF d i ⟨[], fr, [.put fr], fr.length⟩) 0 true) := by
  have ht : (fS []).take (.put fr) = ⟨[], fr, [.put fr], fr.length⟩ := by rw [take_put, List.nil_append, List.length_nil, Nat.zero_add]
  have hst : (⟨[], fr, [.put fr], fr.length⟩ : FD).settle (unitsAll [.put fr]) = fS fr := by
    have := settle_put [] fr fr.length
    rwa [List.nil_append] at this
  rcases do_fz (i := i) (f := fD d i) (s := .put fr) h1 (by rw [hf]; show usedL d.fs - 0 + max 0 (0 + fr.length) ≤ _; omega) with ⟨e1, e2⟩ | ⟨e1, e2⟩
  · rw [hf, ht] at e2
    have e1' : stpE d i (.put fr) = 0 := e1
    have e2' : stpD d i (.put fr) = wF (setF d i ⟨[], fr, [.put fr], fr.length⟩) (d.fuse - 1) false := by
      show doD d i (fD d i) (.put fr) = _
      rw [hf]; exact e2
    obtain ⟨c1, c2⟩ := lay_ok (r := [.sync]) e1'
    rw [c1, c2, e2']
    have hfd : fD (wF (setF d i ⟨[], fr, [.put fr], fr.length⟩) (d.fuse - 1) false) i = ⟨[], fr, [.put fr], fr.length⟩ := fD_set hi _
    rcases sync_fz (d := wF (setF d i ⟨[], fr, [.put fr], fr.length⟩) (d.fuse - 1) false) (i := i) (f := ⟨[], fr, [.put fr], fr.length⟩) rfl with ⟨g1, g2⟩ | ⟨g1, g2⟩
    · rw [hst, setF_wF, setF_setF, wF_wF] at g2
      obtain ⟨k1, k2⟩ := lay_ok (i := i) (a := .sync) (r := []) (d := wF (setF d i ⟨[], fr, [.put fr], fr.length⟩) (d.fuse - 1) false) g1
      rw [k1, k2]
      refine .inl ⟨d.fuse - 1 - 1, rfl, ?_⟩
      rw [lay_nil]
      show syncD _ i (fD _ i) = _
      rw [hfd]; exact g2
    · rw [wF_wF] at g2
      have hne : ¬ stpE (wF (setF d i ⟨[], fr, [.put fr], fr.length⟩) (d.fuse - 1) false) i .sync = 0 := by
        show ¬ syncE _ = 0
        rw [g1]; decide
      obtain ⟨k1, k2⟩ := lay_no (r := []) hne
      rw [k1, k2]
      refine .inr ⟨g1, ?_⟩
      show syncD _ i (fD _ i) = _
      rw [hfd]; exact g2
  · rw [hf, ht] at e2
    have hne : ¬ stpE d i (.put fr) = 0 := by
      show ¬ doE d i (fD d i) (.put fr) = 0
      rw [e1]; decide
    obtain ⟨c1, c2⟩ := lay_no (r := [.sync]) hne
    rw [c1, c2]
    refine .inr ⟨e1, ?_⟩
    show doD d i (fD d i) (.put fr) = _
    rw [hf]; exact e2
theorem lay_fz {d : DD} {i : Nat} {y fr : List UInt8} (hi : i < d.fs.length) (h1 : d.down = false) (hf : fD d i = fS y) (hr : usedL d.fs + fr.length ≤ d.room) :
    (∃ k, layE i (acts d i fr) d = 0 ∧ layD i (acts d i fr) d = wF (setF d i (fS fr)) k false) ∨ (layE i (acts d i fr) d = 18 ∧ ∃ g, Torn y fr g ∧ layD i (acts d i fr) d = wF (setF d i g) 0 true) := by
  have hm := usedL_mem hi
  rw [fD_eq hi, hf] at hm
  have hm : y.length ≤ usedL d.fs := hm
  unfold acts
  by_cases hfu : full d i = true
  · rw [if_pos hfu]
    have ht : (fS y).take (.cut 0) = ⟨y, [], [.cut 0], y.length⟩ := by rw [take_cut y 0 (Nat.zero_le _), List.take_zero]
    have hst : (⟨y, [], [.cut 0], y.length⟩ : FD).settle (unitsAll [.cut 0]) = fS [] := by
      have := settle_cut y 0 y.length
      rwa [List.take_zero] at this
    rcases do_fz (i := i) (f := fD d i) (s := .cut 0) h1 (by rw [hf]; show usedL d.fs - y.length + max y.length 0 ≤ _; omega) with ⟨e1, e2⟩ | ⟨e1, e2⟩
    · rw [hf, ht] at e2
      have e1' : stpE d i .cut = 0 := e1
      have e2' : stpD d i .cut = wF (setF d i ⟨y, [], [.cut 0], y.length⟩) (d.fuse - 1) false := by
        show doD d i (fD d i) (.cut 0) = _
        rw [hf]; exact e2
      obtain ⟨c1, c2⟩ := lay_ok (r := [.sync, .put fr, .sync]) e1'
      rw [c1, c2, e2']
      have hfd : fD (wF (setF d i ⟨y, [], [.cut 0], y.length⟩) (d.fuse - 1) false) i = ⟨y, [], [.cut 0], y.length⟩ := fD_set hi _
      rcases sync_fz (d := wF (setF d i ⟨y, [], [.cut 0], y.length⟩) (d.fuse - 1) false) (i := i) (f := ⟨y, [], [.cut 0], y.length⟩) rfl with ⟨g1, g2⟩ | ⟨g1, g2⟩
      · rw [hst, setF_wF, setF_setF, wF_wF] at g2
        have g2' : stpD (wF (setF d i ⟨y, [], [.cut 0], y.length⟩) (d.fuse - 1) false) i .sync = wF (setF d i (fS [])) (d.fuse - 1 - 1) false := by
          show syncD _ i (fD _ i) = _
          rw [hfd]; exact g2
        obtain ⟨k1, k2⟩ := lay_ok (i := i) (a := .sync) (r := [.put fr, .sync]) (d := wF (setF d i ⟨y, [], [.cut 0], y.length⟩) (d.fuse - 1) false) g1
        rw [k1, k2, g2']
        have hu := used_setF hi (fS [])
        have hz : (fS []).need = 0 := rfl
        have hl : (wF (setF d i (fS [])) (d.fuse - 1 - 1) false).fs.length = d.fs.length := List.length_set
        have := put2_fz (d := wF (setF d i (fS [])) (d.fuse - 1 - 1) false) (i := i) (fr := fr) (by rw [hl]; exact hi) rfl (fD_set hi _) (by show usedL (setF d i (fS [])).fs + _ ≤ d.room; omega)
        rw [setF_wF, setF_setF, setF_wF, setF_setF] at this
        rcases this with ⟨k, a, b⟩ | ⟨a, b⟩
        · exact .inl ⟨k, a, b⟩
        · exact .inr ⟨a, _, .inr rfl, b⟩
      · rw [wF_wF] at g2
        have hne : ¬ stpE (wF (setF d i ⟨y, [], [.cut 0], y.length⟩) (d.fuse - 1) false) i .sync = 0 := by
          show ¬ syncE _ = 0
          rw [g1]; decide
        obtain ⟨k1, k2⟩ := lay_no (r := [.put fr, .sync]) hne
        rw [k1, k2]
        refine .inr ⟨g1, _, .inl rfl, ?_⟩
        show syncD _ i (fD _ i) = _
        rw [hfd]; exact g2
    · rw [hf, ht] at e2
      have hne : ¬ stpE d i .cut = 0 := by
        show ¬ doE d i (fD d i) (.cut 0) = 0
        rw [e1]; decide
      obtain ⟨c1, c2⟩ := lay_no (r := [.sync, .put fr, .sync]) hne
      rw [c1, c2]
      refine .inr ⟨e1, _, .inl rfl, ?_⟩
      show doD d i (fD d i) (.cut 0) = _
      rw [hf]; exact e2
  · rw [if_neg hfu]
    have hn0 : y = [] := by
      refine List.length_eq_zero_iff.1 (Nat.eq_zero_of_not_pos fun h => hfu ?_)
      unfold full
      rw [hf, decide_eq_true (show 0 < (fS y).now.length from h)]
      rfl
    subst hn0
    rcases put2_fz hi h1 hf hr with ⟨k, a, b⟩ | ⟨a, b⟩
    · exact .inl ⟨k, a, b⟩
    · exact .inr ⟨a, _, .inr rfl, b⟩
theorem lay_dn {d : DD} {i : Nat} {fr : List UInt8} (h1 : d.down = true) : layE i (acts d i fr) d = 18 ∧ layD i (acts d i fr) d = d := by
  have h18 : ¬ (18 : Int) = 0 := by decide
  unfold acts
  split
  · obtain ⟨a, b⟩ := do_dn (i := i) (f := fD d i) (s := .cut 0) h1
    have hne : ¬ stpE d i .cut = 0 := by show ¬ doE _ _ _ _ = 0; rw [b]; exact h18
    obtain ⟨c1, c2⟩ := lay_no (r := [.sync, .put fr, .sync]) hne
    rw [c1, c2]; exact ⟨b, a⟩
  · obtain ⟨a, b⟩ := do_dn (i := i) (f := fD d i) (s := .put fr) h1
    have hne : ¬ stpE d i (.put fr) = 0 := by show ¬ doE _ _ _ _ = 0; rw [b]; exact h18
    obtain ⟨c1, c2⟩ := lay_no (r := [.sync]) hne
    rw [c1, c2]; exact ⟨b, a⟩
/-! ### which snapshot is told -/
def opS (y1 y2 : List UInt8) : SS := bet (bet ⟨-1, 0, []⟩ 1 y1) 2 y2
theorem opnS_is (d : DD) : opnS d 1 2 = opS (fD d 1).now (fD d 2).now := rfl
/-- of these contents s is told -/
structure Cur (y1 y2 : List UInt8) (s : SS) : Prop where
  how : (s = ⟨-1, 0, []⟩ ∧ (loadP y1).1 = 0 ∧ (loadP y2).1 = 0) ∨ (s.now = 1 ∧ 1 ≤ s.turn ∧ loadP y1 = (s.turn, s.body) ∧ (loadP y2).1 < s.turn) ∨ (s.now = 2 ∧ 1 ≤ s.turn ∧ loadP y2 = (s.turn, s.body) ∧ (loadP y1).1 < s.turn)
theorem bet_no {s : SS} {f : Nat} {l : List UInt8} (h : (loadP l).1 ≤ s.turn) : bet s f l = s := if_neg (by omega)
theorem Cur.op {y1 y2 : List UInt8} {s : SS} (h : Cur y1 y2 s) : opS y1 y2 = s := by
  obtain ⟨now, turn, body⟩ := s
  unfold opS
  rcases h.how with ⟨e, a, b⟩ | ⟨e, h1, a, b⟩ | ⟨e, h1, a, b⟩
  · rw [bet_no (s := ⟨-1, 0, []⟩) (f := 1) (l := y1) (by rw [a]; exact Nat.zero_le _), bet_no (by rw [b]; exact Nat.zero_le _), e]
  · have e : now = 1 := e
    have a : loadP y1 = (turn, body) := a
    subst e
    have h2 : bet ⟨-1, 0, []⟩ 1 y1 = ⟨1, turn, body⟩ := by unfold bet; rw [a]; exact if_pos h1
    rw [h2]
    exact bet_no (Nat.le_of_lt b)
  · have e : now = 2 := e
    have a : loadP y2 = (turn, body) := a
    have b : (loadP y1).1 < turn := b
    subst e
    have h2 : (bet ⟨-1, 0, []⟩ 1 y1).turn < turn := by
      unfold bet
      split
      · exact b
      · exact h1
    unfold bet at h2 ⊢
    rw [a]
    exact if_pos h2
/-- the file that is not current holds another content that tells no turn -/
theorem Cur.other {y1 y2 : List UInt8} {s : SS} (h : Cur y1 y2 s) (z : List UInt8) (hz : (loadP z).1 = 0) : (nxt s 1 2 = 1 ∧ Cur z y2 s) ∨ (nxt s 1 2 = 2 ∧ Cur y1 z s) := by
  obtain ⟨now, turn, body⟩ := s
  rcases h.how with ⟨e, a, b⟩ | ⟨e, h1, a, b⟩ | ⟨e, h1, a, b⟩
  · refine .inl ⟨?_, ⟨.inl ⟨e, hz, b⟩⟩⟩
    rw [e]; rfl
  · have e : now = 1 := e
    subst e
    exact .inr ⟨rfl, ⟨.inr (.inl ⟨rfl, h1, a, by rw [hz]; exact h1⟩)⟩⟩
  · have e : now = 2 := e
    subst e
    exact .inl ⟨rfl, ⟨.inr (.inr ⟨rfl, h1, a, by rw [hz]; exact h1⟩)⟩⟩
/-- it holds the next snapshot -/
theorem Cur.next {y1 y2 : List UInt8} {s : SS} (h : Cur y1 y2 s) (x : List UInt8) (hx : x.length ≤ 65528) (ht : s.turn + 1 < 18446744073709551616) :
    (nxt s 1 2 = 1 ∧ Cur (wrapB s x) y2 ⟨1, s.turn + 1, x⟩) ∨ (nxt s 1 2 = 2 ∧ Cur y1 (wrapB s x) ⟨2, s.turn + 1, x⟩) := by
  have hl : loadP (wrapB s x) = (s.turn + 1, x) := load_frame _ _ ht hx
  obtain ⟨now, turn, body⟩ := s
  rcases h.how with ⟨e, a, b⟩ | ⟨e, h1, a, b⟩ | ⟨e, h1, a, b⟩
  · refine .inl ⟨by rw [e]; rfl, ⟨.inr (.inl ⟨rfl, by show 1 ≤ turn + 1; omega, hl, by show _ < turn + 1; omega⟩)⟩⟩
  · have e : now = 1 := e
    subst e
    exact .inr ⟨rfl, ⟨.inr (.inr ⟨rfl, by show 1 ≤ turn + 1; omega, hl, by rw [a]; show turn < turn + 1; omega⟩)⟩⟩
  · have e : now = 2 := e
    subst e
    exact .inl ⟨rfl, ⟨.inr (.inl ⟨rfl, by show 1 ≤ turn + 1; omega, hl, by rw [a]; show turn < turn + 1; omega⟩)⟩⟩
/-! ### the disk of two files -/
structure Up (d : DD) (y1 y2 : List UInt8) (s : SS) : Prop where
  m3 : d.fs.length = 3
  room : d.room = 65536
  f0 : fD d 0 = FD.none
  f1 : fD d 1 = fS y1
  f2 : fD d 2 = fS y2
  cur : Cur y1 y2 s
theorem used3 {d : DD} (h : d.fs.length = 3) : usedL d.fs = (fD d 0).need + (fD d 1).need + (fD d 2).need := by
  obtain ⟨fs, room, fuse, down⟩ := d
  obtain ⟨a, b, c, rfl⟩ := list3 h
  show a.need + (b.need + (c.need + 0)) = a.need + b.need + c.need
  omega
theorem Up.used {d : DD} {y1 y2 : List UInt8} {s : SS} (h : Up d y1 y2 s) : usedL d.fs = y1.length + y2.length := by
  rw [used3 h.m3, h.f0, h.f1, h.f2]
  show 0 + y1.length + y2.length = _
  omega
theorem Up.wF {d : DD} {y1 y2 : List UInt8} {s : SS} (h : Up d y1 y2 s) (k : Nat) (x : Bool) : Up (wF d k x) y1 y2 s := ⟨h.m3, h.room, h.f0, h.f1, h.f2, h.cur⟩
theorem wrapB_len (s : SS) (x : List UInt8) : (wrapB s x).length = 16 + x.length := by unfold wrapB; rw [frame_length, List.length_append, be_length]; omega
/-- how the disk stands when it went down while a snapshot was put -/
structure Dn (d : DD) (s : SS) (x : List UInt8) : Prop where
  down : d.down = true
  was : ∃ d0 y1 y2 g, Up d0 y1 y2 s ∧ d = Slt.wF (setF d0 (nxt s 1 2) g) 0 true ∧ Torn (if nxt s 1 2 = 1 then y1 else y2) (wrapB s x) g ∧ y1.length ≤ 2000 ∧ y2.length ≤ 2000
theorem nxt12 (s : SS) : nxt s 1 2 = 1 ∨ nxt s 1 2 = 2 := by unfold nxt; split; exact .inr rfl; exact .inl rfl
/-- a snapshot put: it is there, or the disk went down -/
theorem put_keeps {d : DD} {y1 y2 : List UInt8} {s : SS} {x : List UInt8} (h : Up d y1 y2 s) (h1 : d.down = false) (l1 : y1.length ≤ 2000) (l2 : y2.length ≤ 2000) (hx : x.length ≤ 1000) (ht : s.turn + 1 < 18446744073709551616) :
    (putSE d s 1 2 x = 0 ∧ (∃ z1 z2, Up (putSD d s 1 2 x) z1 z2 (putSS d s 1 2 x) ∧ z1.length ≤ 2000 ∧ z2.length ≤ 2000) ∧ (putSD d s 1 2 x).down = false ∧ (putSS d s 1 2 x).turn = s.turn + 1 ∧ (putSS d s 1 2 x).body = x) ∨
    (putSE d s 1 2 x = 18 ∧ Dn (putSD d s 1 2 x) s x ∧ putSS d s 1 2 x = s) := by
  have hf : fits s x = true := by unfold fits; rw [decide_eq_true (by omega), decide_eq_true ht]; rfl
  have hw := wrapB_len s x
  have hu := h.used
  have hi : nxt s 1 2 < d.fs.length := by rcases nxt12 s with e | e <;> rw [e, h.m3] <;> omega
  have hfi : fD d (nxt s 1 2) = fS (if nxt s 1 2 = 1 then y1 else y2) := by
    rcases nxt12 s with e | e
    · rw [e]; exact h.f1
    · rw [e]; exact h.f2
  unfold putSE putSD putSS
  rw [if_pos hf, if_pos hf]
  rcases lay_fz hi h1 hfi (fr := wrapB s x) (by rw [h.room]; omega) with ⟨k, e1, e2⟩ | ⟨e1, g, hg, e2⟩
  · refine .inl ⟨e1, ?_, by rw [e2]; rfl, by rw [if_pos ⟨hf, e1⟩], by rw [if_pos ⟨hf, e1⟩]⟩
    rw [if_pos ⟨hf, e1⟩, e2]
    rcases h.cur.next x (by omega) ht with ⟨e, c⟩ | ⟨e, c⟩
    · rw [e] at hi ⊢
      exact ⟨wrapB s x, y2, ⟨by show (List.set _ _ _).length = 3; rw [List.length_set]; exact h.m3, h.room, by rw [fD_wF, fD_other (by omega)]; exact h.f0, by rw [fD_wF]; exact fD_set hi _, by rw [fD_wF, fD_other (by omega)]; exact h.f2, c⟩, by omega, l2⟩
    · rw [e] at hi ⊢
      exact ⟨y1, wrapB s x, ⟨by show (List.set _ _ _).length = 3; rw [List.length_set]; exact h.m3, h.room, by rw [fD_wF, fD_other (by omega)]; exact h.f0, by rw [fD_wF, fD_other (by omega)]; exact h.f1, by rw [fD_wF]; exact fD_set hi _, c⟩, l1, by omega⟩
  · refine .inr ⟨e1, ⟨by rw [e2]; rfl, d, y1, y2, g, h, e2, hg, l1, l2⟩, ?_⟩
    rw [if_neg (fun hh => by rw [e1] at hh; exact absurd hh.2 (by decide))]
/-- a snapshot put on a disk that is down -/
theorem put_down {d : DD} {s : SS} {x : List UInt8} (h1 : d.down = true) (hx : x.length ≤ 1000) (ht : s.turn + 1 < 18446744073709551616) : putSE d s 1 2 x = 18 ∧ putSD d s 1 2 x = d ∧ putSS d s 1 2 x = s := by
  have hf : fits s x = true := by unfold fits; rw [decide_eq_true (by omega), decide_eq_true ht]; rfl
  obtain ⟨e1, e2⟩ := lay_dn (i := nxt s 1 2) (fr := wrapB s x) h1
  unfold putSE putSD putSS
  rw [if_pos hf, if_pos hf, if_neg (fun hh => by rw [e1] at hh; exact absurd hh.2 (by decide))]
  exact ⟨e1, e2, rfl⟩
/-! ### a crash -/
theorem fD_crash {us : List Int} {d : DD} (h : d.fs.length = 3) (k : Nat) (hk : k < 3) : fD (crashD us d) k = (fD d k).settle (crU us k (fD d k)) := by
  obtain ⟨fs, room, fuse, down⟩ := d
  obtain ⟨a, b, c, rfl⟩ := list3 h
  match k, hk with
  | 0, _ => rfl
  | 1, _ => rfl
  | 2, _ => rfl
theorem settle_fS (y : List UInt8) (u : Nat) : (fS y).settle u = fS y := rfl
theorem torn_settle {y fr : List UInt8} {g : FD} (h : Torn y fr g) (u : Nat) (hu : u ≤ unitsAll g.steps) : ∃ z, g.settle u = fS z ∧ (z = y ∨ z = [] ∨ ∃ k, k ≤ fr.length ∧ z = fr.take k) := by
  rcases h with rfl | rfl
  · refine ⟨someU y [.cut 0] u, rfl, ?_⟩
    show (if min u 1 = 0 then y else y.take 0) = y ∨ (if min u 1 = 0 then y else y.take 0) = [] ∨ _
    split
    · exact .inl rfl
    · exact .inr (.inl List.take_zero)
  · have hu : u ≤ fr.length + 0 := hu
    have e : someU [] [.put fr] u = fr.take u := by
      show (St.put fr).act [] (min u fr.length) = _
      rw [Nat.min_eq_left (by omega)]; rfl
    refine ⟨fr.take u, ?_, .inr (.inr ⟨u, by omega, rfl⟩)⟩
    show (⟨someU [] _ _, someU [] _ _, [], (someU [] _ _).length⟩ : FD) = _
    rw [e]; rfl
theorem Up.crash {d : DD} {y1 y2 : List UInt8} {s : SS} (h : Up d y1 y2 s) (us : List Int) : Up (crashD us d) y1 y2 s := by
  have e0 := fD_crash (us := us) h.m3 0 (by omega)
  have e1 := fD_crash (us := us) h.m3 1 (by omega)
  have e2 := fD_crash (us := us) h.m3 2 (by omega)
  rw [h.f0] at e0
  rw [h.f1, settle_fS] at e1
  rw [h.f2, settle_fS] at e2
  refine ⟨?_, h.room, e0, e1, e2, h.cur⟩
  obtain ⟨fs, room, fuse, down⟩ := d
  obtain ⟨a, b, c, rfl⟩ := list3 h.m3
  rfl
theorem Up.told {d : DD} {y1 y2 : List UInt8} {s : SS} (h : Up d y1 y2 s) : opnS d 1 2 = s := by
  rw [opnS_is, h.f1, h.f2]
  exact h.cur.op
/-- what is told behind a crash, of a disk that went down while a snapshot was put: the old one, or that one -/
theorem Dn.crash {d : DD} {s : SS} {x : List UInt8} (h : Dn d s x) (hx : x.length ≤ 1000) (ht : s.turn + 1 < 18446744073709551616) (us : List Int) :
    ∃ z1 z2 s', Up (crashD us d) z1 z2 s' ∧ z1.length ≤ 2000 ∧ z2.length ≤ 2000 ∧ (s' = s ∨ (s'.turn = s.turn + 1 ∧ s'.body = x)) := by
  obtain ⟨d0, y1, y2, g, hu, rfl, hg, l1, l2⟩ := h.was
  have hw := wrapB_len s x
  have hm : (Slt.wF (setF d0 (nxt s 1 2) g) 0 true).fs.length = 3 := by show (List.set _ _ _).length = 3; rw [List.length_set]; exact hu.m3
  have e0 := fD_crash (us := us) hm 0 (by omega)
  have e1 := fD_crash (us := us) hm 1 (by omega)
  have e2 := fD_crash (us := us) hm 2 (by omega)
  have hm3 : (crashD us (Slt.wF (setF d0 (nxt s 1 2) g) 0 true)).fs.length = 3 := by
    generalize Slt.wF (setF d0 (nxt s 1 2) g) 0 true = D at hm
    obtain ⟨fs, room, fuse, down⟩ := D
    obtain ⟨a, b, c, rfl⟩ := list3 hm
    rfl
  have hi : nxt s 1 2 < d0.fs.length := by rcases nxt12 s with e | e <;> rw [e, hu.m3] <;> omega
  have hroom : (crashD us (Slt.wF (setF d0 (nxt s 1 2) g) 0 true)).room = 65536 := hu.room
  have hz0 : ∀ k, k < (wrapB s x).length → (loadP ((wrapB s x).take k)).1 = 0 := fun k hk => by
    have := load_torn (s.turn + 1) x (by omega) k (by omega)
    unfold wrapB
    rw [this]
  rcases nxt12 s with e | e
  · rw [e] at hi hg e0 e1 e2 hm3 hroom ⊢
    rw [fD_wF, fD_other (by omega), hu.f0] at e0
    rw [fD_wF, fD_other (by omega), hu.f2, settle_fS] at e2
    rw [fD_wF, fD_set hi] at e1
    obtain ⟨z, hz, hc⟩ := torn_settle hg _ (crU_le (us := us) (k := 1) (f := g))
    rw [hz] at e1
    rw [if_pos rfl] at hc
    have mk : ∀ s', Cur z y2 s' → Up (crashD us (Slt.wF (setF d0 1 g) 0 true)) z y2 s' := fun s' c => ⟨hm3, hroom, e0, e1, e2, c⟩
    rcases hc with rfl | rfl | ⟨k, hk, rfl⟩
    · exact ⟨_, _, s, mk _ hu.cur, l1, l2, .inl rfl⟩
    · rcases hu.cur.other [] rfl with ⟨_, c⟩ | ⟨q, _⟩
      · exact ⟨_, _, s, mk _ c, by simp, l2, .inl rfl⟩
      · rw [e] at q; exact absurd q (by decide)
    · have hlk : ((wrapB s x).take k).length ≤ 2000 := by rw [List.length_take]; omega
      by_cases hkl : k < (wrapB s x).length
      · rcases hu.cur.other _ (hz0 k hkl) with ⟨_, c⟩ | ⟨q, _⟩
        · exact ⟨_, _, s, mk _ c, hlk, l2, .inl rfl⟩
        · rw [e] at q; exact absurd q (by decide)
      · have hall : (wrapB s x).take k = wrapB s x := List.take_of_length_le (by omega)
        rw [hall] at mk hlk
        rcases hu.cur.next x (by omega) ht with ⟨_, c⟩ | ⟨q, _⟩
        · exact ⟨_, _, _, mk _ c, hlk, l2, .inr ⟨rfl, rfl⟩⟩
        · rw [e] at q; exact absurd q (by decide)
  · rw [e] at hi hg e0 e1 e2 hm3 hroom ⊢
    rw [fD_wF, fD_other (by omega), hu.f0] at e0
    rw [fD_wF, fD_other (by omega), hu.f1, settle_fS] at e1
    rw [fD_wF, fD_set hi] at e2
    obtain ⟨z, hz, hc⟩ := torn_settle hg _ (crU_le (us := us) (k := 2) (f := g))
    rw [hz] at e2
    rw [if_neg (by decide)] at hc
    have mk : ∀ s', Cur y1 z s' → Up (crashD us (Slt.wF (setF d0 2 g) 0 true)) y1 z s' := fun s' c => ⟨hm3, hroom, e0, e1, e2, c⟩
    rcases hc with rfl | rfl | ⟨k, hk, rfl⟩
    · exact ⟨_, _, s, mk _ hu.cur, l1, l2, .inl rfl⟩
    · rcases hu.cur.other [] rfl with ⟨q, _⟩ | ⟨_, c⟩
      · rw [e] at q; exact absurd q (by decide)
      · exact ⟨_, _, s, mk _ c, l1, by simp, .inl rfl⟩
    · have hlk : ((wrapB s x).take k).length ≤ 2000 := by rw [List.length_take]; omega
      by_cases hkl : k < (wrapB s x).length
      · rcases hu.cur.other _ (hz0 k hkl) with ⟨q, _⟩ | ⟨_, c⟩
        · rw [e] at q; exact absurd q (by decide)
        · exact ⟨_, _, s, mk _ c, l1, hlk, .inl rfl⟩
      · have hall : (wrapB s x).take k = wrapB s x := List.take_of_length_le (by omega)
        rw [hall] at mk hlk
        rcases hu.cur.next x (by omega) ht with ⟨q, _⟩ | ⟨_, c⟩
        · rw [e] at q; exact absurd q (by decide)
        · exact ⟨_, _, _, mk _ c, l1, hlk, .inr ⟨rfl, rfl⟩⟩
end Go.Proofs.YtgmahahhkaofbaaDoor.Slt

namespace Go.Proofs.YtgmahahhkaofbaaDoor.Slt
open Go.RowKit Go.Mir Go.Mir.Parts Dk Rol Wr
open Frm (frame)

theorem snew (room : Nat) (w : World) (h : 1 ≤ room ∧ room ≤ 65536) :
    Calls Tryd.prog 8 #[.int .i64 (room : Int)] w fun e w' => ∃ db, e = .returned (.tuple #[.pointer (some ⟨db, 0, none⟩), .int .i64 0]) ∧ DX w.heap.size db (DD.new room) w' ∧ Below w.heap.size w w' := by
  refine (new_any room w h).mono ?_
  rintro e w' ⟨db, vs, he, hd, hb⟩
  exact ⟨db, he, ⟨hb.size, vs, hd⟩, hb⟩
theorem sarm {base db : Nat} {d : DD} (w : World) (h : DX base db d w) (n : Int) (hn : n ≤ 9223372036854775807) :
    Calls Tryd.prog 17 #[.pointer (some ⟨db, 0, none⟩), .int .i64 n] w fun e w' => e = .returned (.tuple #[]) ∧ DX base db ⟨d.fs, d.room, n.toNat, d.down⟩ w' ∧ KT base w w' := by
  obtain ⟨h0, vs, h1⟩ := h
  refine (arm_any w h1 n hn).mono ?_
  rintro e w' ⟨he, hd, ht⟩
  exact ⟨he, DX.left h1 h0 (LeftD.row h1 hd ht)⟩
theorem scrash {base db : Nat} {d : DD} (w : World) (h : DX base db d w) (us : List Int) (p : Option Addr) (c : Nat) (hN : Ns w p us.length c us) (hap : ∀ a, p = some a → ¬ DTy base w a.block ∧ a.block < w.heap.size) :
    Calls Tryd.prog 18 #[.pointer (some ⟨db, 0, none⟩), .slice p us.length c] w fun e w' => e = .returned (.tuple #[]) ∧ DX base db (crashD us d) w' ∧ KT base w w' := by
  obtain ⟨h0, vs, h1⟩ := h
  refine (crash_any w h1 h0 us p c hN (fun a ha => ⟨fun ho => (hap a ha).1 (dat_dty h1 _ ho), (hap a ha).2⟩)).mono ?_
  rintro e w' ⟨he, hl⟩
  exact ⟨he, DX.left h1 h0 hl⟩
/-- a row of bytes reads as them -/
theorem bs_row {w : World} {g : Nat} {cur : Array Value} {t : TypeId} {fr : Nat × Nat} {l : List UInt8} (hr : w.heap[g]? = some (.cells cur t fr)) (hc : cur.toList = bytesV l) (hm : l.length ≤ 9223372036854775807) : Bs w (some ⟨g, 0, none⟩) l.length l.length l :=
  ⟨by rw [bytesV_length, Nat.mul_one], Nat.le_refl _, hm, fun h => (by cases h), fun a ha j u hu => by
    obtain rfl := Option.some.inj ha
    rw [add_none, cell_of_row _ _ _ _ _ _ hr, ← Array.getElem?_toList, hc, Nat.zero_add]
    exact hu⟩
theorem few_new (room : Nat) : ∀ j, (fD (DD.new room) j).steps.length ≤ 0
  | 0 => Nat.le_refl _
  | 1 => Nat.le_refl _
  | 2 => Nat.le_refl _
  | _ + 3 => Nat.le_refl _
theorem opn_new (room a b : Nat) (ha : a < 3) (hb : b < 3) : opnS (DD.new room) a b = ⟨-1, 0, []⟩ := by
  have h : ∀ i, i < 3 → (fD (DD.new room) i).now = [] := fun i hi => by
    match i, hi with
    | 0, _ => rfl
    | 1, _ => rfl
    | 2, _ => rfl
  unfold opnS
  rw [h a ha, h b hb]
  rfl
/-- a snapshot put on a disk that is up and has room -/
theorem putUp_any {base sb db a b N : Nat} {d : DD} {s : SS} (w : World) (h : SX base sb db a b d s w) (ha : a < 3) (hb : b < 3) (p : Option Addr) (c : Nat) (x : List UInt8) (hK : ∀ w', KT base w w' → Bs w' p x.length c x) (hx : x.length ≤ 3000) (hN : N ≤ 4398046000000) (hfew : ∀ j, (fD d j).steps.length ≤ N)
    (h1 : d.down = false) (h2 : d.fuse = 0) (ht : s.turn + 1 < 18446744073709551616) (hr : usedL d.fs + (16 + x.length) ≤ d.room) :
    Calls Tryd.prog 15 #[.pointer (some ⟨sb, 0, none⟩), .slice p x.length c] w fun e w' => e = .returned (.int .i64 0) ∧ SX base sb db a b (setF d (nxt s a b) (fS (wrapB s x))) ⟨(nxt s a b : Int), s.turn + 1, x⟩ w' ∧ KS base w w' := by
  have hp := put_up (d := d) (s := s) (a := a) (b := b) (x := x) h.dx.len3 ha hb h1 h2 (fun i hi => h.dx.ok hi) (by omega) ht hr
  have := sput_any w h ha hb p c x hK hx hN hfew
  unfold SPutP at this
  rwa [hp.1, hp.2.1, hp.2.2] at this
set_option maxRecDepth 100000 in
set_option maxHeartbeats 3200000 in
theorem alive21_any (w : World) (hE : Rdr.EType w) :
    Calls Tryd.prog 7 #[] w fun e w' => e = .returned (.bool true) ∧ Below w.heap.size w w' := by
  have HE := Lib.hid hE
  have HN : Hid (Calls Tryd.prog 8 #[.int .i64 100] w fun e w' => ∃ db, e = .returned (.tuple #[.pointer (some ⟨db, 0, none⟩), .int .i64 0]) ∧ DX w.heap.size db (DD.new 100) w' ∧ Below w.heap.size w w') := snew 100 w (by omega)
  clear hE
  go_enter Tryd.func7, Tryd.ntmps7
  go_wp2_with fail
  refine HN.out.mono ?_
  rintro e w1 ⟨db, rfl, hd1, hb1⟩
  have HB1 := Lib.hid hb1
  have HO := Lib.hid (sopen_any w1 (HE.out.below hb1 HE.out.lt) hd1 1 2 (by omega) (by omega) (by omega) rfl)
  clear hd1 hb1 HN
  go_wp2_with fail
  refine HO.out.mono ?_
  rintro e w2 ⟨sb, rfl, hs2, hb2⟩
  rw [opn_new 100 1 2 (by omega) (by omega)] at hs2
  have HS2 := Lib.hid hs2
  have HB2 := Lib.hid (HB1.out.trans (hb2.mono HB1.out.size))
  clear hs2 hb2 HO
  go_wp2_with fail
  refine (file_any w2 HS2.out).mono ?_
  rintro e w' ⟨rfl, rfl⟩
  have hal : Below w2.heap.size w2 (w2.alloc (.cells #[.int .u8 5] 5)) := Below.allocs _ _
  have hrow := heap_alloc_last w2 (.cells #[.int .u8 5] 5)
  have HA3 := Lib.hid (HB2.out.trans (hal.mono HB2.out.size))
  have HS3 := Lib.hid (HS2.out.below hal)
  have HP1 := Lib.hid (putUp_any (N := 0) _ (HS2.out.below hal) (by omega) (by omega) (some ⟨w2.heap.size, 0, none⟩) 1 [5] (fun w' hk => bs_row (hk.row hrow (by decide) (by decide)) rfl (by decide)) (by decide) (by omega) (few_new 100) rfl rfl (by show 0 + 1 < _; omega) (by show 0 + (16 + 1) ≤ 100; omega))
  clear hal hrow HS2
  go_wp2_with fail
  refine HP1.out.mono ?_
  rintro e w4 ⟨rfl, hs4, hk4⟩
  have hn1 : nxt ⟨-1, 0, []⟩ 1 2 = 1 := rfl
  rw [hn1] at hs4
  have HB4 := Lib.hid (HA3.out.trans (hk4.below HA3.out.size))
  have hu := used_setF (d := DD.new 100) (i := 1) (by decide) (fS (wrapB ⟨-1, 0, []⟩ [5]))
  have hwl := wrapB_len ⟨-1, 0, []⟩ [5]
  have hU : usedL (setF (DD.new 100) 1 (fS (wrapB ⟨-1, 0, []⟩ [5]))).fs = 17 := by
    have e1 : (fD (DD.new 100) 1).need = 0 := rfl
    have e2 : usedL (DD.new 100).fs = 0 := rfl
    have e3 : (fS (wrapB ⟨-1, 0, []⟩ [5])).need = (wrapB ⟨-1, 0, []⟩ [5]).length := rfl
    have e4 : ([5] : List UInt8).length = 1 := rfl
    omega
  have hF : ∀ j, (fD (setF (DD.new 100) 1 (fS (wrapB ⟨-1, 0, []⟩ [5]))) j).steps.length ≤ 0 := fun j => few_set (few_new 100) (Nat.le_refl _)
  have hR : (setF (DD.new 100) 1 (fS (wrapB ⟨-1, 0, []⟩ [5]))).room = 100 := rfl
  have hD : (setF (DD.new 100) 1 (fS (wrapB ⟨-1, 0, []⟩ [5]))).down = false := rfl
  have hZ : (setF (DD.new 100) 1 (fS (wrapB ⟨-1, 0, []⟩ [5]))).fuse = 0 := rfl
  clear hu hwl
  generalize setF (DD.new 100) 1 (fS (wrapB ⟨-1, 0, []⟩ [5])) = D1 at *
  have hs4 : SX w.heap.size sb db 1 2 D1 ⟨1, 1, [5]⟩ w4 := hs4
  have hal : Below w4.heap.size w4 (w4.alloc (.cells #[.int .u8 6] 5)) := Below.allocs _ _
  have hrow := heap_alloc_last w4 (.cells #[.int .u8 6] 5)
  have HA5 := Lib.hid (HB4.out.trans (hal.mono HB4.out.size))
  have HP2 := Lib.hid (putUp_any (N := 0) _ (hs4.below hal) (by omega) (by omega) (some ⟨w4.heap.size, 0, none⟩) 1 [6] (fun w' hk => bs_row (hk.row hrow (by decide) (by decide)) rfl (by decide)) (by decide) (by omega) hF hD hZ (by show 1 + 1 < _; omega) (by rw [hU, hR]; decide))
  clear hal hrow hs4 hk4 hU hF hR hD hZ HP1 HS3
  go_wp2_with fail
  refine HP2.out.mono ?_
  rintro e w6 ⟨rfl, hs6, hk6⟩
  have hn2 : nxt ⟨1, 1, [5]⟩ 1 2 = 2 := rfl
  rw [hn2] at hs6
  have HB6 := Lib.hid (HA5.out.trans (hk6.below HA5.out.size))
  generalize setF D1 2 (fS (wrapB ⟨1, 1, [5]⟩ [6])) = D2 at *
  have hs6 : SX w.heap.size sb db 1 2 D2 ⟨2, 2, [6]⟩ w6 := hs6
  have HS6 := Lib.hid hs6
  have HG := Lib.hid (get_any w6 hs6 (fun h => absurd (show (2 : Nat) = 0 from h) (by decide)) (by decide))
  clear hs6 hk6 HP2
  go_wp2_with fail
  refine HG.out.mono ?_
  rintro e w7 ⟨p7, c7, rfl, ho7, hb7⟩
  have HS7 := Lib.hid (HS6.out.below hb7)
  have HB7 := Lib.hid (HB6.out.trans (hb7.mono HB6.out.size))
  have HC7 : (convert 31 9 (.slice p7 1 c7)).run Tryd.prog w7 = .ok (.string (S [6])) w7 := Cut.bconv (n := 1) (Cut.own_bs ho7)
  clear ho7 hb7 HG HS6
  go_wp2_with fail
  refine (file_any w7 HS7.out).mono ?_
  rintro e w' ⟨rfl, rfl⟩
  go_wp2_with fail
  refine (turn_any w7 HS7.out).mono ?_
  rintro e w' ⟨rfl, rfl⟩
  go_wp2_with fail
  go_ret
  exact ⟨rfl, HB7.out⟩
end Go.Proofs.YtgmahahhkaofbaaDoor.Slt

namespace Go.Proofs.YtgmahahhkaofbaaDoor.Dk
open Go.RowKit Go.Mir Go.Mir.Parts

def aD0 : DD := DD.new 10
def aF0 : FD := FD.none
def aS1 : St := .put [1, 2, 3]
def aD1 : DD := doD aD0 0 aF0 aS1
def aF1 : FD := FD.none.take aS1
def aD2 : DD := syncD aD1 0 aF1
def aF2 : FD := aF1.settle (unitsAll aF1.steps)
def aS3 : St := .put [4, 5]
def aD3 : DD := doD aD2 0 aF2 aS3
def aD4 : DD := crashD [1] aD3
theorem aE1 : doE aD0 0 aF0 aS1 = 0 := by decide
theorem aE2 : syncE aD1 = 0 := by decide
theorem aE3 : doE aD2 0 aF2 aS3 = 0 := by decide
theorem aL0 : ∃ h : 0 < aD0.fs.length, aD0.fs[0] = aF0 := ⟨by decide, rfl⟩
theorem aL1 : ∃ h : 0 < aD1.fs.length, aD1.fs[0] = aF1 := ⟨by decide, rfl⟩
theorem aL2 : ∃ h : 0 < aD2.fs.length, aD2.fs[0] = aF2 := ⟨by decide, rfl⟩
theorem aL4 : ∃ h : 0 < aD4.fs.length, aD4.fs[0].now = [1, 2, 3, 4] := ⟨by decide, by decide⟩
theorem bs_lit (w : World) (l : List UInt8) (hl : l.length ≤ 65536) : Bs (w.alloc (.cells (bytesV l).toArray 5)) (some ⟨w.heap.size, 0, none⟩) l.length l.length l :=
  ⟨by rw [bytesV_length, Nat.mul_one], Nat.le_refl _, by omega, fun h => (by cases h), fun a ha j u hu => by
    obtain rfl := Option.some.inj ha
    rw [add_none, Nat.zero_add, cell_of_row _ _ _ _ _ _ (heap_alloc_last _ _), ← Array.getElem?_toList]
    exact hu⟩
theorem lit123 : (bytesV [1, 2, 3]).toArray = #[.int .u8 1, .int .u8 2, .int .u8 3] := rfl
theorem lit45 : (bytesV [4, 5]).toArray = #[.int .u8 4, .int .u8 5] := rfl
theorem Turns.belowW {W w w' : World} {base db : Nat} {vs : List FV} {d : DD} (hW : Below W.heap.size W w) (h : DAt w base db vs d) (hb : W.heap.size ≤ base) (ht : Turns (DOwn db vs) w w') : Below W.heap.size W w' :=
  hW.trans (ht.below hW.size (fun i hi => Nat.le_trans hb (h.ownLt i hi).1))
theorem ns_one (w : World) (x : Int) (hx : -9223372036854775808 ≤ x ∧ x ≤ 9223372036854775807) : Ns (w.alloc (.cells #[.int .i64 x] 3)) (some ⟨w.heap.size, 0, none⟩) [x].length 1 [x] :=
  ⟨row_sl1 (heap_alloc_last _ _), rfl, fun y hy => by rw [List.mem_singleton] at hy; rw [hy]; exact hx⟩
end Go.Proofs.YtgmahahhkaofbaaDoor.Dk

namespace Go.Proofs.YtgmahahhkaofbaaDoor.Dk
open Go.RowKit Go.Mir

/-- nil, or a disk that no call made -/
def Non (w : World) (v : Value) : Prop := v = .pointer none ∨ ∃ db, v = .pointer (some ⟨db, 0, none⟩) ∧ w.cell? ⟨db, 12, none⟩ = some (.int .i64 0)
theorem Non.below {w w' : World} {v : Value} (h : Non w v) (hb : Below w.heap.size w w') : Non w' v := by
  rcases h with h | ⟨cb, h, hc⟩
  · exact .inl h
  · exact .inr ⟨cb, h, cell_below hc hb⟩
set_option maxRecDepth 100000 in
theorem none_non (v : Value) (w : World) (h : Non w v) : Calls Tryd.prog 35 #[v] w fun e w' => e = .returned (.bool true) ∧ w = w' := by
  rcases h with rfl | ⟨cb, rfl, hc⟩
  · go_enter Tryd.func35, Tryd.ntmps35
    go_wp2_with fail
    go_ret
    exact ⟨rfl, rfl⟩
  · go_enter Tryd.func35, Tryd.ntmps35
    go_wp2_with fail
    go_ret
    exact ⟨rfl, rfl⟩
set_option maxRecDepth 100000 in
theorem at_non (v : Value) (n : Int) (w : World) (h : Non w v) : Calls Tryd.prog 38 #[v, .int .i64 n] w fun e w' => e = .returned (.pointer none) ∧ w = w' := by
  have HV := Lib.hid h
  clear h
  go_enter Tryd.func38, Tryd.ntmps38
  go_wp2_with fail
  refine (none_non _ _ HV.out).mono ?_
  rintro e w' ⟨rfl, hw⟩
  subst hw
  go_wp2_with fail
  go_ret
  exact ⟨rfl, rfl⟩
set_option maxRecDepth 100000 in
theorem arm_non (v : Value) (n : Int) (w : World) (h : Non w v) : Calls Tryd.prog 17 #[v, .int .i64 n] w fun e w' => e = .returned (.tuple #[]) ∧ w = w' := by
  have HV := Lib.hid h
  clear h
  go_enter Tryd.func17, Tryd.ntmps17
  go_wp2_with fail
  refine (none_non _ _ HV.out).mono ?_
  rintro e w' ⟨rfl, hw⟩
  subst hw
  go_wp2_with fail
  go_end0
  exact ⟨rfl, rfl⟩
set_option maxRecDepth 100000 in
theorem crash_non (v : Value) (u : Value) (w : World) (h : Non w v) : Calls Tryd.prog 18 #[v, u] w fun e w' => e = .returned (.tuple #[]) ∧ w = w' := by
  have HV := Lib.hid h
  clear h
  go_enter Tryd.func18, Tryd.ntmps18
  go_wp2_with fail
  refine (none_non _ _ HV.out).mono ?_
  rintro e w' ⟨rfl, hw⟩
  subst hw
  go_wp2_with fail
  refine bodyPost_ret (results_none rfl _ _ _) rfl ?_
  exact ⟨rfl, rfl⟩
set_option maxRecDepth 100000 in
theorem read_non (v : Value) (n : Int) (w : World) (h : Non w v) : Calls Tryd.prog 46 #[v, .int .i64 n] w fun e w' => e = .returned (.slice none 0 0) ∧ w = w' := by
  have HV := Lib.hid h
  clear h
  go_enter Tryd.func46, Tryd.ntmps46
  go_wp2_with fail
  refine (at_non _ _ _ HV.out).mono ?_
  rintro e w' ⟨rfl, hw⟩
  subst hw
  go_wp2_with fail
  go_ret
  exact ⟨rfl, rfl⟩
set_option maxRecDepth 100000 in
theorem units_non (v : Value) (n : Int) (w : World) (h : Non w v) : Calls Tryd.prog 33 #[v, .int .i64 n] w fun e w' => e = .returned (.int .i64 0) ∧ w = w' := by
  have HV := Lib.hid h
  clear h
  go_enter Tryd.func33, Tryd.ntmps33
  go_wp2_with fail
  refine (at_non _ _ _ HV.out).mono ?_
  rintro e w' ⟨rfl, hw⟩
  subst hw
  go_wp2_with fail
  go_ret
  exact ⟨rfl, rfl⟩
set_option maxRecDepth 100000 in
theorem used_non (v : Value) (w : World) (h : Non w v) : Calls Tryd.prog 39 #[v] w fun e w' => e = .returned (.int .i64 0) ∧ w = w' := by
  have HV := Lib.hid h
  clear h
  go_enter Tryd.func39, Tryd.ntmps39
  go_wp2_with fail
  refine (none_non _ _ HV.out).mono ?_
  rintro e w' ⟨rfl, hw⟩
  subst hw
  go_wp2_with fail
  go_ret
  exact ⟨rfl, rfl⟩
set_option maxRecDepth 100000 in
theorem room_non (v : Value) (w : World) (h : Non w v) : Calls Tryd.prog 21 #[v] w fun e w' => e = .returned (.int .i64 0) ∧ w = w' := by
  have HV := Lib.hid h
  clear h
  go_enter Tryd.func21, Tryd.ntmps21
  go_wp2_with fail
  refine (none_non _ _ HV.out).mono ?_
  rintro e w' ⟨rfl, hw⟩
  subst hw
  go_wp2_with fail
  go_ret
  exact ⟨rfl, rfl⟩
set_option maxRecDepth 100000 in
theorem down_non (v : Value) (w : World) (h : Non w v) : Calls Tryd.prog 23 #[v] w fun e w' => e = .returned (.bool true) ∧ w = w' := by
  have HV := Lib.hid h
  clear h
  go_enter Tryd.func23, Tryd.ntmps23
  go_wp2_with fail
  refine (none_non _ _ HV.out).mono ?_
  rintro e w' ⟨rfl, hw⟩
  subst hw
  go_wp2_with fail
  go_ret
  exact ⟨rfl, rfl⟩
set_option maxRecDepth 100000 in
theorem size_non (v : Value) (n : Int) (w : World) (h : Non w v) : Calls Tryd.prog 32 #[v, .int .i64 n] w fun e w' => e = .returned (.int .i64 0) ∧ w = w' := by
  have HV := Lib.hid h
  clear h
  go_enter Tryd.func32, Tryd.ntmps32
  go_wp2_with fail
  refine (read_non _ _ _ HV.out).mono ?_
  rintro e w' ⟨rfl, hw⟩
  subst hw
  go_wp2_with fail
  go_ret
  exact ⟨rfl, rfl⟩
set_option maxRecDepth 100000 in
theorem sync_non (v : Value) (n : Int) (w : World) (h : Non w v) : Calls Tryd.prog 30 #[v, .int .i64 n] w fun e w' => e = .returned (.int .i64 7) ∧ w = w' := by
  have HV := Lib.hid h
  clear h
  go_enter Tryd.func30, Tryd.ntmps30
  go_wp2_with fail
  refine (at_non _ _ _ HV.out).mono ?_
  rintro e w' ⟨rfl, hw⟩
  subst hw
  go_wp2_with fail
  refine (none_non _ _ HV.out).mono ?_
  rintro e w' ⟨rfl, hw⟩
  subst hw
  go_wp2_with fail
  go_ret
  exact ⟨rfl, rfl⟩
set_option maxRecDepth 100000 in
theorem do_non (v : Value) (n : Int) (sv : Value) (w : World) (h : Non w v) (hsv : (∃ v, sv = .iface 61 v) ∨ ∃ z, sv = .iface 79 (.agg #[.int .i64 z])) :
    Calls Tryd.prog 19 #[v, .int .i64 n, sv] w fun e w' => e = .returned (.int .i64 7) ∧ Below w.heap.size w w' := by
  have HV := Lib.hid h
  clear h
  rcases hsv with ⟨x, rfl⟩ | ⟨z, rfl⟩
  · have hta := ta_pc x
    go_enter Tryd.func19, Tryd.ntmps19
    go_wp2_with fail
    refine (at_non _ _ _ HV.out).mono ?_
    rintro e w' ⟨rfl, hw⟩
    subst hw
    have hb := Below.allocs w (.cells #[.int .i64 0] 79)
    have HB := Lib.hid hb
    have HA := Lib.hid (HV.out.below hb)
    clear hb
    go_upto_region 3 with fail
    generalize w.alloc (.cells #[.int .i64 0] 79) = w1 at *
    go_wp2_with fail
    refine (none_non _ _ HA.out).mono ?_
    rintro e w' ⟨rfl, hw⟩
    subst hw
    go_wp2_with fail
    go_ret
    exact ⟨rfl, HB.out⟩
  · have hta := ta_cc (.agg #[.int .i64 z])
    go_enter Tryd.func19, Tryd.ntmps19
    go_wp2_with fail
    refine (at_non _ _ _ HV.out).mono ?_
    rintro e w' ⟨rfl, hw⟩
    subst hw
    have hb := Below.allocs w (.cells #[.int .i64 z] 79)
    have HB := Lib.hid hb
    have HA := Lib.hid (HV.out.below hb)
    clear hb
    go_upto_region 3 with fail
    generalize w.alloc (.cells #[.int .i64 z] 79) = w1 at *
    go_wp2_with fail
    refine (none_non _ _ HA.out).mono ?_
    rintro e w' ⟨rfl, hw⟩
    subst hw
    go_wp2_with fail
    go_ret
    exact ⟨rfl, HB.out⟩
set_option maxRecDepth 100000 in
theorem append_non (v : Value) (n : Int) (w : World) (h : Non w v) (p : Option Addr) (c : Nat) (b : List UInt8) (hb : Bs w p b.length c b) (hn : b.length ≤ 140737488355328) :
    Calls Tryd.prog 9 #[v, .int .i64 n, .slice p b.length c] w fun e w' => e = .returned (.int .i64 7) ∧ Below w.heap.size w w' := by
  have HBS := Lib.hid hb
  have hle := hb.le
  have hmax := hb.max
  have HV := Lib.hid h
  clear hb h
  go_enter Tryd.func9, Tryd.ntmps9
  go_wp2_with (refine wpList_append_nx rfl _ _ 31 rfl (base := w.heap.size) Tryd.underlying31 info8 rfl (by omega) rfl (World.ownsRow_nil _ _ _ _) rfl HBS.out (bytesV_one _) ⟨by omega, by omega⟩ (Nat.le_refl _) ?_)
  intro p9 c9 w9 ho9 hg9 _ _
  have hb9 : Below w.heap.size w w9 := (Below.refl _ _).grown hg9 (Nat.le_refl _) (fun k hk => by simp [Value.ownBlock] at hk)
  have HB9 := Lib.hid hb9
  have HDO := Lib.hid (do_non v n (.iface 61 (.agg #[.slice p9 (0 + b.length) c9])) w9 (HV.out.below hb9) (.inl ⟨_, rfl⟩))
  rw [Nat.zero_add] at HDO
  clear ho9 hg9 hb9
  go_wp2_with ((with_reducible refine wpAt 11 ?_); refine wpList_build rfl 61 _ rfl [(0, .slice p9 b.length c9)] rfl _ (build_put _ _ _) ?_)
  refine (HDO.out).mono ?_
  rintro e w2 ⟨rfl, hl⟩
  have HL := Lib.hid (HB9.out.trans (hl.mono HB9.out.size))
  clear hl
  go_wp2_with fail
  go_ret
  exact ⟨rfl, HL.out⟩
set_option maxRecDepth 100000 in
theorem cut_non (v : Value) (n m : Int) (w : World) (h : Non w v) :
    Calls Tryd.prog 28 #[v, .int .i64 n, .int .i64 m] w fun e w' => e = .returned (.int .i64 7) ∧ Below w.heap.size w w' := by
  have HDO := Lib.hid (do_non v n (.iface 79 (.agg #[.int .i64 m])) w h (.inr ⟨_, rfl⟩))
  clear h
  go_enter Tryd.func28, Tryd.ntmps28
  go_wp2_with ((with_reducible refine wpAt 10 ?_); refine wpList_build rfl 79 _ rfl [(0, .int .i64 m)] rfl _ (build_cut _) ?_)
  refine (HDO.out).mono ?_
  rintro e w2 ⟨rfl, hl⟩
  have HL := Lib.hid hl
  clear hl
  go_wp2_with fail
  go_ret
  exact ⟨rfl, HL.out⟩
/-- a disk that no call made -/
def zD : Array Value := #[.slice none 0 0, .slice none 0 0, .slice none 0 0, .int .i64 0, .slice none 0 0, .slice none 0 0, .slice none 0 0, .int .i64 0, .slice none 0 0, .slice none 0 0, .slice none 0 0, .int .i64 0, .int .i64 0, .int .i64 0, .bool false]
end Go.Proofs.YtgmahahhkaofbaaDoor.Dk

namespace Go.Proofs.YtgmahahhkaofbaaDoor.Slt
open Go.RowKit Go.Mir Go.Mir.Parts Dk Rol

/-- nil, or slots that no call made -/
def SNon (w : World) (v : Value) : Prop := v = .pointer none ∨ ∃ rb, v = .pointer (some ⟨rb, 0, none⟩) ∧ w.cell? ⟨rb, 0, none⟩ = some (.pointer none)
theorem SNon.below {w w' : World} {v : Value} (h : SNon w v) (hb : Below w.heap.size w w') : SNon w' v := by
  rcases h with h | ⟨rb, h1, h2⟩
  · exact .inl h
  · exact .inr ⟨rb, h1, cell_below h2 hb⟩
set_option maxRecDepth 100000 in
theorem snone_non (v : Value) (w : World) (h : SNon w v) : Calls Tryd.prog 25 #[v] w fun e w' => e = .returned (.bool true) ∧ w = w' := by
  rcases h with rfl | ⟨cb, rfl, hc⟩
  · go_enter Tryd.func25, Tryd.ntmps25
    go_wp2_with fail
    go_ret
    exact ⟨rfl, rfl⟩
  · go_enter Tryd.func25, Tryd.ntmps25
    go_wp2_with fail
    go_ret
    exact ⟨rfl, rfl⟩
set_option maxRecDepth 100000 in
theorem sturn_non (v : Value) (w : World) (h : SNon w v) : Calls Tryd.prog 13 #[v] w fun e w' => e = .returned (.int .u64 0) ∧ w = w' := by
  have HV := Lib.hid h
  clear h
  go_enter Tryd.func13, Tryd.ntmps13
  go_wp2_with fail
  refine (snone_non _ _ HV.out).mono ?_
  rintro e w' ⟨rfl, hw⟩
  subst hw
  go_wp2_with fail
  go_ret
  exact ⟨rfl, rfl⟩
set_option maxRecDepth 100000 in
theorem sfile_non (v : Value) (w : World) (h : SNon w v) : Calls Tryd.prog 14 #[v] w fun e w' => e = .returned (.int .i64 (-1)) ∧ w = w' := by
  have HV := Lib.hid h
  clear h
  go_enter Tryd.func14, Tryd.ntmps14
  go_wp2_with fail
  refine (snone_non _ _ HV.out).mono ?_
  rintro e w' ⟨rfl, hw⟩
  subst hw
  go_wp2_with fail
  go_ret
  exact ⟨rfl, rfl⟩
set_option maxRecDepth 100000 in
theorem sget_non (v : Value) (w : World) (h : SNon w v) : Calls Tryd.prog 16 #[v] w fun e w' => e = .returned (.tuple #[.slice none 0 0, .bool false]) ∧ w = w' := by
  have HV := Lib.hid h
  clear h
  go_enter Tryd.func16, Tryd.ntmps16
  go_wp2_with fail
  refine (snone_non _ _ HV.out).mono ?_
  rintro e w' ⟨rfl, hw⟩
  subst hw
  go_wp2_with fail
  go_ret2
  exact ⟨rfl, rfl⟩
set_option maxRecDepth 100000 in
theorem sput_non (v b : Value) (w : World) (h : SNon w v) : Calls Tryd.prog 15 #[v, b] w fun e w' => e = .returned (.int .i64 7) ∧ Below w.heap.size w w' := by
  have HB1 : Hid (Below w.heap.size w (w.alloc (.cells #[v] 34))) := Below.allocs _ _
  have HV1 := Lib.hid (h.below HB1.out)
  have hcs : (w.alloc (.cells #[v] 34)).cell? ⟨w.heap.size, 0, none⟩ = some v := by rw [cell_of_row _ _ _ _ _ _ (heap_alloc_last w _)]; rfl
  rcases h with rfl | ⟨cb, rfl, hc⟩
  · go_enter Tryd.func15, Tryd.ntmps15
    go_upto_region 1 with fail
    generalize w.alloc _ = w1 at *
    go_wp2_with fail
    refine (snone_non _ w1 HV1.out).mono ?_
    rintro e w' ⟨rfl, hw⟩
    subst hw
    go_wp2_with fail
    go_ret
    exact ⟨rfl, HB1.out⟩
  · clear hc
    go_enter Tryd.func15, Tryd.ntmps15
    go_upto_region 1 with fail
    generalize w.alloc _ = w1 at *
    go_wp2_with fail
    refine (snone_non _ w1 HV1.out).mono ?_
    rintro e w' ⟨rfl, hw⟩
    subst hw
    go_wp2_with fail
    go_ret
    exact ⟨rfl, HB1.out⟩
set_option maxRecDepth 100000 in
theorem sopen_non (v : Value) (i j : Int) (w : World) (h : Non w v) : Calls Tryd.prog 12 #[v, .int .i64 i, .int .i64 j] w fun e w' => e = .returned (.tuple #[.pointer none, .int .i64 7]) ∧ w = w' := by
  have HV := Lib.hid h
  clear h
  go_enter Tryd.func12, Tryd.ntmps12
  go_wp2_with fail
  refine (room_non _ _ HV.out).mono ?_
  rintro e w' ⟨rfl, hw⟩
  subst hw
  go_wp2_with fail
  go_ret2
  exact ⟨rfl, rfl⟩
def Good (i j : Int) : Prop := (0 ≤ i ∧ i < 3) ∧ (0 ≤ j ∧ j < 3) ∧ i ≠ j
set_option maxRecDepth 100000 in
set_option maxHeartbeats 1600000 in
theorem sopen_bad {base db : Nat} {d : DD} (w : World) (hX : DX base db d w) (i j : Int) (h : ¬ Good i j) :
    Calls Tryd.prog 12 #[.pointer (some ⟨db, 0, none⟩), .int .i64 i, .int .i64 j] w fun e w' => e = .returned (.tuple #[.pointer none, .int .i64 1]) ∧ w = w' := by
  have HRM := Lib.hid (xroomS w hX)
  have hr := hX.room.1
  have e1 : ((d.room : Int) == 0) = false := by rw [beq_eq_false_iff_ne]; omega
  have e2 : (d.room == 0) = false := by rw [beq_eq_false_iff_ne]; omega
  have HI := Lib.hid (file_is i w)
  have HJ := Lib.hid (file_is j w)
  have HG := Lib.hid h
  clear hX hr h
  by_cases hi : 0 ≤ i ∧ i < 3
  · rw [decide_eq_true hi] at HI
    by_cases hj : 0 ≤ j ∧ j < 3
    · rw [decide_eq_true hj] at HJ
      have hij : i = j := Decidable.byContradiction fun hn => HG.out ⟨hi, hj, hn⟩
      have e3 : (i == j) = true := by rw [beq_iff_eq]; exact hij
      clear hi hj hij
      go_enter Tryd.func12, Tryd.ntmps12
      go_wp2_with fail
      refine HRM.out.mono ?_
      rintro e w' ⟨rfl, rfl⟩
      go_wp2_with fail
      refine HI.out.mono ?_
      rintro e w' ⟨rfl, rfl⟩
      go_wp2_with fail
      refine HJ.out.mono ?_
      rintro e w' ⟨rfl, rfl⟩
      go_wp2_with fail
      go_ret2
      exact ⟨rfl, rfl⟩
    · rw [decide_eq_false hj] at HJ
      clear hi hj
      go_enter Tryd.func12, Tryd.ntmps12
      go_wp2_with fail
      refine HRM.out.mono ?_
      rintro e w' ⟨rfl, rfl⟩
      go_wp2_with fail
      refine HI.out.mono ?_
      rintro e w' ⟨rfl, rfl⟩
      go_wp2_with fail
      refine HJ.out.mono ?_
      rintro e w' ⟨rfl, rfl⟩
      go_wp2_with fail
      go_ret2
      exact ⟨rfl, rfl⟩
  · rw [decide_eq_false hi] at HI
    clear hi
    go_enter Tryd.func12, Tryd.ntmps12
    go_wp2_with fail
    refine HRM.out.mono ?_
    rintro e w' ⟨rfl, rfl⟩
    go_wp2_with fail
    refine HI.out.mono ?_
    rintro e w' ⟨rfl, rfl⟩
    go_wp2_with fail
    go_ret2
    exact ⟨rfl, rfl⟩
theorem zeroSK (w : World) : (zeroValue 58).run Tryd.prog w = .ok (.agg #[.slice none 0 0, .slice none 0 0, .slice none 0 0, .int .i64 0, .slice none 0 0, .slice none 0 0, .slice none 0 0, .int .i64 0, .slice none 0 0, .slice none 0 0, .slice none 0 0, .int .i64 0, .int .i64 0, .int .i64 0, .bool false]) w := by kernel_rfl
def slZ : Array Value := #[.pointer none, .int .i64 0, .int .i64 0, .int .i64 0, .int .u64 0, .slice none 0 0, .nilFunc]
theorem zeroS (w : World) : (zeroValue 46).run Tryd.prog w = .ok (.agg slZ) w := by kernel_rfl

set_option maxRecDepth 100000 in
set_option maxHeartbeats 6400000 in
theorem law_nil (z1 z2 : Int) (p : Option Addr) (n c : Nat) (w : World) (hE : Rdr.EType w) :
    Calls Tryd.prog 4 #[.int .i64 z1, .int .i64 z2, .slice p n c] w fun e w' => e = .returned (.bool true) ∧ Below w.heap.size w w' := by
  have HE := Lib.hid hE
  have hzs := zeroS
  clear hE
  go_enter Tryd.func4, Tryd.ntmps4
  go_wp2_with fail
  refine (sopen_non _ z1 z2 w (.inl rfl)).mono ?_
  rintro e w' ⟨rfl, hw⟩
  subst hw
  go_wp2_with fail
  refine (snew 50 w (by omega)).mono ?_
  rintro e w2 ⟨db, rfl, hd2, hb2⟩
  have HX := Lib.hid hd2
  have HB1 := Lib.hid hb2
  clear hd2 hb2
  go_upto_region 4 with fail
  go_wp2_with fail
  by_cases a1 : 0 ≤ z1
  · have d1 : decide ((0 : Int) ≤ z1) = true := decide_eq_true a1
    by_cases a2 : z1 < 3
    · have d2 : decide (z1 < 3) = true := decide_eq_true a2
      by_cases a3 : 0 ≤ z2
      · have d3 : decide ((0 : Int) ≤ z2) = true := decide_eq_true a3
        by_cases a4 : z2 < 3
        · have d4 : decide (z2 < 3) = true := decide_eq_true a4
          by_cases a5 : z1 = z2
          · have d5 : (z1 != z2) = false := by rw [a5]; exact bne_self_eq_false _
            have hbad : ¬ Good z1 z2 := fun h => h.2.2 a5
            clear a1 a2 a3 a4 a5
            skip
            refine (sopen_bad w2 HX.out z1 z2 hbad).mono ?_
            rintro e w' ⟨rfl, hw⟩
            subst hw
            clear hbad
            -- behind y, f := slot.Open(d, first, second), world w2, HB1: what is below
            go_upto_region 10 with fail
            have HK2 : Hid ((w2.alloc (.cells slZ 46)).cell? ⟨w2.heap.size, 0, none⟩ = some (.pointer none)) := by
              show _ = _
              rw [cell_of_row _ _ _ _ _ _ (heap_alloc_last w2 _)]; rfl
            have HB2 := Lib.hid (HB1.out.trans ((Below.allocs w2 (.cells slZ 46)).mono HB1.out.size))
            generalize w2.alloc (.cells slZ 46) = w2 at *
            generalize w2.heap.size = cb at *
            go_wp2_with fail
            refine (sget_non _ w2 (.inl rfl)).mono ?_
            rintro e w' ⟨rfl, hw⟩
            subst hw
            go_wp2_with fail
            refine (sget_non _ w2 (.inr ⟨_, rfl, HK2.out⟩)).mono ?_
            rintro e w' ⟨rfl, hw⟩
            subst hw
            go_wp2_with fail
            refine (sturn_non _ w2 (.inl rfl)).mono ?_
            rintro e w' ⟨rfl, hw⟩
            subst hw
            go_wp2_with fail
            refine (sturn_non _ w2 (.inr ⟨_, rfl, HK2.out⟩)).mono ?_
            rintro e w' ⟨rfl, hw⟩
            subst hw
            go_wp2_with fail
            refine (sfile_non _ w2 (.inl rfl)).mono ?_
            rintro e w' ⟨rfl, hw⟩
            subst hw
            go_wp2_with fail
            refine (sfile_non _ w2 (.inr ⟨_, rfl, HK2.out⟩)).mono ?_
            rintro e w' ⟨rfl, hw⟩
            subst hw
            go_wp2_with fail
            refine (sput_non _ _ w2 (.inl rfl)).mono ?_
            rintro e w3 ⟨rfl, hb3⟩
            have HB3 := Lib.hid (HB2.out.trans (hb3.mono HB2.out.size))
            have HK3 := Lib.hid (cell_below HK2.out hb3)
            clear hb3
            go_wp2_with fail
            refine (sput_non _ _ w3 (.inr ⟨_, rfl, HK3.out⟩)).mono ?_
            rintro e w4 ⟨rfl, hb4⟩
            have HB4 := Lib.hid (HB3.out.trans (hb4.mono HB3.out.size))
            clear hb4
            go_wp2_with fail
            refine (alive21_any w4 (HE.out.below HB4.out HE.out.lt)).mono ?_
            rintro e w9 ⟨rfl, hb9⟩
            have HB9 := Lib.hid (HB4.out.trans (hb9.mono HB4.out.size))
            clear hb9
            go_wp2_with fail
            go_ret
            exact ⟨rfl, HB9.out⟩
          · have d5 : (z1 != z2) = true := bne_iff_ne.2 a5
            obtain ⟨a, rfl⟩ : ∃ a : Nat, z1 = (a : Int) := ⟨z1.toNat, by omega⟩
            obtain ⟨b, rfl⟩ : ∃ b : Nat, z2 = (b : Int) := ⟨z2.toNat, by omega⟩
            refine (sopen_any w2 (HE.out.below HB1.out HE.out.lt) HX.out a b (by omega) (by omega) (by omega) rfl).mono ?_
            rintro e w8 ⟨sb, rfl, hs8, hb8⟩
            have HB8 := Lib.hid (HB1.out.trans (hb8.mono HB1.out.size))
            clear hs8 hb8 a1 a2 a3 a4 a5
            skip
            -- behind y, f := slot.Open(d, first, second), world w8, HB8: what is below
            go_upto_region 10 with fail
            have HK2 : Hid ((w8.alloc (.cells slZ 46)).cell? ⟨w8.heap.size, 0, none⟩ = some (.pointer none)) := by
              show _ = _
              rw [cell_of_row _ _ _ _ _ _ (heap_alloc_last w8 _)]; rfl
            have HB2 := Lib.hid (HB8.out.trans ((Below.allocs w8 (.cells slZ 46)).mono HB8.out.size))
            generalize w8.alloc (.cells slZ 46) = w2 at *
            generalize w8.heap.size = cb at *
            go_wp2_with fail
            refine (sget_non _ w2 (.inl rfl)).mono ?_
            rintro e w' ⟨rfl, hw⟩
            subst hw
            go_wp2_with fail
            refine (sget_non _ w2 (.inr ⟨_, rfl, HK2.out⟩)).mono ?_
            rintro e w' ⟨rfl, hw⟩
            subst hw
            go_wp2_with fail
            refine (sturn_non _ w2 (.inl rfl)).mono ?_
            rintro e w' ⟨rfl, hw⟩
            subst hw
            go_wp2_with fail
            refine (sturn_non _ w2 (.inr ⟨_, rfl, HK2.out⟩)).mono ?_
            rintro e w' ⟨rfl, hw⟩
            subst hw
            go_wp2_with fail
            refine (sfile_non _ w2 (.inl rfl)).mono ?_
            rintro e w' ⟨rfl, hw⟩
            subst hw
            go_wp2_with fail
            refine (sfile_non _ w2 (.inr ⟨_, rfl, HK2.out⟩)).mono ?_
            rintro e w' ⟨rfl, hw⟩
            subst hw
            go_wp2_with fail
            refine (sput_non _ _ w2 (.inl rfl)).mono ?_
            rintro e w3 ⟨rfl, hb3⟩
            have HB3 := Lib.hid (HB2.out.trans (hb3.mono HB2.out.size))
            have HK3 := Lib.hid (cell_below HK2.out hb3)
            clear hb3
            go_wp2_with fail
            refine (sput_non _ _ w3 (.inr ⟨_, rfl, HK3.out⟩)).mono ?_
            rintro e w4 ⟨rfl, hb4⟩
            have HB4 := Lib.hid (HB3.out.trans (hb4.mono HB3.out.size))
            clear hb4
            go_wp2_with fail
            refine (alive21_any w4 (HE.out.below HB4.out HE.out.lt)).mono ?_
            rintro e w9 ⟨rfl, hb9⟩
            have HB9 := Lib.hid (HB4.out.trans (hb9.mono HB4.out.size))
            clear hb9
            go_wp2_with fail
            go_ret
            exact ⟨rfl, HB9.out⟩
        · have d4 : decide (z2 < 3) = false := decide_eq_false a4
          have hbad : ¬ Good z1 z2 := fun h => a4 h.2.1.2
          clear a1 a2 a3 a4
          skip
          refine (sopen_bad w2 HX.out z1 z2 hbad).mono ?_
          rintro e w' ⟨rfl, hw⟩
          subst hw
          clear hbad
          -- behind y, f := slot.Open(d, first, second), world w2, HB1: what is below
          go_upto_region 10 with fail
          have HK2 : Hid ((w2.alloc (.cells slZ 46)).cell? ⟨w2.heap.size, 0, none⟩ = some (.pointer none)) := by
            show _ = _
            rw [cell_of_row _ _ _ _ _ _ (heap_alloc_last w2 _)]; rfl
          have HB2 := Lib.hid (HB1.out.trans ((Below.allocs w2 (.cells slZ 46)).mono HB1.out.size))
          generalize w2.alloc (.cells slZ 46) = w2 at *
          generalize w2.heap.size = cb at *
          go_wp2_with fail
          refine (sget_non _ w2 (.inl rfl)).mono ?_
          rintro e w' ⟨rfl, hw⟩
          subst hw
          go_wp2_with fail
          refine (sget_non _ w2 (.inr ⟨_, rfl, HK2.out⟩)).mono ?_
          rintro e w' ⟨rfl, hw⟩
          subst hw
          go_wp2_with fail
          refine (sturn_non _ w2 (.inl rfl)).mono ?_
          rintro e w' ⟨rfl, hw⟩
          subst hw
          go_wp2_with fail
          refine (sturn_non _ w2 (.inr ⟨_, rfl, HK2.out⟩)).mono ?_
          rintro e w' ⟨rfl, hw⟩
          subst hw
          go_wp2_with fail
          refine (sfile_non _ w2 (.inl rfl)).mono ?_
          rintro e w' ⟨rfl, hw⟩
          subst hw
          go_wp2_with fail
          refine (sfile_non _ w2 (.inr ⟨_, rfl, HK2.out⟩)).mono ?_
          rintro e w' ⟨rfl, hw⟩
          subst hw
          go_wp2_with fail
          refine (sput_non _ _ w2 (.inl rfl)).mono ?_
          rintro e w3 ⟨rfl, hb3⟩
          have HB3 := Lib.hid (HB2.out.trans (hb3.mono HB2.out.size))
          have HK3 := Lib.hid (cell_below HK2.out hb3)
          clear hb3
          go_wp2_with fail
          refine (sput_non _ _ w3 (.inr ⟨_, rfl, HK3.out⟩)).mono ?_
          rintro e w4 ⟨rfl, hb4⟩
          have HB4 := Lib.hid (HB3.out.trans (hb4.mono HB3.out.size))
          clear hb4
          go_wp2_with fail
          refine (alive21_any w4 (HE.out.below HB4.out HE.out.lt)).mono ?_
          rintro e w9 ⟨rfl, hb9⟩
          have HB9 := Lib.hid (HB4.out.trans (hb9.mono HB4.out.size))
          clear hb9
          go_wp2_with fail
          go_ret
          exact ⟨rfl, HB9.out⟩
      · have d3 : decide ((0 : Int) ≤ z2) = false := decide_eq_false a3
        have hbad : ¬ Good z1 z2 := fun h => a3 h.2.1.1
        clear a1 a2 a3
        skip
        refine (sopen_bad w2 HX.out z1 z2 hbad).mono ?_
        rintro e w' ⟨rfl, hw⟩
        subst hw
        clear hbad
        -- behind y, f := slot.Open(d, first, second), world w2, HB1: what is below
        go_upto_region 10 with fail
        have HK2 : Hid ((w2.alloc (.cells slZ 46)).cell? ⟨w2.heap.size, 0, none⟩ = some (.pointer none)) := by
          show _ = _
          rw [cell_of_row _ _ _ _ _ _ (heap_alloc_last w2 _)]; rfl
        have HB2 := Lib.hid (HB1.out.trans ((Below.allocs w2 (.cells slZ 46)).mono HB1.out.size))
        generalize w2.alloc (.cells slZ 46) = w2 at *
        generalize w2.heap.size = cb at *
        go_wp2_with fail
        refine (sget_non _ w2 (.inl rfl)).mono ?_
        rintro e w' ⟨rfl, hw⟩
        subst hw
        go_wp2_with fail
        refine (sget_non _ w2 (.inr ⟨_, rfl, HK2.out⟩)).mono ?_
        rintro e w' ⟨rfl, hw⟩
        subst hw
        go_wp2_with fail
        refine (sturn_non _ w2 (.inl rfl)).mono ?_
        rintro e w' ⟨rfl, hw⟩
        subst hw
        go_wp2_with fail
        refine (sturn_non _ w2 (.inr ⟨_, rfl, HK2.out⟩)).mono ?_
        rintro e w' ⟨rfl, hw⟩
        subst hw
        go_wp2_with fail
        refine (sfile_non _ w2 (.inl rfl)).mono ?_
        rintro e w' ⟨rfl, hw⟩
        subst hw
        go_wp2_with fail
        refine (sfile_non _ w2 (.inr ⟨_, rfl, HK2.out⟩)).mono ?_
        rintro e w' ⟨rfl, hw⟩
        subst hw
        go_wp2_with fail
        refine (sput_non _ _ w2 (.inl rfl)).mono ?_
        rintro e w3 ⟨rfl, hb3⟩
        have HB3 := Lib.hid (HB2.out.trans (hb3.mono HB2.out.size))
        have HK3 := Lib.hid (cell_below HK2.out hb3)
        clear hb3
        go_wp2_with fail
        refine (sput_non _ _ w3 (.inr ⟨_, rfl, HK3.out⟩)).mono ?_
        rintro e w4 ⟨rfl, hb4⟩
        have HB4 := Lib.hid (HB3.out.trans (hb4.mono HB3.out.size))
        clear hb4
        go_wp2_with fail
        refine (alive21_any w4 (HE.out.below HB4.out HE.out.lt)).mono ?_
        rintro e w9 ⟨rfl, hb9⟩
        have HB9 := Lib.hid (HB4.out.trans (hb9.mono HB4.out.size))
        clear hb9
        go_wp2_with fail
        go_ret
        exact ⟨rfl, HB9.out⟩
    · have d2 : decide (z1 < 3) = false := decide_eq_false a2
      have hbad : ¬ Good z1 z2 := fun h => a2 h.1.2
      clear a1 a2
      skip
      refine (sopen_bad w2 HX.out z1 z2 hbad).mono ?_
      rintro e w' ⟨rfl, hw⟩
      subst hw
      clear hbad
      -- behind y, f := slot.Open(d, first, second), world w2, HB1: what is below
      go_upto_region 10 with fail
      have HK2 : Hid ((w2.alloc (.cells slZ 46)).cell? ⟨w2.heap.size, 0, none⟩ = some (.pointer none)) := by
        show _ = _
        rw [cell_of_row _ _ _ _ _ _ (heap_alloc_last w2 _)]; rfl
      have HB2 := Lib.hid (HB1.out.trans ((Below.allocs w2 (.cells slZ 46)).mono HB1.out.size))
      generalize w2.alloc (.cells slZ 46) = w2 at *
      generalize w2.heap.size = cb at *
      go_wp2_with fail
      refine (sget_non _ w2 (.inl rfl)).mono ?_
      rintro e w' ⟨rfl, hw⟩
      subst hw
      go_wp2_with fail
      refine (sget_non _ w2 (.inr ⟨_, rfl, HK2.out⟩)).mono ?_
      rintro e w' ⟨rfl, hw⟩
      subst hw
      go_wp2_with fail
      refine (sturn_non _ w2 (.inl rfl)).mono ?_
      rintro e w' ⟨rfl, hw⟩
      subst hw
      go_wp2_with fail
      refine (sturn_non _ w2 (.inr ⟨_, rfl, HK2.out⟩)).mono ?_
      rintro e w' ⟨rfl, hw⟩
      subst hw
      go_wp2_with fail
      refine (sfile_non _ w2 (.inl rfl)).mono ?_
      rintro e w' ⟨rfl, hw⟩
      subst hw
      go_wp2_with fail
      refine (sfile_non _ w2 (.inr ⟨_, rfl, HK2.out⟩)).mono ?_
      rintro e w' ⟨rfl, hw⟩
      subst hw
      go_wp2_with fail
      refine (sput_non _ _ w2 (.inl rfl)).mono ?_
      rintro e w3 ⟨rfl, hb3⟩
      have HB3 := Lib.hid (HB2.out.trans (hb3.mono HB2.out.size))
      have HK3 := Lib.hid (cell_below HK2.out hb3)
      clear hb3
      go_wp2_with fail
      refine (sput_non _ _ w3 (.inr ⟨_, rfl, HK3.out⟩)).mono ?_
      rintro e w4 ⟨rfl, hb4⟩
      have HB4 := Lib.hid (HB3.out.trans (hb4.mono HB3.out.size))
      clear hb4
      go_wp2_with fail
      refine (alive21_any w4 (HE.out.below HB4.out HE.out.lt)).mono ?_
      rintro e w9 ⟨rfl, hb9⟩
      have HB9 := Lib.hid (HB4.out.trans (hb9.mono HB4.out.size))
      clear hb9
      go_wp2_with fail
      go_ret
      exact ⟨rfl, HB9.out⟩
  · have d1 : decide ((0 : Int) ≤ z1) = false := decide_eq_false a1
    have hbad : ¬ Good z1 z2 := fun h => a1 h.1.1
    clear a1
    skip
    refine (sopen_bad w2 HX.out z1 z2 hbad).mono ?_
    rintro e w' ⟨rfl, hw⟩
    subst hw
    clear hbad
    -- behind y, f := slot.Open(d, first, second), world w2, HB1: what is below
    go_upto_region 10 with fail
    have HK2 : Hid ((w2.alloc (.cells slZ 46)).cell? ⟨w2.heap.size, 0, none⟩ = some (.pointer none)) := by
      show _ = _
      rw [cell_of_row _ _ _ _ _ _ (heap_alloc_last w2 _)]; rfl
    have HB2 := Lib.hid (HB1.out.trans ((Below.allocs w2 (.cells slZ 46)).mono HB1.out.size))
    generalize w2.alloc (.cells slZ 46) = w2 at *
    generalize w2.heap.size = cb at *
    go_wp2_with fail
    refine (sget_non _ w2 (.inl rfl)).mono ?_
    rintro e w' ⟨rfl, hw⟩
    subst hw
    go_wp2_with fail
    refine (sget_non _ w2 (.inr ⟨_, rfl, HK2.out⟩)).mono ?_
    rintro e w' ⟨rfl, hw⟩
    subst hw
    go_wp2_with fail
    refine (sturn_non _ w2 (.inl rfl)).mono ?_
    rintro e w' ⟨rfl, hw⟩
    subst hw
    go_wp2_with fail
    refine (sturn_non _ w2 (.inr ⟨_, rfl, HK2.out⟩)).mono ?_
    rintro e w' ⟨rfl, hw⟩
    subst hw
    go_wp2_with fail
    refine (sfile_non _ w2 (.inl rfl)).mono ?_
    rintro e w' ⟨rfl, hw⟩
    subst hw
    go_wp2_with fail
    refine (sfile_non _ w2 (.inr ⟨_, rfl, HK2.out⟩)).mono ?_
    rintro e w' ⟨rfl, hw⟩
    subst hw
    go_wp2_with fail
    refine (sput_non _ _ w2 (.inl rfl)).mono ?_
    rintro e w3 ⟨rfl, hb3⟩
    have HB3 := Lib.hid (HB2.out.trans (hb3.mono HB2.out.size))
    have HK3 := Lib.hid (cell_below HK2.out hb3)
    clear hb3
    go_wp2_with fail
    refine (sput_non _ _ w3 (.inr ⟨_, rfl, HK3.out⟩)).mono ?_
    rintro e w4 ⟨rfl, hb4⟩
    have HB4 := Lib.hid (HB3.out.trans (hb4.mono HB3.out.size))
    clear hb4
    go_wp2_with fail
    refine (alive21_any w4 (HE.out.below HB4.out HE.out.lt)).mono ?_
    rintro e w9 ⟨rfl, hb9⟩
    have HB9 := Lib.hid (HB4.out.trans (hb9.mono HB4.out.size))
    clear hb9
    go_wp2_with fail
    go_ret
    exact ⟨rfl, HB9.out⟩
end Go.Proofs.YtgmahahhkaofbaaDoor.Slt
