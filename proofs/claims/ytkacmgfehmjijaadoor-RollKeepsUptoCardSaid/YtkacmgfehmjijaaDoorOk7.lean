/- PARTS, JOINED: PLAIN PART OF THE ROLL: what it does to a disk of one file, and what a crash leaves. Conditions: none. A DISK BESIDE OTHER MEMORY: what its calls leave, and what they leave alone. Conditions: none. THE WALKS OF A ROLL: Append, Clear, Bodies, Len, Size. Conditions: the laid cell of errors.errorType where frames are scanned; bodies of at most 4000 bytes. THE WALKS OF A ROLL, on: Bodies, Len, Size, mend, Open. Conditions: the laid cell of errors.errorType. LAYER 20: the statement's own words: alive; a disk made, armed, crashed. Conditions: the laid cell of errors.errorType. THE WALKS OF THE REFERENCE's SMALL WORDS ON PARTS: Few, Join. Conditions: sizes that fit. PLAIN PART OF RollKeeps: what was told, what was last, and the disk. Conditions: none. LAYER 20: RollOpens: a roll is opened in any state of a disk that is up. Conditions: the laid cell of errors.errorType. -/
import Derived.Test.YtkacmgfehmjijaaDoorOk1
import Derived.Test.YtkacmgfehmjijaaDoorOk2
import Derived.Test.YtkacmgfehmjijaaDoorOk3
import Derived.Test.YtkacmgfehmjijaaDoorOk4
import Derived.Test.YtkacmgfehmjijaaDoorOk5
import Derived.Test.YtkacmgfehmjijaaDoorOk6
import Derived.BigQuiet
import Derived.Test.YtkacmgfehmjijaaDoorProg
namespace Go.Proofs.YtkacmgfehmjijaaDoor.Rol
open Go.RowKit Go.Mir Dk
open Frm (frame scan one frame_length scan_frames scan_ok scan_no one_torn one_frame one_frame0)

/-! ### what is scanned -/
theorem scan_len : ∀ (n : Nat) (l : List UInt8), l.length ≤ n → (scan l).2 ≤ l.length ∧ l.take (scan l).2 = (scan l).1.flatMap frame ∧ ∀ x ∈ (scan l).1, 1 ≤ x.length ∧ x.length ≤ 65536
  | 0, l, hn => by
    have hl : l = [] := List.length_eq_zero_iff.1 (by omega)
    subst hl
    rw [scan_no (by decide)]
    exact ⟨Nat.le_refl _, rfl, fun x hx => (nomatch hx)⟩
  | n + 1, l, hn => by
    by_cases ho : (one l).2.2 = 0
    · obtain ⟨a1, a2, a3, a4, a5, a6⟩ := Frm.one_ok ho
      have hdl : (l.drop (one l).2.1).length = l.length - (one l).2.1 := List.length_drop
      obtain ⟨b1, b2, b3⟩ := scan_len n (l.drop (one l).2.1) (by omega)
      rw [scan_ok ho]
      dsimp only
      refine ⟨by omega, ?_, fun x hx => ?_⟩
      · rw [List.flatMap_cons, a4, ← b2, List.take_add]
      · rcases List.mem_cons.1 hx with hx | hx
        · subst hx; exact ⟨a5, a6⟩
        · exact b3 x hx
    · rw [scan_no ho]
      exact ⟨Nat.zero_le _, by rw [List.take_zero]; rfl, fun x hx => (nomatch hx)⟩
theorem scan_le (l : List UInt8) : (scan l).2 ≤ l.length := (scan_len _ l (Nat.le_refl _)).1
theorem one_nil : ¬ (one []).2.2 = 0 := by decide
theorem scan_all (ls : List (List UInt8)) (h : ∀ x ∈ ls, 1 ≤ x.length ∧ x.length ≤ 65536) : scan (ls.flatMap frame) = (ls, (ls.flatMap frame).length) := by
  have := scan_frames [] one_nil ls h
  rwa [List.append_nil] at this
theorem scan_take (l : List UInt8) : scan (l.take (scan l).2) = scan l := by
  obtain ⟨h1, h2, h3⟩ := scan_len _ l (Nat.le_refl _)
  rw [h2, scan_all _ h3, ← h2, List.length_take, Nat.min_eq_left h1]

/-! ### what is done -/
def fD (d : DD) (i : Nat) : FD := (d.fs[i]?).getD FD.none
theorem fD_eq {d : DD} {i : Nat} (h : i < d.fs.length) : d.fs[i] = fD d i := by
  unfold fD; rw [List.getElem?_eq_getElem h]; rfl
def appD (d : DD) (i : Nat) (b : List UInt8) : DD :=
  if b.length = 0 then d else if doE d i (fD d i) (.put (frame b)) = 0 then syncD (doD d i (fD d i) (.put (frame b))) i (fD (doD d i (fD d i) (.put (frame b))) i) else doD d i (fD d i) (.put (frame b))
def appE (d : DD) (i : Nat) (b : List UInt8) : Int :=
  if b.length = 0 then 1 else if doE d i (fD d i) (.put (frame b)) = 0 then syncE (doD d i (fD d i) (.put (frame b))) else doE d i (fD d i) (.put (frame b))
/-- a cut, and a sync -/
def clrD (d : DD) (i m : Nat) : DD :=
  if doE d i (fD d i) (.cut m) = 0 then syncD (doD d i (fD d i) (.cut m)) i (fD (doD d i (fD d i) (.cut m)) i) else doD d i (fD d i) (.cut m)
def clrE (d : DD) (i m : Nat) : Int :=
  if doE d i (fD d i) (.cut m) = 0 then syncE (doD d i (fD d i) (.cut m)) else doE d i (fD d i) (.cut m)
def endD (d : DD) (i : Nat) : DD := if unitsAll (fD d i).steps = 0 then d else syncD d i (fD d i)
def endE (d : DD) (i : Nat) : Int := if unitsAll (fD d i).steps = 0 then 0 else syncE d
def mendD (d : DD) (i : Nat) : DD :=
  if (scan (fD d i).now).2 < (fD d i).now.length then (if doE d i (fD d i) (.cut (scan (fD d i).now).2) = 0 then endD (doD d i (fD d i) (.cut (scan (fD d i).now).2)) i else doD d i (fD d i) (.cut (scan (fD d i).now).2)) else endD d i
def mendE (d : DD) (i : Nat) : Int :=
  if (scan (fD d i).now).2 < (fD d i).now.length then (if doE d i (fD d i) (.cut (scan (fD d i).now).2) = 0 then endE (doD d i (fD d i) (.cut (scan (fD d i).now).2)) i else doE d i (fD d i) (.cut (scan (fD d i).now).2)) else endE d i

/-! ### a disk of one file -/
def dI (room fuse : Nat) (down : Bool) (i : Nat) (f : FD) : DD := ⟨[FD.none, FD.none, FD.none].set i f, room, fuse, down⟩
def fS (x : List UInt8) : FD := ⟨x, x, [], x.length⟩
theorem new_dI (room i : Nat) : DD.new room = dI room 0 false i (fS []) := by
  unfold DD.new dI
  congr 1
  match i with
  | 0 => rfl
  | 1 => rfl
  | 2 => rfl
  | i + 3 => rfl
theorem fD_dI (room fuse : Nat) (down : Bool) (i : Nat) (hi : i < 3) (f : FD) : fD (dI room fuse down i f) i = f := by
  match i, hi with
  | 0, _ => rfl
  | 1, _ => rfl
  | 2, _ => rfl
theorem used_dI (room fuse : Nat) (down : Bool) (i : Nat) (hi : i < 3) (f : FD) : usedL (dI room fuse down i f).fs = f.need := by
  match i, hi with
  | 0, _ => rfl
  | 1, _ => show 0 + (f.need + 0) = _; omega
  | 2, _ => show 0 + (0 + (f.need + 0)) = _; omega
theorem set_dI (room fuse : Nat) (down : Bool) (i : Nat) (f g : FD) : setF (dI room fuse down i f) i g = dI room fuse down i g := by
  unfold setF dI
  simp only [List.set_set]
theorem burn_dI (room fuse : Nat) (down : Bool) (i : Nat) (f : FD) : (dI room fuse down i f).burn = if 0 < fuse then dI room (fuse - 1) (decide (fuse = 1)) i f else dI room fuse down i f := rfl
theorem none_settle (u : Nat) : FD.none.settle u = FD.none := rfl
theorem crash_dI (us : List Int) (room fuse : Nat) (down : Bool) (i : Nat) (hi : i < 3) (f : FD) : crashD us (dI room fuse down i f) = dI room 0 false i (f.settle (crU us i f)) := by
  match i, hi with
  | 0, _ => rfl
  | 1, _ => rfl
  | 2, _ => rfl
/-- a step that fits -/
theorem do_dI (room fuse : Nat) (i : Nat) (hi : i < 3) (f : FD) (s : St) (h : max f.need (s.size f.now.length) ≤ room) :
    (doE (dI room fuse false i f) i f s = 0 ∧ doD (dI room fuse false i f) i f s = dI room (fuse - 1) false i (f.take s) ∧ fuse ≠ 1) ∨
    (doE (dI room fuse false i f) i f s = 18 ∧ doD (dI room fuse false i f) i f s = dI room 0 true i (f.take s) ∧ fuse = 1) := by
  have hu := used_dI room fuse false i hi f
  have e0 : ¬ (dI room fuse false i f).down = true := Bool.false_ne_true
  have e1 : ¬ (dI room fuse false i f).room < f.need - f.need + max f.need (s.size f.now.length) := by show ¬ room < _; omega
  unfold doE doD
  rw [hu, if_neg e0, if_neg e1, if_neg e0, if_neg e1, set_dI, burn_dI]
  by_cases h1 : fuse = 1
  · subst h1
    exact .inr ⟨rfl, rfl, rfl⟩
  · refine .inl ?_
    by_cases h0 : 0 < fuse
    · rw [if_pos h0, decide_eq_false h1]
      exact ⟨rfl, rfl, h1⟩
    · rw [if_neg h0]
      obtain rfl : fuse = 0 := by omega
      exact ⟨rfl, rfl, h1⟩
theorem sync_dI (room fuse : Nat) (i : Nat) (f : FD) :
    (syncE (dI room fuse false i f) = 0 ∧ syncD (dI room fuse false i f) i f = dI room (fuse - 1) false i (f.settle (unitsAll f.steps)) ∧ fuse ≠ 1) ∨
    (syncE (dI room fuse false i f) = 18 ∧ syncD (dI room fuse false i f) i f = dI room 0 true i f ∧ fuse = 1) := by
  have e0 : ¬ (dI room fuse false i f).down = true := Bool.false_ne_true
  unfold syncE syncD
  rw [if_neg e0, if_neg e0, burn_dI]
  by_cases h1 : fuse = 1
  · subst h1
    exact .inr ⟨rfl, rfl, rfl⟩
  · refine .inl ?_
    by_cases h0 : 0 < fuse
    · rw [if_pos h0, decide_eq_false h1]
      exact ⟨rfl, by rw [if_neg (show ¬ (dI room (fuse - 1) false i f).down = true from Bool.false_ne_true)]; exact set_dI _ _ _ _ _ _, h1⟩
    · rw [if_neg h0]
      obtain rfl : fuse = 0 := by omega
      exact ⟨rfl, by rw [if_neg (show ¬ (dI room 0 false i f).down = true from Bool.false_ne_true)]; exact set_dI _ _ _ _ _ _, h1⟩
theorem settle_put (x y : List UInt8) (n : Nat) : (⟨x, x ++ y, [.put y], n⟩ : FD).settle (unitsAll [.put y]) = fS (x ++ y) := by
  have h : someU x [.put y] (unitsAll [.put y]) = x ++ y := by
    rw [someU_all _ _ _ (Nat.le_refl _)]
    show (St.put y).act x (St.put y).units = _
    rw [act_full]
  show (⟨someU x _ _, someU x _ _, [], (someU x _ _).length⟩ : FD) = _
  rw [h]; rfl
theorem settle_cut (x : List UInt8) (g n : Nat) : (⟨x, x.take g, [.cut g], n⟩ : FD).settle (unitsAll [.cut g]) = fS (x.take g) := by
  have h : someU x [.cut g] (unitsAll [.cut g]) = x.take g := by
    rw [someU_all _ _ _ (Nat.le_refl _)]
    show (St.cut g).act x (St.cut g).units = _
    rw [act_full]
  show (⟨someU x _ _, someU x _ _, [], (someU x _ _).length⟩ : FD) = _
  rw [h]; rfl
theorem take_put (x y : List UInt8) : (fS x).take (.put y) = ⟨x, x ++ y, [.put y], x.length + y.length⟩ := by
  show (⟨x, (St.put y).act x (St.put y).units, [.put y], max x.length (x.length + y.length)⟩ : FD) = _
  rw [act_full, Nat.max_eq_right (by omega)]
theorem take_cut (x : List UInt8) (g : Nat) (h : g ≤ x.length) : (fS x).take (.cut g) = ⟨x, x.take g, [.cut g], x.length⟩ := by
  show (⟨x, (St.cut g).act x (St.cut g).units, [.cut g], max x.length g⟩ : FD) = _
  rw [act_full, Nat.max_eq_left h]
/-- bytes put, and a sync -/
theorem put_sync (room fuse : Nat) (i : Nat) (hi : i < 3) (x y : List UInt8) (h : x.length + y.length ≤ room) :
    (doE (dI room fuse false i (fS x)) i (fS x) (.put y) = 0 ∧ doD (dI room fuse false i (fS x)) i (fS x) (.put y) = dI room (fuse - 1) false i ⟨x, x ++ y, [.put y], x.length + y.length⟩ ∧ fuse ≠ 1 ∧
      ((syncE (dI room (fuse - 1) false i ⟨x, x ++ y, [.put y], x.length + y.length⟩) = 0 ∧ syncD (dI room (fuse - 1) false i ⟨x, x ++ y, [.put y], x.length + y.length⟩) i ⟨x, x ++ y, [.put y], x.length + y.length⟩ = dI room (fuse - 1 - 1) false i (fS (x ++ y)) ∧ fuse ≠ 2) ∨
       (syncE (dI room (fuse - 1) false i ⟨x, x ++ y, [.put y], x.length + y.length⟩) = 18 ∧ syncD (dI room (fuse - 1) false i ⟨x, x ++ y, [.put y], x.length + y.length⟩) i ⟨x, x ++ y, [.put y], x.length + y.length⟩ = dI room 0 true i ⟨x, x ++ y, [.put y], x.length + y.length⟩ ∧ fuse = 2))) ∨
    (doE (dI room fuse false i (fS x)) i (fS x) (.put y) = 18 ∧ doD (dI room fuse false i (fS x)) i (fS x) (.put y) = dI room 0 true i ⟨x, x ++ y, [.put y], x.length + y.length⟩ ∧ fuse = 1) := by
  have h1 := do_dI room fuse i hi (fS x) (.put y) (by show max x.length (x.length + y.length) ≤ room; omega)
  rw [take_put] at h1
  rcases h1 with ⟨a, b, c⟩ | h1
  · refine .inl ⟨a, b, c, ?_⟩
    have h2 := sync_dI room (fuse - 1) i ⟨x, x ++ y, [.put y], x.length + y.length⟩
    rw [settle_put] at h2
    rcases h2 with ⟨a2, b2, c2⟩ | ⟨a2, b2, c2⟩
    · exact .inl ⟨a2, b2, by omega⟩
    · exact .inr ⟨a2, b2, by omega⟩
  · exact .inr h1
theorem app_up (room fuse : Nat) (i : Nat) (hi : i < 3) (x b : List UInt8) (hb : 1 ≤ b.length) (h : x.length + (8 + b.length) ≤ room) :
    (appE (dI room fuse false i (fS x)) i b = 0 ∧ appD (dI room fuse false i (fS x)) i b = dI room (fuse - 2) false i (fS (x ++ frame b)) ∧ fuse ≠ 1 ∧ fuse ≠ 2) ∨
    (appE (dI room fuse false i (fS x)) i b = 18 ∧ appD (dI room fuse false i (fS x)) i b = dI room 0 true i ⟨x, x ++ frame b, [.put (frame b)], x.length + (frame b).length⟩ ∧ (fuse = 1 ∨ fuse = 2)) := by
  have hp := put_sync room fuse i hi x (frame b) (by rw [frame_length]; omega)
  have hb0 : ¬ b.length = 0 := by omega
  unfold appE appD
  rw [if_neg hb0, if_neg hb0, fD_dI _ _ _ _ hi]
  rcases hp with ⟨a, c, hf, hs⟩ | ⟨a, c, hf⟩
  · rw [if_pos a, if_pos a, c, fD_dI _ _ _ _ hi]
    rcases hs with ⟨a2, c2, hf2⟩ | ⟨a2, c2, hf2⟩
    · exact .inl ⟨a2, by rw [c2]; rfl, hf, hf2⟩
    · exact .inr ⟨a2, c2, .inr hf2⟩
  · have h18 : ¬ doE (dI room fuse false i (fS x)) i (fS x) (.put (frame b)) = 0 := by rw [a]; decide
    rw [if_neg h18, if_neg h18]
    exact .inr ⟨a, c, .inl hf⟩
theorem do_dn {d : DD} {i : Nat} {f : FD} {s : St} (h : d.down = true) : doD d i f s = d ∧ doE d i f s = 18 := by
  unfold doD doE
  rw [if_pos h, if_pos h]; exact ⟨rfl, rfl⟩
theorem app_down {d : DD} (i : Nat) (b : List UInt8) (hb : 1 ≤ b.length) (hd : d.down = true) : appE d i b = 18 ∧ appD d i b = d := by
  obtain ⟨e1, e2⟩ := do_dn (i := i) (f := fD d i) (s := .put (frame b)) hd
  have hb0 : ¬ b.length = 0 := by omega
  have h18 : ¬ (18 : Int) = 0 := by decide
  unfold appE appD
  rw [if_neg hb0, if_neg hb0, e2, if_neg h18, if_neg h18]
  exact ⟨rfl, e1⟩
theorem app_nil (d : DD) (i : Nat) (b : List UInt8) (hb : b.length = 0) : appE d i b = 1 ∧ appD d i b = d := by
  unfold appE appD
  rw [if_pos hb, if_pos hb]
  exact ⟨rfl, rfl⟩
theorem mend_up (room fuse : Nat) (i : Nat) (hi : i < 3) (x : List UInt8) (h : x.length ≤ room) :
    (mendE (dI room fuse false i (fS x)) i = 0 ∧ ∃ f', mendD (dI room fuse false i (fS x)) i = dI room f' false i (fS (x.take (scan x).2)) ∧ (fuse = 0 → f' = 0)) ∨
    (mendE (dI room fuse false i (fS x)) i = 18 ∧ mendD (dI room fuse false i (fS x)) i = dI room 0 true i ⟨x, x.take (scan x).2, [.cut (scan x).2], x.length⟩ ∧ fuse ≠ 0) := by
  have hsl := scan_le x
  unfold mendE mendD
  rw [fD_dI _ _ _ _ hi]
  by_cases hg : (scan x).2 < x.length
  · rw [if_pos (show (scan (fS x).now).2 < (fS x).now.length from hg), if_pos (show (scan (fS x).now).2 < (fS x).now.length from hg)]
    have h1 := do_dI room fuse i hi (fS x) (.cut (scan x).2) (by show max x.length (scan x).2 ≤ room; omega)
    rw [take_cut x _ hsl] at h1
    rcases h1 with ⟨a, c, hf⟩ | ⟨a, c, hf⟩
    · rw [show (scan (fS x).now).2 = (scan x).2 from rfl, a, if_pos rfl, if_pos rfl, c]
      unfold endE endD
      rw [fD_dI _ _ _ _ hi]
      have hu1 : ¬ unitsAll [St.cut (scan x).2] = 0 := by show ¬ 1 + 0 = 0; omega
      rw [if_neg hu1, if_neg hu1]
      have h2 := sync_dI room (fuse - 1) i ⟨x, x.take (scan x).2, [.cut (scan x).2], x.length⟩
      rw [settle_cut] at h2
      rcases h2 with ⟨a2, b2, c2⟩ | ⟨a2, b2, c2⟩
      · exact .inl ⟨a2, _, b2, by omega⟩
      · exact .inr ⟨a2, b2, by omega⟩
    · rw [show (scan (fS x).now).2 = (scan x).2 from rfl, a, if_neg (by decide), if_neg (by decide)]
      exact .inr ⟨rfl, c, by omega⟩
  · rw [if_neg (show ¬ (scan (fS x).now).2 < (fS x).now.length from hg), if_neg (show ¬ (scan (fS x).now).2 < (fS x).now.length from hg)]
    unfold endE endD
    rw [fD_dI _ _ _ _ hi, if_pos (show unitsAll (fS x).steps = 0 from rfl), if_pos (show unitsAll (fS x).steps = 0 from rfl), List.take_of_length_le (by omega)]
    exact .inl ⟨rfl, _, rfl, fun h => h⟩
/-- what a crash leaves of what was put -/
theorem crash_up (us : List Int) (room fuse : Nat) (down : Bool) (i : Nat) (hi : i < 3) (x : List UInt8) : crashD us (dI room fuse down i (fS x)) = dI room 0 false i (fS x) := crash_dI us room fuse down i hi (fS x)
theorem crash_put (us : List Int) (room fuse : Nat) (down : Bool) (i : Nat) (hi : i < 3) (x y : List UInt8) (n : Nat) : ∃ u, u ≤ y.length ∧ crashD us (dI room fuse down i ⟨x, x ++ y, [.put y], n⟩) = dI room 0 false i (fS (x ++ y.take u)) := by
  have hu : crU us i ⟨x, x ++ y, [.put y], n⟩ ≤ y.length := crU_le (us := us) (k := i) (f := ⟨x, x ++ y, [.put y], n⟩)
  refine ⟨crU us i ⟨x, x ++ y, [.put y], n⟩, hu, ?_⟩
  rw [crash_dI us room fuse down i hi]
  generalize crU us i ⟨x, x ++ y, [.put y], n⟩ = u at *
  have h : someU x [.put y] u = x ++ y.take u := by
    show (St.put y).act x (min u y.length) = _
    rw [Nat.min_eq_left (by omega)]; rfl
  show dI room 0 false i ⟨someU x [.put y] u, someU x [.put y] u, [], (someU x [.put y] u).length⟩ = _
  rw [h]; rfl
theorem crash_cut (us : List Int) (room fuse : Nat) (down : Bool) (i : Nat) (hi : i < 3) (x : List UInt8) (g n : Nat) : ∃ y, (y = x ∨ y = x.take g) ∧ crashD us (dI room fuse down i ⟨x, x.take g, [.cut g], n⟩) = dI room 0 false i (fS y) := by
  rw [crash_dI us room fuse down i hi]
  generalize crU us i ⟨x, x.take g, [.cut g], n⟩ = u
  refine ⟨someU x [.cut g] u, ?_, rfl⟩
  show (if min u 1 = 0 then x else x.take g) = x ∨ (if min u 1 = 0 then x else x.take g) = x.take g
  split
  · exact .inl rfl
  · exact .inr rfl
/-- frames, and a beginning of one more -/
theorem scan_more (ls : List (List UInt8)) (h : ∀ x ∈ ls, 1 ≤ x.length ∧ x.length ≤ 65536) (b : List UInt8) (h1 : 1 ≤ b.length) (h2 : b.length ≤ 65536) (u : Nat) (hu : u ≤ (frame b).length) :
    (scan (ls.flatMap frame ++ (frame b).take u)).1 = ls ∨ (scan (ls.flatMap frame ++ (frame b).take u)).1 = ls ++ [b] := by
  by_cases hk : u < 8 + b.length
  · rw [scan_frames _ (by rw [one_torn b h1 h2 u hk]; decide) ls h]
    exact .inl rfl
  · rw [List.take_of_length_le (by rw [frame_length]; omega)]
    rw [show ls.flatMap frame ++ frame b = (ls ++ [b]).flatMap frame by simp]
    rw [scan_all _ (fun x hx => by
      rcases List.mem_append.1 hx with hx | hx
      · exact h x hx
      · rw [List.mem_singleton] at hx; subst hx; exact ⟨h1, h2⟩)]
    exact .inr rfl
end Go.Proofs.YtkacmgfehmjijaaDoor.Rol

namespace Go.Proofs.YtkacmgfehmjijaaDoor.Rol
open Go.RowKit Go.Mir Go.Mir.Parts Dk
open Cut (LsO LsA)

/-- blocks that may be a disk's -/
def DTy (base : Nat) (w : World) (k : Nat) : Prop := base ≤ k ∧ ∃ M t fr, w.heap[k]? = some (.cells M t fr) ∧ (t = 49 ∨ t = 79)
theorem dat_dty {w : World} {base db : Nat} {vs : List FV} {d : DD} (h : DAt w base db vs d) : ∀ k, DOwn db vs k → DTy base w k := by
  intro k hs
  refine ⟨(h.ownLt k hs).1, ?_⟩
  rcases hs with rfl | ⟨v, hv, hs⟩
  · exact ⟨_, _, _, h.row, .inl rfl⟩
  · obtain ⟨i, hi⟩ := List.mem_iff_getElem?.1 hv
    have hlt : i < d.fs.length := by rw [h.m3, ← h.n3]; exact (List.getElem?_eq_some_iff.1 hi).1
    obtain ⟨vals, ho, _⟩ := (h.each i v _ hi (List.getElem?_eq_getElem hlt)).steps
    rcases ho.2 with ⟨e, _⟩ | ⟨g, cap, cur, e, _, hg, _⟩
    · rw [e] at hs; simp [Value.ownBlock] at hs
    · rw [e] at hs
      simp [Value.ownBlock] at hs
      subst hs
      exact ⟨_, _, _, hg, .inr rfl⟩
/-- a disk of which no more is known than what it holds -/
def DX (base db : Nat) (d : DD) (w : World) : Prop := base ≤ w.heap.size ∧ ∃ vs, DAt w base db vs d
/-- what a call of a disk's has turned -/
def KT (base : Nat) (w w' : World) : Prop := Turns (DTy base w) w w'
theorem KT.refl (base : Nat) (w : World) : KT base w w := Turns.refl _ _
theorem KT.trans {base : Nat} {a b c : World} (h : KT base a b) (k : KT base b c) : KT base a c :=
  ⟨k.os.trans h.os, k.tape.trans h.tape, k.output.trans h.output, Nat.le_trans h.size k.size, fun i hi hS => by
    have e1 := h.block i hi hS
    have hS2 : ¬ DTy base b i := fun h' => hS (by
      obtain ⟨h1, M, t, fr, h2, h3⟩ := h'
      exact ⟨h1, M, t, fr, by rw [← e1]; exact h2, h3⟩)
    rw [k.block i (Nat.lt_of_lt_of_le hi h.size) hS2]; exact e1⟩
theorem KT.of_below {base : Nat} {a b : World} (h : Below a.heap.size a b) : KT base a b := Turns.of_below h
theorem KT.next {base : Nat} {a b c : World} (h : KT base a b) (k : Below b.heap.size b c) : KT base a c := h.trans (.of_below k)
theorem KT.below {base : Nat} {a b : World} (h : KT base a b) (hb : base ≤ a.heap.size) : Below base a b := Turns.below h hb (fun _ hi => hi.1)
theorem KT.row {base : Nat} {a b : World} (h : KT base a b) {k : Nat} {M : Array Value} {t : TypeId} {fr : Nat × Nat} (hr : a.heap[k]? = some (.cells M t fr)) (h1 : t ≠ 49) (h2 : t ≠ 79) : b.heap[k]? = some (.cells M t fr) :=
  Turns.keep h hr (fun ⟨_, M', t', fr', e, ht⟩ => by
    rw [hr] at e
    injection e with e1
    injection e1 with _ e2
    subst e2
    exact ht.elim h1 h2)
theorem KT.not {base : Nat} {a : World} {b e size n : Nat} {v : Value} {xs : List Value} (ho : a.ownsRow b e size v n xs) (h1 : e ≠ 49) (h2 : e ≠ 79) (k : Nat) (hk : v.ownBlock = some k) : ¬ DTy base a k := fun ⟨_, M', t', fr', e', ht⟩ => by
  rcases ho.2 with ⟨rfl, _⟩ | ⟨g, cap, cur, rfl, _, hg, _⟩
  · simp [Value.ownBlock] at hk
  · simp [Value.ownBlock] at hk
    subst hk
    rw [hg] at e'
    injection e' with e1
    injection e1 with _ e2
    subst e2
    exact ht.elim h1 h2
theorem KT.own {base : Nat} {a b : World} (h : KT base a b) {c e size n : Nat} {v : Value} {xs : List Value} (ho : a.ownsRow c e size v n xs) (h1 : e ≠ 49) (h2 : e ≠ 79) : b.ownsRow c e size v n xs :=
  own_touch ho h (fun k hk => KT.not ho h1 h2 k hk)
theorem KT.lsO {base : Nat} {a b : World} (h : KT base a b) {c : Nat} {v : Value} {ls : List (List UInt8)} (ho : LsO a c v ls) : LsO b c v ls := by
  obtain ⟨hs, h1, h2⟩ := ho.all
  exact ⟨hs, h.own h1 (by decide) (by decide), fun j hj => by
    obtain ⟨q, k, x, y⟩ := h2 j hj
    exact ⟨q, k, x, h.own y (by decide) (by decide)⟩⟩
theorem KT.lsA {base : Nat} {w0 a b : World} (h : KT base a b) {c : Nat} {v : Value} {ls : List (List UInt8)} (ho : LsA w0 a c v ls) : LsA w0 b c v ls := by
  obtain ⟨hs, h1, h2⟩ := ho.all
  exact ⟨hs, h.own h1 (by decide) (by decide), h2⟩
theorem KT.etype {base : Nat} {a b : World} (h : KT base a b) (hE : Rdr.EType a) (hb : 0 < base) : Rdr.EType b := by
  have hlt := hE.lt
  have h1 : a.heap[0]? = some (a.heap[0]'hlt) := Array.getElem?_eq_getElem hlt
  have h2 := Turns.keep h h1 (fun hs => by have := hs.1; omega)
  unfold Rdr.EType at hE ⊢
  rw [World.cell?] at hE ⊢
  rw [h1] at hE
  rw [h2]
  exact hE
theorem DX.below {base db : Nat} {d : DD} {w w' : World} (h : DX base db d w) (hb : Below w.heap.size w w') : DX base db d w' := by
  obtain ⟨h0, vs, h1⟩ := h
  exact ⟨Nat.le_trans h0 hb.size, vs, h1.below hb⟩
theorem DX.left {base db : Nat} {vs : List FV} {d d' : DD} {w w' : World} (h : DAt w base db vs d) (h0 : base ≤ w.heap.size) (hl : LeftD base db vs d' w w') : DX base db d' w' ∧ KT base w w' := by
  obtain ⟨vs', h1, h2, _⟩ := hl
  exact ⟨⟨Nat.le_trans h0 h2.size, vs', h1⟩, h2.imp (fun k _ hk => dat_dty h k hk)⟩
/-- what a call leaves, with its answer -/
def StP (base db : Nat) (x : Int) (d' : DD) (w : World) (e : Ending) (w' : World) : Prop := e = .returned (.int .i64 x) ∧ DX base db d' w' ∧ KT base w w'
theorem fD_lt {w : World} {base db : Nat} {vs : List FV} {d : DD} (h : DAt w base db vs d) {i : Nat} (hi : i < 3) : i < d.fs.length := by rw [h.m3]; exact hi
theorem xappend {base db : Nat} {d : DD} (w : World) (h : DX base db d w) (i : Nat) (hi : i < 3) (p : Option Addr) (n c : Nat) (b : List UInt8) (hb : Bs w p n c b) (hn : n ≤ 140737488355328) (hfew : (fD d i).steps.length + 1 ≤ 4398046511104) :
    Calls Tryd.prog 15 #[.pointer (some ⟨db, 0, none⟩), .int .i64 (i : Int), .slice p n c] w (StP base db (doE d i (fD d i) (.put b)) (doD d i (fD d i) (.put b)) w) := by
  obtain ⟨h0, vs, h1⟩ := h
  refine (append_in w h1 h0 i (fD_lt h1 hi) (fD d i) (fD_eq (fD_lt h1 hi)) p n c b hb hn hfew).mono ?_
  rintro e w' ⟨he, hl⟩
  exact ⟨he, DX.left h1 h0 hl⟩
theorem xcut {base db : Nat} {d : DD} (w : World) (h : DX base db d w) (i : Nat) (hi : i < 3) (m : Nat) (hm : m ≤ (fD d i).now.length) (hfew : (fD d i).steps.length + 1 ≤ 4398046511104) :
    Calls Tryd.prog 35 #[.pointer (some ⟨db, 0, none⟩), .int .i64 (i : Int), .int .i64 (m : Int)] w (StP base db (doE d i (fD d i) (.cut m)) (doD d i (fD d i) (.cut m)) w) := by
  obtain ⟨h0, vs, h1⟩ := h
  refine (cut_in w h1 h0 i (fD_lt h1 hi) (fD d i) (fD_eq (fD_lt h1 hi)) m hm hfew).mono ?_
  rintro e w' ⟨he, hl⟩
  exact ⟨he, DX.left h1 h0 hl⟩
theorem xsync {base db : Nat} {d : DD} (w : World) (h : DX base db d w) (i : Nat) (hi : i < 3) :
    Calls Tryd.prog 16 #[.pointer (some ⟨db, 0, none⟩), .int .i64 (i : Int)] w (StP base db (syncE d) (syncD d i (fD d i)) w) := by
  obtain ⟨h0, vs, h1⟩ := h
  refine (sync_in w h1 h0 i (fD_lt h1 hi) (fD d i) (fD_eq (fD_lt h1 hi))).mono ?_
  rintro e w' ⟨he, hl⟩
  exact ⟨he, DX.left h1 h0 hl⟩
theorem xread {base db : Nat} {d : DD} (w : World) (h : DX base db d w) (i : Nat) (hi : i < 3) :
    Calls Tryd.prog 30 #[.pointer (some ⟨db, 0, none⟩), .int .i64 (i : Int)] w fun e w' => ∃ p c, e = .returned (.slice p (fD d i).now.length c) ∧ Bs w' p (fD d i).now.length c (fD d i).now ∧ Below w.heap.size w w' := by
  obtain ⟨h0, vs, h1⟩ := h
  have := read_in w h1 i (fD_lt h1 hi)
  rw [fD_eq (fD_lt h1 hi)] at this
  refine this.mono ?_
  rintro e w' ⟨p, c, he, hr, hb⟩
  obtain ⟨p', c', e1, hs⟩ := hr.bs
  cases e1
  exact ⟨p, c, he, hs, hb⟩
theorem xunits {base db : Nat} {d : DD} (w : World) (h : DX base db d w) (i : Nat) (hi : i < 3) :
    Calls Tryd.prog 37 #[.pointer (some ⟨db, 0, none⟩), .int .i64 (i : Int)] w fun e w' => e = .returned (.int .i64 (unitsAll (fD d i).steps : Int)) ∧ Below w.heap.size w w' := by
  obtain ⟨h0, vs, h1⟩ := h
  have := units_in w h1 i (fD_lt h1 hi)
  rw [fD_eq (fD_lt h1 hi)] at this
  exact this
theorem xsize {base db : Nat} {d : DD} (w : World) (h : DX base db d w) (i : Nat) (hi : i < 3) :
    Calls Tryd.prog 36 #[.pointer (some ⟨db, 0, none⟩), .int .i64 (i : Int)] w fun e w' => e = .returned (.int .i64 ((fD d i).now.length : Int)) ∧ Below w.heap.size w w' := by
  obtain ⟨h0, vs, h1⟩ := h
  have := size_in w h1 i (fD_lt h1 hi)
  rw [fD_eq (fD_lt h1 hi)] at this
  exact this
theorem DX.room {base db : Nat} {d : DD} {w : World} (h : DX base db d w) : 1 ≤ d.room ∧ d.room ≤ 65536 ∧ usedL d.fs ≤ d.room := by
  obtain ⟨_, vs, h1⟩ := h
  exact ⟨h1.room1.1, h1.room1.2, h1.used⟩
theorem DX.len3 {base db : Nat} {d : DD} {w : World} (h : DX base db d w) : d.fs.length = 3 := by
  obtain ⟨_, vs, h1⟩ := h
  exact h1.m3
theorem DX.ok {base db : Nat} {d : DD} {w : World} (h : DX base db d w) {i : Nat} (hi : i < 3) : (fD d i).Ok := by
  obtain ⟨_, vs, h1⟩ := h
  have hl := fD_lt h1 hi
  have := (h1.each i _ _ (List.getElem?_eq_getElem (by rw [h1.n3]; exact hi)) (List.getElem?_eq_getElem hl)).ok
  rwa [fD_eq hl] at this
theorem DX.le {base db : Nat} {d : DD} {w : World} (h : DX base db d w) {i : Nat} (hi : i < 3) : (fD d i).now.length ≤ 65536 := by
  have h1 := (h.ok hi).le
  have h2 := h.room
  have hl : i < d.fs.length := by rw [h.len3]; exact hi
  have h3 := usedL_mem hl
  rw [fD_eq hl] at h3
  omega
end Go.Proofs.YtkacmgfehmjijaaDoor.Rol

namespace Go.Proofs.YtkacmgfehmjijaaDoor.Rol
open Go.RowKit Go.Mir Go.Mir.Parts Dk
open Frm (frame scan)
open Cut (Ls LsO)

theorem enc_ok {l : List UInt8} (h : 1 ≤ l.length) : Frm.enc l = (frame l, 0) := by unfold Frm.enc; rw [if_neg (by omega)]
theorem enc_no {l : List UInt8} (h : l.length = 0) : Frm.enc l = ([], 1) := by unfold Frm.enc; rw [if_pos h]

def rolA (db i : Nat) : Array Value := #[.pointer (some ⟨db, 0, none⟩), .int .i64 (i : Int)]
def RolAt (w : World) (rb db i : Nat) : Prop := w.heap[rb]? = some (.cells (rolA db i) 51 (0, 0))
theorem RolAt.below {w w' : World} {rb db i : Nat} (h : RolAt w rb db i) (hb : Below w.heap.size w w') : RolAt w' rb db i := Below.keepOld hb h
theorem RolAt.lt {w : World} {rb db i : Nat} (h : RolAt w rb db i) : rb < w.heap.size := (Array.getElem?_eq_some_iff.1 h).1
theorem RolAt.c0 {w : World} {rb db i : Nat} (h : RolAt w rb db i) : w.cell? ⟨rb, 0, none⟩ = some (.pointer (some ⟨db, 0, none⟩)) := by rw [cell_of_row _ _ _ _ _ _ h]; rfl
theorem RolAt.c1 {w : World} {rb db i : Nat} (h : RolAt w rb db i) : w.cell? ⟨rb, 1, none⟩ = some (.int .i64 (i : Int)) := by rw [cell_of_row _ _ _ _ _ _ h]; rfl
theorem RolAt.kt {w w' : World} {base rb db i : Nat} (h : RolAt w rb db i) (hk : KT base w w') : RolAt w' rb db i := hk.row h (by decide) (by decide)
theorem rnone_any {rb db i : Nat} (w : World) (h : RolAt w rb db i) : Calls Tryd.prog 25 #[.pointer (some ⟨rb, 0, none⟩)] w fun e w' => e = .returned (.bool false) ∧ w = w' := by
  have hc := h.c0
  clear h
  go_enter Tryd.func25, Tryd.ntmps25
  go_wp2_with fail
  go_ret
  exact ⟨rfl, rfl⟩
theorem tail7 {P : Program} {ops : Array Oper} {Q : Exit → Act → World → Prop} {l : List Oper} {i1 i2 i3 i4 i5 i6 i7 : Nat} {a : Act} {w : World} {o1 o2 o3 o4 o5 o6 o7 : Oper} (h1 : nthO l i1 = some o1) (h2 : nthO l i2 = some o2) (h3 : nthO l i3 = some o3) (h4 : nthO l i4 = some o4) (h5 : nthO l i5 = some o5) (h6 : nthO l i6 = some o6) (h7 : nthO l i7 = some o7) (h : wpList P ops Q [o1, o2, o3, o4, o5, o6, o7] a w) : wpList P ops Q (tailOps l [i1, i2, i3, i4, i5, i6, i7]) a w := by
  simp only [tailOps, h1, h2, h3, h4, h5, h6, h7]; exact h
set_option maxRecDepth 100000 in
set_option maxHeartbeats 1600000 in
theorem append_any {base db rb i : Nat} {d : DD} (w : World) (h : DX base db d w) (hr : RolAt w rb db i) (hi : i < 3) (p : Option Addr) (n c : Nat) (b : List UInt8) (hb : Bs w p n c b) (hn : n ≤ 4000) (hfew : (fD d i).steps.length + 1 ≤ 4398046511104) :
    Calls Tryd.prog 11 #[.pointer (some ⟨rb, 0, none⟩), .slice p n c] w (StP base db (appE d i b) (appD d i b) w) := by
  have H := Lib.hid h
  have HR := Lib.hid hr
  have HI := Lib.hid hi
  have HN := Lib.hid hb.length
  have HNN := Lib.hid hn
  have HEN := Lib.hid (Frm.encode_any p n c b w hb hn)
  have HRN := Lib.hid (rnone_any w hr)
  clear h hr hb hi
  by_cases h0 : b.length = 0
  · rw [enc_no h0] at HEN
    obtain ⟨a1, a2⟩ := app_nil d i b h0
    have HA1 := Lib.hid a1
    have HA2 := Lib.hid a2
    clear a1 a2 h0
    go_enter Tryd.func11, Tryd.ntmps11
    go_wp2_with fail
    refine HRN.out.mono ?_
    rintro e w' ⟨rfl, rfl⟩
    go_wp2_with fail
    refine HEN.out.mono ?_
    rintro e w1 ⟨p1, c1, rfl, ho1, hb1⟩
    have HB1 := Lib.hid hb1
    clear ho1 hb1
    go_wp2_with fail
    go_ret
    exact ⟨by rw [HA1.out]; rfl, by rw [HA2.out]; exact H.out.below HB1.out, .of_below HB1.out⟩
  · rw [enc_ok (by omega)] at HEN
    have HFL : Hid ((frame b).length ≤ 140737488355328) := by show _ ≤ _; rw [Frm.frame_length]; have := HN.out; omega
    have HFEW := Lib.hid hfew
    have HAE : Hid (appE d i b = if doE d i (fD d i) (.put (frame b)) = 0 then syncE (doD d i (fD d i) (.put (frame b))) else doE d i (fD d i) (.put (frame b))) := by show _ = _; unfold appE; rw [if_neg h0]
    have HAD : Hid (appD d i b = if doE d i (fD d i) (.put (frame b)) = 0 then syncD (doD d i (fD d i) (.put (frame b))) i (fD (doD d i (fD d i) (.put (frame b))) i) else doD d i (fD d i) (.put (frame b))) := by show _ = _; unfold appD; rw [if_neg h0]
    clear h0
    go_enter Tryd.func11, Tryd.ntmps11
    go_wp2_with fail
    refine HRN.out.mono ?_
    rintro e w' ⟨rfl, rfl⟩
    go_wp2_with fail
    refine HEN.out.mono ?_
    rintro e w1 ⟨p1, c1, rfl, ho1, hb1⟩
    have HO1 := Lib.hid (Cut.own_bs ho1)
    have HX := Lib.hid (H.out.below hb1)
    have HRX := Lib.hid (HR.out.below hb1)
    have HKX : Hid (KT base w w1) := KT.of_below hb1
    clear ho1 hb1
    dsimp only
    go_upto_region 6 with fail
    have HC0 : Hid (∀ w', Below w1.heap.size w1 w' → w'.cell? ⟨rb, 0, none⟩ = some (.pointer (some ⟨db, 0, none⟩))) := fun w' hb => (HRX.out.below hb).c0
    have HC1 : Hid (∀ w', Below w1.heap.size w1 w' → w'.cell? ⟨rb, 1, none⟩ = some (.int .i64 (i : Int))) := fun w' hb => (HRX.out.below hb).c1
    refine wp_region_eager_t (Below w1.heap.size w1) [0, 1, 2, 3, 4, 5, 6, 7, 8] [(0, true), (1, true), (2, true), (3, true), (4, true), (5, true), (6, true), (7, true), (8, true)] [9, 10] (by kernel_rfl) (by kernel_rfl) ?_ (eagerTOpen rfl ?_)
    · exact below_drew1 _ _
    repeat (first
      | (first | (apply wpEagerT_take; (· rfl); (· (intro w' hb'; go_simp; try with_reducible rfl)); (try simp only [Act.put, List.setIfInBounds_toArray, List.set_cons_zero, List.set_cons_succ]); (try refine eagerTOpen rfl ?_)) | (refine wpEagerT_skip (by rfl) ?_; (try simp only [Act.put, List.setIfInBounds_toArray, List.set_cons_zero, List.set_cons_succ]); (try refine eagerTOpen rfl ?_)))
      | (apply wpEagerT_take; (· rfl); (· (intro w' hb'; have hk' := (HC0.out) w' hb'; go_split_ands; go_simp; try with_reducible rfl)); (try simp only [Act.put, List.setIfInBounds_toArray, List.set_cons_zero, List.set_cons_succ]); (try refine eagerTOpen rfl ?_))
      | (apply wpEagerT_take; (· rfl); (· (intro w' hb'; have hk' := (HC1.out) w' hb'; go_split_ands; go_simp; try with_reducible rfl)); (try simp only [Act.put, List.setIfInBounds_toArray, List.set_cons_zero, List.set_cons_succ]); (try refine eagerTOpen rfl ?_)))
    refine eagerTEnd (tail2 rfl rfl ?_)
    clear HC0 HC1
    have HO2 := Lib.hid (HO1.out.below (below_drew1 _ _))
    skip
    have HY := Lib.hid (HX.out.below (below_drew1 _ _))
    have HRY := Lib.hid (HRX.out.below (below_drew1 _ _))
    have HKY := Lib.hid (HKX.out.next (below_drew1 _ _))
    generalize w1.drew = w2 at *
    clear HX HRX HKX
    have HAP := Lib.hid (xappend w2 HY.out i HI.out p1 _ c1 (frame b) HO2.out HFL.out HFEW.out)
    generalize doE d i (fD d i) (.put (frame b)) = x at *
    generalize doD d i (fD d i) (.put (frame b)) = d1 at *
    go_wp2_with fail
    refine HAP.out.mono ?_
    rintro e w3 ⟨rfl, hd3, hk3⟩
    have HX := Lib.hid hd3
    have HKX := Lib.hid (HKY.out.trans hk3)
    have HRX := Lib.hid (HRY.out.kt hk3)
    clear hd3 hk3 HKY HRY HY HAP HO1 HO2
    go_wp2_with fail
    refine noPanic_end ?_
    by_cases hx : x = 0
    · have z1 : (x != 0) = false := by simp [hx]
      rw [if_pos hx] at HAE HAD
      clear hx
      go_upto_region 9 with fail
      have HC0 : Hid (∀ w', Below w3.heap.size w3 w' → w'.cell? ⟨rb, 0, none⟩ = some (.pointer (some ⟨db, 0, none⟩))) := fun w' hb => (HRX.out.below hb).c0
      have HC1 : Hid (∀ w', Below w3.heap.size w3 w' → w'.cell? ⟨rb, 1, none⟩ = some (.int .i64 (i : Int))) := fun w' hb => (HRX.out.below hb).c1
      refine wp_region_eager_t (Below w3.heap.size w3) [0, 1, 2, 3, 4, 5, 6, 7] [(0, true), (1, true), (2, true), (3, true), (4, true), (5, true), (6, true), (7, true)] [8, 9] (by kernel_rfl) (by kernel_rfl) ?_ (eagerTOpen rfl ?_)
      · exact below_drew1 _ _
      repeat (first
        | (first | (apply wpEagerT_take; (· rfl); (· (intro w' hb'; go_simp; try with_reducible rfl)); (try simp only [Act.put, List.setIfInBounds_toArray, List.set_cons_zero, List.set_cons_succ]); (try refine eagerTOpen rfl ?_)) | (refine wpEagerT_skip (by rfl) ?_; (try simp only [Act.put, List.setIfInBounds_toArray, List.set_cons_zero, List.set_cons_succ]); (try refine eagerTOpen rfl ?_)))
        | (apply wpEagerT_take; (· rfl); (· (intro w' hb'; have hk' := (HC0.out) w' hb'; go_split_ands; go_simp; try with_reducible rfl)); (try simp only [Act.put, List.setIfInBounds_toArray, List.set_cons_zero, List.set_cons_succ]); (try refine eagerTOpen rfl ?_))
        | (apply wpEagerT_take; (· rfl); (· (intro w' hb'; have hk' := (HC1.out) w' hb'; go_split_ands; go_simp; try with_reducible rfl)); (try simp only [Act.put, List.setIfInBounds_toArray, List.set_cons_zero, List.set_cons_succ]); (try refine eagerTOpen rfl ?_)))
      refine eagerTEnd (tail2 rfl rfl ?_)
      clear HC0 HC1
      have HY := Lib.hid (HX.out.below (below_drew1 _ _))
      have HRY := Lib.hid (HRX.out.below (below_drew1 _ _))
      have HKY := Lib.hid (HKX.out.next (below_drew1 _ _))
      generalize w3.drew = w4 at *
      clear HX HRX HKX
      have HSY := Lib.hid (xsync w4 HY.out i HI.out)
      go_wp2_with fail
      refine HSY.out.mono ?_
      rintro e w5 ⟨rfl, hd5, hk5⟩
      have HD5 := Lib.hid hd5
      have HK5 := Lib.hid (HKY.out.trans hk5)
      clear hd5 hk5
      go_wp2_with fail
      refine noPanic_end ?_
      go_wp2_with fail
      go_ret
      exact ⟨by rw [HAE.out]; rfl, by rw [HAD.out]; exact HD5.out, HK5.out⟩
    · have z1 : (x != 0) = true := by simp [hx]
      rw [if_neg hx] at HAE HAD
      clear hx
      go_wp2_with fail
      go_ret
      exact ⟨by rw [HAE.out]; rfl, by rw [HAD.out]; exact HX.out, HKX.out⟩
set_option maxRecDepth 100000 in
set_option maxHeartbeats 1600000 in
theorem clear_any {base db rb i : Nat} {d : DD} (w : World) (h : DX base db d w) (hr : RolAt w rb db i) (hi : i < 3) (hfew : (fD d i).steps.length + 1 ≤ 4398046511104) :
    Calls Tryd.prog 18 #[.pointer (some ⟨rb, 0, none⟩)] w (StP base db (clrE d i 0) (clrD d i 0) w) := by
  have HX := Lib.hid h
  have HRX := Lib.hid hr
  have HKX : Hid (KT base w w) := KT.refl _ _
  have HI := Lib.hid hi
  have HRN := Lib.hid (rnone_any w hr)
  have HFEW := Lib.hid hfew
  have HAE : Hid (clrE d i 0 = if doE d i (fD d i) (.cut 0) = 0 then syncE (doD d i (fD d i) (.cut 0)) else doE d i (fD d i) (.cut 0)) := rfl
  have HAD : Hid (clrD d i 0 = if doE d i (fD d i) (.cut 0) = 0 then syncD (doD d i (fD d i) (.cut 0)) i (fD (doD d i (fD d i) (.cut 0)) i) else doD d i (fD d i) (.cut 0)) := rfl
  clear h hr hi hfew
  go_enter Tryd.func18, Tryd.ntmps18
  go_wp2_with fail
  refine HRN.out.mono ?_
  rintro e w' ⟨rfl, rfl⟩
  go_upto_region 3 with fail
  have HC0 : Hid (∀ w', Below w.heap.size w w' → w'.cell? ⟨rb, 0, none⟩ = some (.pointer (some ⟨db, 0, none⟩))) := fun w' hb => (HRX.out.below hb).c0
  have HC1 : Hid (∀ w', Below w.heap.size w w' → w'.cell? ⟨rb, 1, none⟩ = some (.int .i64 (i : Int))) := fun w' hb => (HRX.out.below hb).c1
  refine wp_region_eager_t (Below w.heap.size w) [0, 1, 2, 3, 4, 5, 6, 7] [(0, true), (1, true), (2, true), (3, true), (4, true), (5, true), (6, true), (7, true)] [8, 9] (by kernel_rfl) (by kernel_rfl) ?_ (eagerTOpen rfl ?_)
  · exact below_drew1 _ _
  repeat (first
    | (first | (apply wpEagerT_take; (· rfl); (· (intro w' hb'; go_simp; try with_reducible rfl)); (try simp only [Act.put, List.setIfInBounds_toArray, List.set_cons_zero, List.set_cons_succ]); (try refine eagerTOpen rfl ?_)) | (refine wpEagerT_skip (by rfl) ?_; (try simp only [Act.put, List.setIfInBounds_toArray, List.set_cons_zero, List.set_cons_succ]); (try refine eagerTOpen rfl ?_)))
    | (apply wpEagerT_take; (· rfl); (· (intro w' hb'; have hk' := (HC0.out) w' hb'; go_split_ands; go_simp; try with_reducible rfl)); (try simp only [Act.put, List.setIfInBounds_toArray, List.set_cons_zero, List.set_cons_succ]); (try refine eagerTOpen rfl ?_))
    | (apply wpEagerT_take; (· rfl); (· (intro w' hb'; have hk' := (HC1.out) w' hb'; go_split_ands; go_simp; try with_reducible rfl)); (try simp only [Act.put, List.setIfInBounds_toArray, List.set_cons_zero, List.set_cons_succ]); (try refine eagerTOpen rfl ?_)))
  refine eagerTEnd (tail2 rfl rfl ?_)
  clear HC0 HC1
  have HY := Lib.hid (HX.out.below (below_drew1 _ _))
  have HRY := Lib.hid (HRX.out.below (below_drew1 _ _))
  have HKY := Lib.hid (HKX.out.next (below_drew1 _ _))
  generalize w.drew = w2 at *
  clear HX HRX HKX
  have HAP : Hid (Calls Tryd.prog 35 #[.pointer (some ⟨db, 0, none⟩), .int .i64 (i : Int), .int .i64 0] w2 (StP base db (doE d i (fD d i) (.cut 0)) (doD d i (fD d i) (.cut 0)) w2)) := xcut w2 HY.out i HI.out 0 (Nat.zero_le _) HFEW.out
  generalize doE d i (fD d i) (.cut 0) = x at *
  generalize doD d i (fD d i) (.cut 0) = d1 at *
  go_wp2_with fail
  refine HAP.out.mono ?_
  rintro e w3 ⟨rfl, hd3, hk3⟩
  have HX := Lib.hid hd3
  have HKX := Lib.hid (HKY.out.trans hk3)
  have HRX := Lib.hid (HRY.out.kt hk3)
  clear hd3 hk3 HKY HRY HY HAP
  go_wp2_with fail
  refine noPanic_end ?_
  by_cases hx : x = 0
  · have z1 : (x != 0) = false := by simp [hx]
    rw [if_pos hx] at HAE HAD
    clear hx
    go_upto_region 6 with fail
    have HC0 : Hid (∀ w', Below w3.heap.size w3 w' → w'.cell? ⟨rb, 0, none⟩ = some (.pointer (some ⟨db, 0, none⟩))) := fun w' hb => (HRX.out.below hb).c0
    have HC1 : Hid (∀ w', Below w3.heap.size w3 w' → w'.cell? ⟨rb, 1, none⟩ = some (.int .i64 (i : Int))) := fun w' hb => (HRX.out.below hb).c1
    refine wp_region_eager_t (Below w3.heap.size w3) [0, 1, 2, 3, 4, 5, 6, 7] [(0, true), (1, true), (2, true), (3, true), (4, true), (5, true), (6, true), (7, true)] [8, 9] (by kernel_rfl) (by kernel_rfl) ?_ (eagerTOpen rfl ?_)
    · exact below_drew1 _ _
    repeat (first
      | (first | (apply wpEagerT_take; (· rfl); (· (intro w' hb'; go_simp; try with_reducible rfl)); (try simp only [Act.put, List.setIfInBounds_toArray, List.set_cons_zero, List.set_cons_succ]); (try refine eagerTOpen rfl ?_)) | (refine wpEagerT_skip (by rfl) ?_; (try simp only [Act.put, List.setIfInBounds_toArray, List.set_cons_zero, List.set_cons_succ]); (try refine eagerTOpen rfl ?_)))
      | (apply wpEagerT_take; (· rfl); (· (intro w' hb'; have hk' := (HC0.out) w' hb'; go_split_ands; go_simp; try with_reducible rfl)); (try simp only [Act.put, List.setIfInBounds_toArray, List.set_cons_zero, List.set_cons_succ]); (try refine eagerTOpen rfl ?_))
      | (apply wpEagerT_take; (· rfl); (· (intro w' hb'; have hk' := (HC1.out) w' hb'; go_split_ands; go_simp; try with_reducible rfl)); (try simp only [Act.put, List.setIfInBounds_toArray, List.set_cons_zero, List.set_cons_succ]); (try refine eagerTOpen rfl ?_)))
    refine eagerTEnd (tail2 rfl rfl ?_)
    clear HC0 HC1
    have HY := Lib.hid (HX.out.below (below_drew1 _ _))
    have HRY := Lib.hid (HRX.out.below (below_drew1 _ _))
    have HKY := Lib.hid (HKX.out.next (below_drew1 _ _))
    generalize w3.drew = w4 at *
    clear HX HRX HKX
    have HSY := Lib.hid (xsync w4 HY.out i HI.out)
    go_wp2_with fail
    refine HSY.out.mono ?_
    rintro e w5 ⟨rfl, hd5, hk5⟩
    have HD5 := Lib.hid hd5
    have HK5 := Lib.hid (HKY.out.trans hk5)
    clear hd5 hk5
    go_wp2_with fail
    refine noPanic_end ?_
    go_wp2_with fail
    go_ret
    exact ⟨by rw [HAE.out]; rfl, by rw [HAD.out]; exact HD5.out, HK5.out⟩
  · have z1 : (x != 0) = true := by simp [hx]
    rw [if_neg hx] at HAE HAD
    clear hx
    go_wp2_with fail
    go_ret
    exact ⟨by rw [HAE.out]; rfl, by rw [HAD.out]; exact HX.out, HKX.out⟩
end Go.Proofs.YtkacmgfehmjijaaDoor.Rol

namespace Go.Proofs.YtkacmgfehmjijaaDoor.Rol
open Go.RowKit Go.Mir Go.Mir.Parts Dk
open Frm (frame scan)
open Cut (Ls LsO)

def BodP (l : List UInt8) (w : World) (e : Ending) (w' : World) : Prop := ∃ p c, e = .returned (.slice p (scan l).1.length c) ∧ LsO w' w.heap.size (.slice p (scan l).1.length c) (scan l).1 ∧ Below w.heap.size w w'
set_option maxRecDepth 100000 in
set_option maxHeartbeats 1600000 in
theorem bodies_any {base db rb i : Nat} {d : DD} (w : World) (hE : Rdr.EType w) (h : DX base db d w) (hr : RolAt w rb db i) (hi : i < 3) :
    Calls Tryd.prog 13 #[.pointer (some ⟨rb, 0, none⟩)] w (BodP (fD d i).now w) := by
  have HX := Lib.hid h
  have HRX := Lib.hid hr
  have HKX : Hid (Below w.heap.size w w) := Below.refl _ _
  have HI := Lib.hid hi
  have HRN := Lib.hid (rnone_any w hr)
  have HE := Lib.hid hE
  have HLE := Lib.hid (h.le hi)
  clear h hr hi hE
  go_enter Tryd.func13, Tryd.ntmps13
  go_wp2_with fail
  refine HRN.out.mono ?_
  rintro e w' ⟨rfl, rfl⟩
  go_upto_region 3 with fail
  have HC0 : Hid (∀ w', Below w.heap.size w w' → w'.cell? ⟨rb, 0, none⟩ = some (.pointer (some ⟨db, 0, none⟩))) := fun w' hb => (HRX.out.below hb).c0
  have HC1 : Hid (∀ w', Below w.heap.size w w' → w'.cell? ⟨rb, 1, none⟩ = some (.int .i64 (i : Int))) := fun w' hb => (HRX.out.below hb).c1
  refine wp_region_eager [(0, true), (1, true), (2, true), (3, true), (4, true), (5, true), (6, true), (7, true), (8, false), (9, false), (10, true), (11, true), (12, true), (13, true), (14, true)] (by kernel_rfl) (by kernel_rfl) (eagerOpen rfl ?_)
  have hy0 : Below w.heap.size w w.drew := below_drew1 _ _
  repeat (first
    | (first | (apply wpEager_take; (· rfl); (· (intro w' hb'; go_simp; try with_reducible rfl)); (try simp only [Act.put, List.setIfInBounds_toArray, List.set_cons_zero, List.set_cons_succ]); (try refine eagerOpen rfl ?_)) | (refine wpEager_skip (by rfl) ?_; (try simp only [Act.put, List.setIfInBounds_toArray, List.set_cons_zero, List.set_cons_succ]); (try refine eagerOpen rfl ?_)) | (refine wpEager_off (by rfl) ?_; (try simp only [Act.put, List.setIfInBounds_toArray, List.set_cons_zero, List.set_cons_succ]); (try refine eagerOpen rfl ?_)))
    | (apply wpEager_take; (· rfl); (· (intro w' hb'; have hk' := (HC0.out) w' hb'; go_split_ands; go_simp; try with_reducible rfl)); (try simp only [Act.put, List.setIfInBounds_toArray, List.set_cons_zero, List.set_cons_succ]); (try refine eagerOpen rfl ?_))
    | (apply wpEager_take; (· rfl); (· (intro w' hb'; have hk' := (HC1.out) w' hb'; go_split_ands; go_simp; try with_reducible rfl)); (try simp only [Act.put, List.setIfInBounds_toArray, List.set_cons_zero, List.set_cons_succ]); (try refine eagerOpen rfl ?_)))
  (refine wpEager_op (by rfl) (fun K hK => ?_); go_simp; (refine (xread w.drew (HX.out.below hy0) i HI.out).mono ?_; rintro e w3 ⟨p3, c3, rfl, hs3, hb3⟩; have hy3 := hy0.trans (hb3.mono hy0.size); clear hb3); refine Shut.out hK _ _ (by assumption) ?_; clear hK K; (try simp only [Act.put, List.setIfInBounds_toArray, List.set_cons_zero, List.set_cons_succ]); (try refine eagerOpen rfl ?_))
  generalize (fD d i).now = L at *
  (refine wpEager_op (by rfl) (fun K hK => ?_); go_simp; (refine (Frm.scanO_any p3 _ c3 _ w3 (HE.out.below hy3 HE.out.lt) hs3 (Frm.bs_block hs3) (by have := HLE.out; omega)).mono ?_; rintro e w4 ⟨v, rfl, hl4, hb4⟩; obtain ⟨p4, c4, rfl, -⟩ := hl4.ls.sl; have HL4 := Lib.hid (Frm.LsO.low hl4 hy3.size); have hy4 := hy3.trans (hb4.mono hy3.size); clear hl4 hb4); refine Shut.out hK _ _ (by assumption) ?_; clear hK K; (try simp only [Act.put, List.setIfInBounds_toArray, List.set_cons_zero, List.set_cons_succ]); (try refine eagerOpen rfl ?_))
  repeat (first
    | (first | (apply wpEager_take; (· rfl); (· (intro w' hb'; go_simp; try with_reducible rfl)); (try simp only [Act.put, List.setIfInBounds_toArray, List.set_cons_zero, List.set_cons_succ]); (try refine eagerOpen rfl ?_)) | (refine wpEager_skip (by rfl) ?_; (try simp only [Act.put, List.setIfInBounds_toArray, List.set_cons_zero, List.set_cons_succ]); (try refine eagerOpen rfl ?_)) | (refine wpEager_off (by rfl) ?_; (try simp only [Act.put, List.setIfInBounds_toArray, List.set_cons_zero, List.set_cons_succ]); (try refine eagerOpen rfl ?_))))
  refine eagerEnd ?_
  have HB4 := Lib.hid hy4
  clear hy0 hy3 hy4 hs3 HC0 HC1
  go_wp2_with fail
  go_ret
  exact ⟨_, _, rfl, HL4.out, HB4.out⟩
theorem len_any {base db rb i : Nat} {d : DD} (w : World) (hE : Rdr.EType w) (h : DX base db d w) (hr : RolAt w rb db i) (hi : i < 3) :
    Calls Tryd.prog 19 #[.pointer (some ⟨rb, 0, none⟩)] w fun e w' => e = .returned (.int .i64 ((scan (fD d i).now).1.length : Int)) ∧ Below w.heap.size w w' := by
  have HB := Lib.hid (bodies_any w hE h hr hi)
  clear hE h hr
  go_enter Tryd.func19, Tryd.ntmps19
  go_wp2_with fail
  refine HB.out.mono ?_
  rintro e w' ⟨p, c, rfl, hl, hb⟩
  have HBB := Lib.hid hb
  clear hb hl
  go_wp2_with fail
  go_ret
  exact ⟨rfl, HBB.out⟩
set_option maxRecDepth 100000 in
set_option maxHeartbeats 1600000 in
theorem size_any {base db rb i : Nat} {d : DD} (w : World) (h : DX base db d w) (hr : RolAt w rb db i) (hi : i < 3) :
    Calls Tryd.prog 20 #[.pointer (some ⟨rb, 0, none⟩)] w fun e w' => e = .returned (.int .i64 ((fD d i).now.length : Int)) ∧ Below w.heap.size w w' := by
  have HX := Lib.hid h
  have HRX := Lib.hid hr
  have HI := Lib.hid hi
  have HRN := Lib.hid (rnone_any w hr)
  clear h hr hi
  go_enter Tryd.func20, Tryd.ntmps20
  go_wp2_with fail
  refine HRN.out.mono ?_
  rintro e w' ⟨rfl, rfl⟩
  go_upto_region 3 with fail
  have HC0 : Hid (∀ w', Below w.heap.size w w' → w'.cell? ⟨rb, 0, none⟩ = some (.pointer (some ⟨db, 0, none⟩))) := fun w' hb => (HRX.out.below hb).c0
  have HC1 : Hid (∀ w', Below w.heap.size w w' → w'.cell? ⟨rb, 1, none⟩ = some (.int .i64 (i : Int))) := fun w' hb => (HRX.out.below hb).c1
  refine wp_region_eager_t (Below w.heap.size w) [0, 1, 2, 3, 4, 5, 6, 7] [(0, true), (1, true), (2, true), (3, true), (4, true), (5, true), (6, true), (7, true)] [8, 9] (by kernel_rfl) (by kernel_rfl) ?_ (eagerTOpen rfl ?_)
  · exact below_drew1 _ _
  repeat (first
    | (first | (apply wpEagerT_take; (· rfl); (· (intro w' hb'; go_simp; try with_reducible rfl)); (try simp only [Act.put, List.setIfInBounds_toArray, List.set_cons_zero, List.set_cons_succ]); (try refine eagerTOpen rfl ?_)) | (refine wpEagerT_skip (by rfl) ?_; (try simp only [Act.put, List.setIfInBounds_toArray, List.set_cons_zero, List.set_cons_succ]); (try refine eagerTOpen rfl ?_)))
    | (apply wpEagerT_take; (· rfl); (· (intro w' hb'; have hk' := (HC0.out) w' hb'; go_split_ands; go_simp; try with_reducible rfl)); (try simp only [Act.put, List.setIfInBounds_toArray, List.set_cons_zero, List.set_cons_succ]); (try refine eagerTOpen rfl ?_))
    | (apply wpEagerT_take; (· rfl); (· (intro w' hb'; have hk' := (HC1.out) w' hb'; go_split_ands; go_simp; try with_reducible rfl)); (try simp only [Act.put, List.setIfInBounds_toArray, List.set_cons_zero, List.set_cons_succ]); (try refine eagerTOpen rfl ?_)))
  refine eagerTEnd (tail2 rfl rfl ?_)
  clear HC0 HC1
  have HY := Lib.hid (HX.out.below (below_drew1 _ _))
  have HKY : Hid (Below w.heap.size w w.drew) := below_drew1 _ _
  have HRD := Lib.hid (xsize w.drew HY.out i HI.out)
  go_wp2_with fail
  refine HRD.out.mono ?_
  rintro e w3 ⟨rfl, hb3⟩
  have HB3 := Lib.hid (HKY.out.trans (hb3.mono HKY.out.size))
  clear hb3
  go_wp2_with fail
  refine noPanic_end ?_
  go_wp2_with fail
  go_ret
  exact ⟨rfl, HB3.out⟩
set_option maxRecDepth 100000 in
set_option maxHeartbeats 3200000 in
theorem mend_any {base db rb i : Nat} {d : DD} (w : World) (hE : Rdr.EType w) (h : DX base db d w) (hr : RolAt w rb db i) (hi : i < 3) (hfew : (fD d i).steps.length + 1 ≤ 4398046511104) :
    Calls Tryd.prog 23 #[.pointer (some ⟨rb, 0, none⟩)] w (StP base db (mendE d i) (mendD d i) w) := by
  have HX := Lib.hid h
  have HRX := Lib.hid hr
  have HKX : Hid (KT base w w) := KT.refl _ _
  have HI := Lib.hid hi
  have HE := Lib.hid hE
  have HLE := Lib.hid (h.le hi)
  have HFEW := Lib.hid hfew
  have HSL := Lib.hid (scan_le (fD d i).now)
  have HME : Hid (mendE d i = if (scan (fD d i).now).2 < (fD d i).now.length then (if doE d i (fD d i) (.cut (scan (fD d i).now).2) = 0 then endE (doD d i (fD d i) (.cut (scan (fD d i).now).2)) i else doE d i (fD d i) (.cut (scan (fD d i).now).2)) else endE d i) := rfl
  have HMD : Hid (mendD d i = if (scan (fD d i).now).2 < (fD d i).now.length then (if doE d i (fD d i) (.cut (scan (fD d i).now).2) = 0 then endD (doD d i (fD d i) (.cut (scan (fD d i).now).2)) i else doD d i (fD d i) (.cut (scan (fD d i).now).2)) else endD d i) := rfl
  have HCUT := fun w (h : DX base db d w) => xcut w h i hi (scan (fD d i).now).2 (scan_le _) hfew
  have HCT := Lib.hid HCUT
  clear h hr hi hE hfew HCUT
  obtain ⟨L, hL⟩ : ∃ L, (fD d i).now = L := ⟨_, rfl⟩
  rw [hL] at HLE HSL HME HMD HCT
  have HLL := Lib.hid hL
  obtain ⟨G, hG⟩ : ∃ G, (scan L).2 = G := ⟨_, rfl⟩
  rw [hG] at HSL HME HMD HCT
  have HGG := Lib.hid hG
  clear hL hG
  have hlx := HLE.out
  have hsx := HSL.out
  go_enter Tryd.func23, Tryd.ntmps23
  go_upto_region 1 with fail
  have HC0 : Hid (∀ w', Below w.heap.size w w' → w'.cell? ⟨rb, 0, none⟩ = some (.pointer (some ⟨db, 0, none⟩))) := fun w' hb => (HRX.out.below hb).c0
  have HC1 : Hid (∀ w', Below w.heap.size w w' → w'.cell? ⟨rb, 1, none⟩ = some (.int .i64 (i : Int))) := fun w' hb => (HRX.out.below hb).c1
  refine wp_region_eager_t (Below w.heap.size w) [0, 1, 2, 3, 4, 5, 6, 7] [(0, true), (1, true), (2, true), (3, true), (4, true), (5, true), (6, true), (7, true)] [8, 9] (by kernel_rfl) (by kernel_rfl) ?_ (eagerTOpen rfl ?_)
  · exact below_drew1 _ _
  repeat (first
    | (first | (apply wpEagerT_take; (· rfl); (· (intro w' hb'; go_simp; try with_reducible rfl)); (try simp only [Act.put, List.setIfInBounds_toArray, List.set_cons_zero, List.set_cons_succ]); (try refine eagerTOpen rfl ?_)) | (refine wpEagerT_skip (by rfl) ?_; (try simp only [Act.put, List.setIfInBounds_toArray, List.set_cons_zero, List.set_cons_succ]); (try refine eagerTOpen rfl ?_)))
    | (apply wpEagerT_take; (· rfl); (· (intro w' hb'; have hk' := (HC0.out) w' hb'; go_split_ands; go_simp; try with_reducible rfl)); (try simp only [Act.put, List.setIfInBounds_toArray, List.set_cons_zero, List.set_cons_succ]); (try refine eagerTOpen rfl ?_))
    | (apply wpEagerT_take; (· rfl); (· (intro w' hb'; have hk' := (HC1.out) w' hb'; go_split_ands; go_simp; try with_reducible rfl)); (try simp only [Act.put, List.setIfInBounds_toArray, List.set_cons_zero, List.set_cons_succ]); (try refine eagerTOpen rfl ?_)))
  refine eagerTEnd (tail2 rfl rfl ?_)
  clear HC0 HC1
  have HB1 := Lib.hid (below_drew1 w.heap.size w)
  skip
  have HY := Lib.hid (HX.out.below (below_drew1 _ _))
  have HRY := Lib.hid (HRX.out.below (below_drew1 _ _))
  have HKY := Lib.hid (HKX.out.next (below_drew1 _ _))
  generalize w.drew = w1 at *
  clear HX HRX HKX
  have hrd := xread w1 HY.out i HI.out
  rw [HLL.out] at hrd
  have HRD := Lib.hid hrd
  clear hrd
  go_wp2_with fail
  refine HRD.out.mono ?_
  rintro e w3 ⟨p3, c3, rfl, hs3, hb3⟩
  have HX := Lib.hid (HY.out.below hb3)
  have HRX := Lib.hid (HRY.out.below hb3)
  have HKX := Lib.hid (HKY.out.next hb3)
  have HE3 := Lib.hid (HE.out.below (HB1.out.trans (hb3.mono HB1.out.size)) HE.out.lt)
  have hsc := Frm.scanO_any p3 _ c3 _ w3 HE3.out hs3 (Frm.bs_block hs3) (by omega)
  unfold Frm.ScanO at hsc
  rw [HGG.out] at hsc
  have HSC := Lib.hid hsc
  clear HY HRY HKY hsc hs3 hb3 HRD HE3 HB1
  go_wp2_with fail
  refine noPanic_end ?_
  go_wp2_with fail
  refine HSC.out.mono ?_
  rintro e w4 ⟨v4, rfl, hl4, hb4⟩
  have HX4 := Lib.hid (HX.out.below hb4)
  have HRX4 := Lib.hid (HRX.out.below hb4)
  have HKX4 := Lib.hid (HKX.out.next hb4)
  clear HX HRX HKX hl4 hb4 HSC
  have HX := HX4
  have HRX := HRX4
  have HKX := HKX4
  clear HX4 HRX4 HKX4
  by_cases hg : G < L.length
  · have z3 : decide ((G : Int) < (L.length : Int)) = true := decide_eq_true (by omega)
    have z4 : decide (G < L.length) = true := decide_eq_true hg
    rw [if_pos hg] at HME HMD
    clear hg
    go_upto_region 4 with fail
    have HC0 : Hid (∀ w', Below w4.heap.size w4 w' → w'.cell? ⟨rb, 0, none⟩ = some (.pointer (some ⟨db, 0, none⟩))) := fun w' hb => (HRX.out.below hb).c0
    have HC1 : Hid (∀ w', Below w4.heap.size w4 w' → w'.cell? ⟨rb, 1, none⟩ = some (.int .i64 (i : Int))) := fun w' hb => (HRX.out.below hb).c1
    refine wp_region_eager_t (Below w4.heap.size w4) [0, 1, 2, 3, 4, 5, 6, 7, 8] [(0, true), (1, true), (2, true), (3, true), (4, true), (5, true), (6, true), (7, true), (8, true)] [9, 10] (by kernel_rfl) (by kernel_rfl) ?_ (eagerTOpen rfl ?_)
    · exact below_drew1 _ _
    repeat (first
      | (first | (apply wpEagerT_take; (· rfl); (· (intro w' hb'; go_simp; try with_reducible rfl)); (try simp only [Act.put, List.setIfInBounds_toArray, List.set_cons_zero, List.set_cons_succ]); (try refine eagerTOpen rfl ?_)) | (refine wpEagerT_skip (by rfl) ?_; (try simp only [Act.put, List.setIfInBounds_toArray, List.set_cons_zero, List.set_cons_succ]); (try refine eagerTOpen rfl ?_)))
      | (apply wpEagerT_take; (· rfl); (· (intro w' hb'; have hk' := (HC0.out) w' hb'; go_split_ands; go_simp; try with_reducible rfl)); (try simp only [Act.put, List.setIfInBounds_toArray, List.set_cons_zero, List.set_cons_succ]); (try refine eagerTOpen rfl ?_))
      | (apply wpEagerT_take; (· rfl); (· (intro w' hb'; have hk' := (HC1.out) w' hb'; go_split_ands; go_simp; try with_reducible rfl)); (try simp only [Act.put, List.setIfInBounds_toArray, List.set_cons_zero, List.set_cons_succ]); (try refine eagerTOpen rfl ?_)))
    refine eagerTEnd (tail2 rfl rfl ?_)
    clear HC0 HC1
    have HY := Lib.hid (HX.out.below (below_drew1 _ _))
    have HRY := Lib.hid (HRX.out.below (below_drew1 _ _))
    have HKY := Lib.hid (HKX.out.next (below_drew1 _ _))
    generalize w4.drew = w5 at *
    clear HX HRX HKX
    have HCC := Lib.hid (HCT.out w5 HY.out)
    generalize doE d i (fD d i) (.cut G) = x at *
    generalize doD d i (fD d i) (.cut G) = d1 at *
    go_wp2_with fail
    refine HCC.out.mono ?_
    rintro e w6 ⟨rfl, hd6, hk6⟩
    have HX := Lib.hid hd6
    have HKX := Lib.hid (HKY.out.trans hk6)
    have HRX := Lib.hid (HRY.out.kt hk6)
    clear hd6 hk6 HKY HRY HY HCC HCT
    by_cases hx : x = 0
    · have z1 : (x != 0) = false := by simp [hx]
      rw [if_pos hx] at HME HMD
      clear hx
      go_wp2_with fail
      refine noPanic_end ?_
      skip
      go_upto_region 7 with fail
      have HC0 : Hid (∀ w', Below w6.heap.size w6 w' → w'.cell? ⟨rb, 0, none⟩ = some (.pointer (some ⟨db, 0, none⟩))) := fun w' hb => (HRX.out.below hb).c0
      have HC1 : Hid (∀ w', Below w6.heap.size w6 w' → w'.cell? ⟨rb, 1, none⟩ = some (.int .i64 (i : Int))) := fun w' hb => (HRX.out.below hb).c1
      refine wp_region_eager_t (Below w6.heap.size w6) [0, 1, 2, 3, 4, 5, 6, 7] [(0, true), (1, true), (2, true), (3, true), (4, true), (5, true), (6, true), (7, true)] [8, 9] (by kernel_rfl) (by kernel_rfl) ?_ (eagerTOpen rfl ?_)
      · exact below_drew1 _ _
      repeat (first
        | (first | (apply wpEagerT_take; (· rfl); (· (intro w' hb'; go_simp; try with_reducible rfl)); (try simp only [Act.put, List.setIfInBounds_toArray, List.set_cons_zero, List.set_cons_succ]); (try refine eagerTOpen rfl ?_)) | (refine wpEagerT_skip (by rfl) ?_; (try simp only [Act.put, List.setIfInBounds_toArray, List.set_cons_zero, List.set_cons_succ]); (try refine eagerTOpen rfl ?_)))
        | (apply wpEagerT_take; (· rfl); (· (intro w' hb'; have hk' := (HC0.out) w' hb'; go_split_ands; go_simp; try with_reducible rfl)); (try simp only [Act.put, List.setIfInBounds_toArray, List.set_cons_zero, List.set_cons_succ]); (try refine eagerTOpen rfl ?_))
        | (apply wpEagerT_take; (· rfl); (· (intro w' hb'; have hk' := (HC1.out) w' hb'; go_split_ands; go_simp; try with_reducible rfl)); (try simp only [Act.put, List.setIfInBounds_toArray, List.set_cons_zero, List.set_cons_succ]); (try refine eagerTOpen rfl ?_)))
      refine eagerTEnd (tail2 rfl rfl ?_)
      clear HC0 HC1
      have HY := Lib.hid (HX.out.below (below_drew1 _ _))
      have HRY := Lib.hid (HRX.out.below (below_drew1 _ _))
      have HKY := Lib.hid (HKX.out.next (below_drew1 _ _))
      generalize w6.drew = w7 at *
      clear HX HRX HKX
      have HUN := Lib.hid (xunits w7 HY.out i HI.out)
      have HEE : Hid (endE d1 i = if unitsAll (fD d1 i).steps = 0 then 0 else syncE d1) := rfl
      have HED : Hid (endD d1 i = if unitsAll (fD d1 i).steps = 0 then d1 else syncD d1 i (fD d1 i)) := rfl
      obtain ⟨un, hun⟩ : ∃ un, unitsAll (fD d1 i).steps = un := ⟨_, rfl⟩
      rw [hun] at HUN HEE HED
      clear hun
      go_wp2_with fail
      refine HUN.out.mono ?_
      rintro e w8 ⟨rfl, hb8⟩
      have HX := Lib.hid (HY.out.below hb8)
      have HRX := Lib.hid (HRY.out.below hb8)
      have HKX := Lib.hid (HKY.out.next hb8)
      clear hb8 HY HRY HKY HUN
      by_cases hu : un = 0
      · have z1 : ((un : Int) == 0) = true := by rw [beq_iff_eq]; omega
        have z2 : (un == 0) = true := by rw [beq_iff_eq]; omega
        rw [if_pos hu] at HEE HED
        clear hu
        go_wp2_with fail
        refine noPanic_end ?_
        go_wp2_with fail
        go_ret
        exact ⟨by rw [HME.out, HEE.out]; rfl, by rw [HMD.out, HED.out]; exact HX.out, HKX.out⟩
      · have z1 : ((un : Int) == 0) = false := by rw [beq_eq_false_iff_ne]; omega
        have z2 : (un == 0) = false := by rw [beq_eq_false_iff_ne]; omega
        rw [if_neg hu] at HEE HED
        clear hu
        go_wp2_with fail
        refine noPanic_end ?_
        go_upto_region 9 with fail
        have HC0 : Hid (∀ w', Below w8.heap.size w8 w' → w'.cell? ⟨rb, 0, none⟩ = some (.pointer (some ⟨db, 0, none⟩))) := fun w' hb => (HRX.out.below hb).c0
        have HC1 : Hid (∀ w', Below w8.heap.size w8 w' → w'.cell? ⟨rb, 1, none⟩ = some (.int .i64 (i : Int))) := fun w' hb => (HRX.out.below hb).c1
        refine wp_region_eager_t (Below w8.heap.size w8) [0, 1, 2, 3, 4, 5, 6, 7] [(0, true), (1, true), (2, true), (3, true), (4, true), (5, true), (6, true), (7, true)] [8, 9] (by kernel_rfl) (by kernel_rfl) ?_ (eagerTOpen rfl ?_)
        · exact below_drew1 _ _
        repeat (first
          | (first | (apply wpEagerT_take; (· rfl); (· (intro w' hb'; go_simp; try with_reducible rfl)); (try simp only [Act.put, List.setIfInBounds_toArray, List.set_cons_zero, List.set_cons_succ]); (try refine eagerTOpen rfl ?_)) | (refine wpEagerT_skip (by rfl) ?_; (try simp only [Act.put, List.setIfInBounds_toArray, List.set_cons_zero, List.set_cons_succ]); (try refine eagerTOpen rfl ?_)))
          | (apply wpEagerT_take; (· rfl); (· (intro w' hb'; have hk' := (HC0.out) w' hb'; go_split_ands; go_simp; try with_reducible rfl)); (try simp only [Act.put, List.setIfInBounds_toArray, List.set_cons_zero, List.set_cons_succ]); (try refine eagerTOpen rfl ?_))
          | (apply wpEagerT_take; (· rfl); (· (intro w' hb'; have hk' := (HC1.out) w' hb'; go_split_ands; go_simp; try with_reducible rfl)); (try simp only [Act.put, List.setIfInBounds_toArray, List.set_cons_zero, List.set_cons_succ]); (try refine eagerTOpen rfl ?_)))
        refine eagerTEnd (tail2 rfl rfl ?_)
        clear HC0 HC1
        have HY := Lib.hid (HX.out.below (below_drew1 _ _))
        have HRY := Lib.hid (HRX.out.below (below_drew1 _ _))
        have HKY := Lib.hid (HKX.out.next (below_drew1 _ _))
        generalize w8.drew = w9 at *
        clear HX HRX HKX
        have HSY := Lib.hid (xsync w9 HY.out i HI.out)
        go_wp2_with fail
        refine HSY.out.mono ?_
        rintro e w10 ⟨rfl, hd10, hk10⟩
        have HD10 := Lib.hid hd10
        have HK10 := Lib.hid (HKY.out.trans hk10)
        clear hd10 hk10
        go_wp2_with fail
        refine noPanic_end ?_
        go_wp2_with fail
        go_ret
        exact ⟨by rw [HME.out, HEE.out]; rfl, by rw [HMD.out, HED.out]; exact HD10.out, HK10.out⟩
    · have z1 : (x != 0) = true := by simp [hx]
      rw [if_neg hx] at HME HMD
      clear hx
      go_wp2_with fail
      refine noPanic_end ?_
      go_wp2_with fail
      go_ret
      exact ⟨by rw [HME.out]; rfl, by rw [HMD.out]; exact HX.out, HKX.out⟩
  · have z3 : decide ((G : Int) < (L.length : Int)) = false := decide_eq_false (by omega)
    have z4 : decide (G < L.length) = false := decide_eq_false hg
    rw [if_neg hg] at HME HMD
    clear hg HCT
    skip
    go_upto_region 7 with fail
    have HC0 : Hid (∀ w', Below w4.heap.size w4 w' → w'.cell? ⟨rb, 0, none⟩ = some (.pointer (some ⟨db, 0, none⟩))) := fun w' hb => (HRX.out.below hb).c0
    have HC1 : Hid (∀ w', Below w4.heap.size w4 w' → w'.cell? ⟨rb, 1, none⟩ = some (.int .i64 (i : Int))) := fun w' hb => (HRX.out.below hb).c1
    refine wp_region_eager_t (Below w4.heap.size w4) [0, 1, 2, 3, 4, 5, 6, 7] [(0, true), (1, true), (2, true), (3, true), (4, true), (5, true), (6, true), (7, true)] [8, 9] (by kernel_rfl) (by kernel_rfl) ?_ (eagerTOpen rfl ?_)
    · exact below_drew1 _ _
    repeat (first
      | (first | (apply wpEagerT_take; (· rfl); (· (intro w' hb'; go_simp; try with_reducible rfl)); (try simp only [Act.put, List.setIfInBounds_toArray, List.set_cons_zero, List.set_cons_succ]); (try refine eagerTOpen rfl ?_)) | (refine wpEagerT_skip (by rfl) ?_; (try simp only [Act.put, List.setIfInBounds_toArray, List.set_cons_zero, List.set_cons_succ]); (try refine eagerTOpen rfl ?_)))
      | (apply wpEagerT_take; (· rfl); (· (intro w' hb'; have hk' := (HC0.out) w' hb'; go_split_ands; go_simp; try with_reducible rfl)); (try simp only [Act.put, List.setIfInBounds_toArray, List.set_cons_zero, List.set_cons_succ]); (try refine eagerTOpen rfl ?_))
      | (apply wpEagerT_take; (· rfl); (· (intro w' hb'; have hk' := (HC1.out) w' hb'; go_split_ands; go_simp; try with_reducible rfl)); (try simp only [Act.put, List.setIfInBounds_toArray, List.set_cons_zero, List.set_cons_succ]); (try refine eagerTOpen rfl ?_)))
    refine eagerTEnd (tail2 rfl rfl ?_)
    clear HC0 HC1
    have HY := Lib.hid (HX.out.below (below_drew1 _ _))
    have HRY := Lib.hid (HRX.out.below (below_drew1 _ _))
    have HKY := Lib.hid (HKX.out.next (below_drew1 _ _))
    generalize w4.drew = w7 at *
    clear HX HRX HKX
    have HUN := Lib.hid (xunits w7 HY.out i HI.out)
    have HEE : Hid (endE d i = if unitsAll (fD d i).steps = 0 then 0 else syncE d) := rfl
    have HED : Hid (endD d i = if unitsAll (fD d i).steps = 0 then d else syncD d i (fD d i)) := rfl
    obtain ⟨un, hun⟩ : ∃ un, unitsAll (fD d i).steps = un := ⟨_, rfl⟩
    rw [hun] at HUN HEE HED
    clear hun
    go_wp2_with fail
    refine HUN.out.mono ?_
    rintro e w8 ⟨rfl, hb8⟩
    have HX := Lib.hid (HY.out.below hb8)
    have HRX := Lib.hid (HRY.out.below hb8)
    have HKX := Lib.hid (HKY.out.next hb8)
    clear hb8 HY HRY HKY HUN
    by_cases hu : un = 0
    · have z1 : ((un : Int) == 0) = true := by rw [beq_iff_eq]; omega
      have z2 : (un == 0) = true := by rw [beq_iff_eq]; omega
      rw [if_pos hu] at HEE HED
      clear hu
      go_wp2_with fail
      refine noPanic_end ?_
      go_wp2_with fail
      go_ret
      exact ⟨by rw [HME.out, HEE.out]; rfl, by rw [HMD.out, HED.out]; exact HX.out, HKX.out⟩
    · have z1 : ((un : Int) == 0) = false := by rw [beq_eq_false_iff_ne]; omega
      have z2 : (un == 0) = false := by rw [beq_eq_false_iff_ne]; omega
      rw [if_neg hu] at HEE HED
      clear hu
      go_wp2_with fail
      refine noPanic_end ?_
      go_upto_region 9 with fail
      have HC0 : Hid (∀ w', Below w8.heap.size w8 w' → w'.cell? ⟨rb, 0, none⟩ = some (.pointer (some ⟨db, 0, none⟩))) := fun w' hb => (HRX.out.below hb).c0
      have HC1 : Hid (∀ w', Below w8.heap.size w8 w' → w'.cell? ⟨rb, 1, none⟩ = some (.int .i64 (i : Int))) := fun w' hb => (HRX.out.below hb).c1
      refine wp_region_eager_t (Below w8.heap.size w8) [0, 1, 2, 3, 4, 5, 6, 7] [(0, true), (1, true), (2, true), (3, true), (4, true), (5, true), (6, true), (7, true)] [8, 9] (by kernel_rfl) (by kernel_rfl) ?_ (eagerTOpen rfl ?_)
      · exact below_drew1 _ _
      repeat (first
        | (first | (apply wpEagerT_take; (· rfl); (· (intro w' hb'; go_simp; try with_reducible rfl)); (try simp only [Act.put, List.setIfInBounds_toArray, List.set_cons_zero, List.set_cons_succ]); (try refine eagerTOpen rfl ?_)) | (refine wpEagerT_skip (by rfl) ?_; (try simp only [Act.put, List.setIfInBounds_toArray, List.set_cons_zero, List.set_cons_succ]); (try refine eagerTOpen rfl ?_)))
        | (apply wpEagerT_take; (· rfl); (· (intro w' hb'; have hk' := (HC0.out) w' hb'; go_split_ands; go_simp; try with_reducible rfl)); (try simp only [Act.put, List.setIfInBounds_toArray, List.set_cons_zero, List.set_cons_succ]); (try refine eagerTOpen rfl ?_))
        | (apply wpEagerT_take; (· rfl); (· (intro w' hb'; have hk' := (HC1.out) w' hb'; go_split_ands; go_simp; try with_reducible rfl)); (try simp only [Act.put, List.setIfInBounds_toArray, List.set_cons_zero, List.set_cons_succ]); (try refine eagerTOpen rfl ?_)))
      refine eagerTEnd (tail2 rfl rfl ?_)
      clear HC0 HC1
      have HY := Lib.hid (HX.out.below (below_drew1 _ _))
      have HRY := Lib.hid (HRX.out.below (below_drew1 _ _))
      have HKY := Lib.hid (HKX.out.next (below_drew1 _ _))
      generalize w8.drew = w9 at *
      clear HX HRX HKX
      have HSY := Lib.hid (xsync w9 HY.out i HI.out)
      go_wp2_with fail
      refine HSY.out.mono ?_
      rintro e w10 ⟨rfl, hd10, hk10⟩
      have HD10 := Lib.hid hd10
      have HK10 := Lib.hid (HKY.out.trans hk10)
      clear hd10 hk10
      go_wp2_with fail
      refine noPanic_end ?_
      go_wp2_with fail
      go_ret
      exact ⟨by rw [HME.out, HEE.out]; rfl, by rw [HMD.out, HED.out]; exact HD10.out, HK10.out⟩
/-! ### Open -/
def opnE (d : DD) (i : Nat) : Int := if d.down = true then 18 else mendE d i
def opnD (d : DD) (i : Nat) : DD := if d.down = true then d else mendD d i
structure OpnP (base db : Nat) (d : DD) (i : Nat) (w : World) (e : Ending) (w' : World) : Prop where
  dx : DX base db (opnD d i) w'
  kt : KT base w w'
  say : (opnE d i = 0 ∧ ∃ rb, e = .returned (.tuple #[.pointer (some ⟨rb, 0, none⟩), .int .i64 0]) ∧ RolAt w' rb db i) ∨ (opnE d i ≠ 0 ∧ e = .returned (.tuple #[.pointer none, .int .i64 (opnE d i)]))
theorem xroom {base db : Nat} {d : DD} (w : World) (h : DX base db d w) : Calls Tryd.prog 21 #[.pointer (some ⟨db, 0, none⟩)] w fun e w' => e = .returned (.int .i64 (d.room : Int)) ∧ w = w' := by
  obtain ⟨h0, vs, h1⟩ := h
  exact room_any w h1
theorem xdown {base db : Nat} {d : DD} (w : World) (h : DX base db d w) : Calls Tryd.prog 22 #[.pointer (some ⟨db, 0, none⟩)] w fun e w' => e = .returned (.bool d.down) ∧ w = w' := by
  obtain ⟨h0, vs, h1⟩ := h
  exact down_any w h1
theorem open_bad {base db : Nat} {d : DD} (w : World) (h : DX base db d w) (i : Int) (hi : i < 0 ∨ 3 ≤ i) :
    Calls Tryd.prog 9 #[.pointer (some ⟨db, 0, none⟩), .int .i64 i] w fun e w' => e = .returned (.tuple #[.pointer none, .int .i64 1]) ∧ w = w' := by
  have HRM := Lib.hid (xroom w h)
  have hr := h.room.1
  have e1 : ((d.room : Int) == 0) = false := by rw [beq_eq_false_iff_ne]; omega
  have e2 : (d.room == 0) = false := by rw [beq_eq_false_iff_ne]; omega
  clear h
  by_cases h0 : i < 0
  · have d1 : decide (i < 0) = true := decide_eq_true h0
    clear hi h0
    go_enter Tryd.func9, Tryd.ntmps9
    go_wp2_with fail
    refine HRM.out.mono ?_
    rintro e w' ⟨rfl, rfl⟩
    go_wp2_with fail
    go_ret2
    exact ⟨rfl, rfl⟩
  · have d1 : decide (i < 0) = false := decide_eq_false h0
    have d2 : decide ((3 : Int) ≤ i) = true := decide_eq_true (by omega)
    clear hi h0
    go_enter Tryd.func9, Tryd.ntmps9
    go_wp2_with fail
    refine HRM.out.mono ?_
    rintro e w' ⟨rfl, rfl⟩
    go_wp2_with fail
    go_ret2
    exact ⟨rfl, rfl⟩
theorem built_rol (db i : Nat) : Tryd.prog.built 51 [(0, .pointer (some ⟨db, 0, none⟩)), (1, .int .i64 (i : Int))] = some (rolA db i) := by kernel_rfl
set_option maxRecDepth 100000 in
set_option maxHeartbeats 1600000 in
theorem open_any {base db i : Nat} {d : DD} (w : World) (hE : Rdr.EType w) (h : DX base db d w) (hi : i < 3) (hfew : (fD d i).steps.length + 1 ≤ 4398046511104) :
    Calls Tryd.prog 9 #[.pointer (some ⟨db, 0, none⟩), .int .i64 (i : Int)] w (OpnP base db d i w) := by
  have HRM := Lib.hid (xroom w h)
  have HDN := Lib.hid (xdown w h)
  have hr := h.room.1
  have e1 : ((d.room : Int) == 0) = false := by rw [beq_eq_false_iff_ne]; omega
  have e2 : (d.room == 0) = false := by rw [beq_eq_false_iff_ne]; omega
  have d1 : decide ((i : Int) < 0) = false := decide_eq_false (by omega)
  have d2 : decide ((3 : Int) ≤ (i : Int)) = false := decide_eq_false (by omega)
  have d2b : decide (3 ≤ i) = false := decide_eq_false (by omega)
  have H := Lib.hid h
  have HI := Lib.hid hi
  have HE := Lib.hid hE
  have HFEW := Lib.hid hfew
  clear h hi hE hfew
  obtain ⟨dn, hdn⟩ : ∃ dn, d.down = dn := ⟨_, rfl⟩
  rw [hdn] at HDN
  cases dn with
  | true =>
    have HOE : Hid (opnE d i = 18) := by show _ = _; unfold opnE; rw [if_pos hdn]
    have HOD : Hid (opnD d i = d) := by show _ = _; unfold opnD; rw [if_pos hdn]
    clear hdn
    go_enter Tryd.func9, Tryd.ntmps9
    go_wp2_with fail
    refine HRM.out.mono ?_
    rintro e w' ⟨rfl, rfl⟩
    go_wp2_with fail
    refine HDN.out.mono ?_
    rintro e w' ⟨rfl, rfl⟩
    go_wp2_with fail
    go_ret2
    exact ⟨by rw [HOD.out]; exact H.out, KT.refl _ _, .inr ⟨by rw [HOE.out]; decide, by rw [HOE.out]; rfl⟩⟩
  | false =>
    have HOE : Hid (opnE d i = mendE d i) := by show _ = _; unfold opnE; rw [if_neg (by rw [hdn]; decide)]
    have HOD : Hid (opnD d i = mendD d i) := by show _ = _; unfold opnD; rw [if_neg (by rw [hdn]; decide)]
    have HB1 : Hid (Below w.heap.size w (w.alloc (.cells (rolA db i) 51))) := Below.allocs _ _
    have HR1 : Hid (RolAt (w.alloc (.cells (rolA db i) 51)) w.heap.size db i) := heap_alloc_last _ _
    have HME := Lib.hid (mend_any _ (HE.out.below HB1.out HE.out.lt) (H.out.below HB1.out) HR1.out HI.out HFEW.out)
    clear hdn
    rw [← HOE.out, ← HOD.out] at HME
    clear HOE HOD
    generalize hoe : opnE d i = x at *
    have HOE := Lib.hid hoe
    clear hoe
    go_enter Tryd.func9, Tryd.ntmps9
    go_wp2_with fail
    refine HRM.out.mono ?_
    rintro e w' ⟨rfl, rfl⟩
    go_wp2_with fail
    refine HDN.out.mono ?_
    rintro e w' ⟨rfl, rfl⟩
    go_upto_region 8 with (refine Rdr.wpList_build rfl 51 _ rfl [(0, .pointer (some ⟨db, 0, none⟩)), (1, .int .i64 (i : Int))] rfl _ (built_rol _ _) ?_)
    generalize w.alloc (.cells (rolA db i) 51) = w1 at *
    go_wp2_with fail
    refine HME.out.mono ?_
    rintro e w2 ⟨rfl, hd2, hk2⟩
    have HD2 := Lib.hid hd2
    have HR2 := Lib.hid (HR1.out.kt hk2)
    have HK2 : Hid (KT base w w2) := (KT.of_below HB1.out).trans hk2
    clear hd2 hk2 HME
    by_cases hx : x = 0
    · have z1 : (x != 0) = false := by simp [hx]
      have HX0 := Lib.hid hx
      clear hx
      go_wp2_with fail
      go_ret2
      exact ⟨HD2.out, HK2.out, .inl ⟨HOE.out.trans HX0.out, _, rfl, HR2.out⟩⟩
    · have z1 : (x != 0) = true := by simp [hx]
      have HX0 : Hid (x ≠ 0) := hx
      clear hx
      go_wp2_with fail
      go_ret2
      exact ⟨HD2.out, HK2.out, .inr ⟨by rw [HOE.out]; exact HX0.out, by rw [HOE.out]; rfl⟩⟩
end Go.Proofs.YtkacmgfehmjijaaDoor.Rol

namespace Go.Proofs.YtkacmgfehmjijaaDoor.Rol
open Go.RowKit Go.Mir Go.Mir.Parts Dk
open Frm (frame scan)
open Cut (Ls LsO LsA)

theorem xnew (room : Nat) (w : World) (h : 1 ≤ room ∧ room ≤ 65536) :
    Calls Tryd.prog 8 #[.int .i64 (room : Int)] w fun e w' => ∃ db, e = .returned (.tuple #[.pointer (some ⟨db, 0, none⟩), .int .i64 0]) ∧ DX w.heap.size db (DD.new room) w' ∧ Below w.heap.size w w' := by
  refine (new_any room w h).mono ?_
  rintro e w' ⟨db, vs, he, hd, hb⟩
  exact ⟨db, he, ⟨hb.size, vs, hd⟩, hb⟩
theorem xarm {base db : Nat} {d : DD} (w : World) (h : DX base db d w) (n : Int) (hn : n ≤ 9223372036854775807) :
    Calls Tryd.prog 10 #[.pointer (some ⟨db, 0, none⟩), .int .i64 n] w fun e w' => e = .returned (.tuple #[]) ∧ DX base db ⟨d.fs, d.room, n.toNat, d.down⟩ w' ∧ KT base w w' := by
  obtain ⟨h0, vs, h1⟩ := h
  refine (arm_any w h1 n hn).mono ?_
  rintro e w' ⟨he, hd, ht⟩
  exact ⟨he, DX.left h1 h0 (LeftD.row h1 hd ht)⟩
theorem xcrash {base db : Nat} {d : DD} (w : World) (h : DX base db d w) (us : List Int) (p : Option Addr) (c : Nat) (hN : Ns w p us.length c us) (hap : ∀ a, p = some a → ¬ DTy base w a.block ∧ a.block < w.heap.size) :
    Calls Tryd.prog 12 #[.pointer (some ⟨db, 0, none⟩), .slice p us.length c] w fun e w' => e = .returned (.tuple #[]) ∧ DX base db (crashD us d) w' ∧ KT base w w' := by
  obtain ⟨h0, vs, h1⟩ := h
  refine (crash_any w h1 h0 us p c hN (fun a ha => ⟨fun ho => (hap a ha).1 (dat_dty h1 _ ho), (hap a ha).2⟩)).mono ?_
  rintro e w' ⟨he, hl⟩
  exact ⟨he, DX.left h1 h0 hl⟩
theorem xcrash0 {base db : Nat} {d : DD} (w : World) (h : DX base db d w) :
    Calls Tryd.prog 12 #[.pointer (some ⟨db, 0, none⟩), .slice none 0 0] w fun e w' => e = .returned (.tuple #[]) ∧ DX base db (crashD [] d) w' ∧ KT base w w' :=
  xcrash w h [] none 0 ⟨Sl.nil _ _, rfl, fun x hx => (nomatch hx)⟩ (fun a ha => by cases ha)
/-! ### plain -/
theorem open_up (room : Nat) (i : Nat) (hi : i < 3) (x : List UInt8) (h : x.length ≤ room) : opnE (dI room 0 false i (fS x)) i = 0 ∧ opnD (dI room 0 false i (fS x)) i = dI room 0 false i (fS (x.take (scan x).2)) := by
  unfold opnE opnD
  rw [if_neg (show ¬ (dI room 0 false i (fS x)).down = true from Bool.false_ne_true), if_neg (show ¬ (dI room 0 false i (fS x)).down = true from Bool.false_ne_true)]
  rcases mend_up room 0 i hi x h with ⟨a, f', b, hf⟩ | ⟨_, _, hf⟩
  · rw [hf rfl] at b
    exact ⟨a, b⟩
  · exact absurd rfl hf
theorem app_zero (room : Nat) (i : Nat) (hi : i < 3) (x b : List UInt8) (hb : 1 ≤ b.length) (h : x.length + (8 + b.length) ≤ room) :
    appE (dI room 0 false i (fS x)) i b = 0 ∧ appD (dI room 0 false i (fS x)) i b = dI room 0 false i (fS (x ++ frame b)) := by
  rcases app_up room 0 i hi x b hb h with ⟨a, c, _, _⟩ | ⟨_, _, hf⟩
  · exact ⟨a, c⟩
  · omega
theorem few_dI (room fuse : Nat) (down : Bool) (i : Nat) (hi : i < 3) (x : List UInt8) : (fD (dI room fuse down i (fS x)) i).steps.length + 1 ≤ 4398046511104 := by
  rw [fD_dI _ _ _ _ hi]; show 0 + 1 ≤ _; omega
set_option maxRecDepth 100000 in
set_option maxHeartbeats 1600000 in
theorem alive20_any (w : World) (hE : Rdr.EType w) :
    Calls Tryd.prog 7 #[] w fun e w' => e = .returned (.bool true) ∧ Below w.heap.size w w' := by
  have HE := Lib.hid hE
  have HN : Hid (Calls Tryd.prog 8 #[.int .i64 100] w fun e w' => ∃ db, e = .returned (.tuple #[.pointer (some ⟨db, 0, none⟩), .int .i64 0]) ∧ DX w.heap.size db (DD.new 100) w' ∧ Below w.heap.size w w') := xnew 100 w (by omega)
  have HG : Hid (0 < w.heap.size) := hE.lt
  have hs7 : scan (frame [7]) = ([[7]], (frame [7]).length) := by
    have := scan_all [[7]] (fun x hx => by rw [List.mem_singleton] at hx; subst hx; exact ⟨by decide, by decide⟩)
    simpa using this
  have HS7 := Lib.hid hs7
  clear hE hs7
  go_enter Tryd.func7, Tryd.ntmps7
  go_wp2_with fail
  refine HN.out.mono ?_
  rintro e w1 ⟨db, rfl, hd1, hb1⟩
  rw [new_dI 100 0] at hd1
  have HD1 := Lib.hid hd1
  have HB1 := Lib.hid hb1
  have ho := open_any w1 (HE.out.below hb1 HE.out.lt) hd1 (i := 0) (by omega) (few_dI _ _ _ _ (by omega) _)
  obtain ⟨o1, o2⟩ := open_up 100 0 (by omega) [] (by decide)
  have HO := Lib.hid ho
  have HO1 := Lib.hid o1
  have HO2 := Lib.hid o2
  clear hd1 hb1 ho o1 o2 HN
  go_wp2_with fail
  refine HO.out.mono ?_
  rintro e w2 ⟨hd2, hk2, hs2⟩
  rw [HO1.out] at hs2
  rw [HO2.out, List.take_nil] at hd2
  rcases hs2 with ⟨_, rb, rfl, hr2⟩ | ⟨hc, _⟩
  rotate_left
  · exact absurd rfl hc
  have HD2 : Hid (DX w.heap.size db (dI 100 0 false 0 (fS [])) w2) := hd2
  have HR2 := Lib.hid hr2
  have HB2 := Lib.hid (HB1.out.trans (hk2.below HB1.out.size))
  clear hd2 hk2 hr2 HO HO1 HO2
  have hal : Below w2.heap.size w2 (w2.alloc (.cells #[.int .u8 7] 5)) := Below.allocs _ _
  have HA3 := Lib.hid (HB2.out.trans (hal.mono HB2.out.size))
  have hbs : Bs (w2.alloc (.cells #[.int .u8 7] 5)) (some ⟨w2.heap.size, 0, none⟩) 1 1 [7] := Bs.made _ _ _ _ _ _ rfl rfl (by omega)
  have hap := append_any _ (HD2.out.below hal) (HR2.out.below hal) (by omega) _ _ _ [7] hbs (by omega) (few_dI _ _ _ _ (by omega) _)
  obtain ⟨p1, p2⟩ := app_zero 100 0 (by omega) [] [7] (by decide) (by decide)
  rw [p1, p2] at hap
  have HAP := Lib.hid hap
  have HR3 := Lib.hid (HR2.out.below hal)
  clear hap p1 p2 hbs hal
  go_wp2_with fail
  refine HAP.out.mono ?_
  rintro e w4 ⟨rfl, hd4, hk4⟩
  have HD4 := Lib.hid hd4
  have HB4 := Lib.hid (HA3.out.trans (hk4.below HA3.out.size))
  clear hd4 hk4 HAP
  go_wp2_with fail
  refine (xcrash0 w4 HD4.out).mono ?_
  rintro e w5 ⟨rfl, hd5, hk5⟩
  rw [crash_up _ _ _ _ _ (by omega)] at hd5
  have HD5 := Lib.hid hd5
  have HB5 := Lib.hid (HB4.out.trans (hk5.below HB4.out.size))
  have ho := open_any w5 (HE.out.below HB5.out HE.out.lt) hd5 (i := 0) (by omega) (few_dI _ _ _ _ (by omega) _)
  obtain ⟨o1, o2⟩ := open_up 100 0 (by omega) ([] ++ frame [7]) (by rw [List.nil_append, Frm.frame_length]; decide)
  rw [List.nil_append, HS7.out, List.take_length] at o2
  rw [List.nil_append] at o1 ho
  have HO := Lib.hid ho
  have HO1 := Lib.hid o1
  have HO2 := Lib.hid o2
  clear hd5 hk5 ho o1 o2
  go_wp2_with fail
  refine HO.out.mono ?_
  rintro e w6 ⟨hd6, hk6, hs6⟩
  rw [HO1.out] at hs6
  rw [HO2.out] at hd6
  rcases hs6 with ⟨_, rb2, rfl, hr6⟩ | ⟨hc, _⟩
  rotate_left
  · exact absurd rfl hc
  have HB6 := Lib.hid (HB5.out.trans (hk6.below HB5.out.size))
  have hlen := len_any w6 (HE.out.below HB6.out HE.out.lt) hd6 hr6 (by omega)
  rw [fD_dI _ _ _ _ (by omega), show (fS (frame [7])).now = frame [7] from rfl, HS7.out] at hlen
  have HL := Lib.hid hlen
  clear hd6 hk6 hr6 hlen HO HO1 HO2 HS7
  go_wp2_with fail
  refine HL.out.mono ?_
  rintro e w7 ⟨rfl, hb7⟩
  have HB7 := Lib.hid (HB6.out.trans (hb7.mono HB6.out.size))
  clear hb7 HL
  go_wp2_with fail
  go_ret
  exact ⟨rfl, HB7.out⟩
end Go.Proofs.YtkacmgfehmjijaaDoor.Rol

namespace Go.Proofs.YtkacmgfehmjijaaDoor.R02
open Go.RowKit Go.Mir

theorem infoB : (Tryd.prog.info? 5).map (fun i => (i.zero, i.size, i.bytes)) = some (some (.int .u8 0), 1, 1) := by kernel_rfl
theorem take_snoc {α : Type} (l : List α) (k : Nat) (h : k < l.length) : l.take (k + 1) = l.take k ++ [l[k]] := by
  rw [List.take_succ_eq_append_getElem h]
def total (ls : List (List UInt8)) : Nat := (ls.map List.length).sum
theorem total_take (ls : List (List UInt8)) (k : Nat) (h : k < ls.length) : total (ls.take (k + 1)) = total (ls.take k) + ls[k].length := by
  rw [take_snoc ls k h]; simp only [total, List.map_append, List.sum_append, List.map_cons, List.map_nil, List.sum_cons, List.sum_nil, Nat.add_zero]
theorem total_le (ls : List (List UInt8)) (k : Nat) : total (ls.take k) ≤ total ls := by
  have := congrArg total (List.take_append_drop k ls)
  simp only [total, List.map_append, List.sum_append] at this ⊢
  omega
theorem total_flatten (ls : List (List UInt8)) : ls.flatten.length = total ls := by simp [total, List.length_flatten]

set_option maxRecDepth 100000 in
set_option maxHeartbeats 400000 in
theorem few_any (p : Option Addr) (n c : Nat) (ls : List (List UInt8)) (most : Nat) (w : World) (h : Pts w p n c ls) (hs : n + total ls ≤ 4611686018427387904) (hm : most ≤ 4611686018427387904) :
    Calls Tryd.prog 6 #[.slice p n c, .int .i64 (most : Int)] w fun e w' => e = .returned (.bool (decide (n + total ls ≤ most))) ∧ w = w' := by
  have hle := h.le
  have hmax := h.max
  have hn := h.len
  go_enter Tryd.func6, Tryd.ntmps6
  go_wp2
  go_loop [5, 6] (fun x j => ∃ k : Nat, k ≤ n ∧ j = .int .i64 k ∧ x = .int .i64 ((n + total (ls.take k) : Nat) : Int)) (fun _ j => n - (intOf j).toNat)
  case atStart => exact ⟨0, by omega, rfl, rfl⟩
  case round =>
    obtain ⟨k, hk, rfl, rfl⟩ := hrel
    have htl := total_le ls k
    by_cases hlt : k < n
    · obtain ⟨b, o, rfl⟩ := h.addr (by omega)
      obtain ⟨q, m, d, hc, hB⟩ := h.cell _ rfl k (by omega)
      rw [add_none] at hc
      have htk := total_take ls k (by omega)
      have htl' := total_le ls (k + 1)
      rw [hB.length] at htk
      have HTK := Lib.hid htk
      have hsum : n + total (ls.take k) + m ≤ 4611686018427387904 := by omega
      clear htk htl' hB
      generalize hT : total (ls.take k) = T at *
      have HT := Lib.hid hT
      clear hT
      go_wp2
      go_round
      case rel => exact ⟨k + 1, by omega, by go_num, by rw [HTK.out]; go_num⟩
      case measure => simp [intOf]; omega
    · have hk' : k = ls.length := by omega
      rw [hk', List.take_length]
      generalize hT : total ls = T at *
      have HT := Lib.hid hT
      clear hT htl
      by_cases hf : n + T ≤ most
      · have hd : decide (n + T ≤ most) = true := by simp [hf]
        have HD := Lib.hid hd
        clear hd
        go_wp2
        go_ret
        exact ⟨congrArg (fun b => Ending.returned (.bool b)) (by rw [HT.out, HD.out]; simp; omega), rfl⟩
      · have hd : decide (n + T ≤ most) = false := by simp [hf]
        have HD := Lib.hid hd
        clear hd
        go_wp2
        go_ret
        exact ⟨congrArg (fun b => Ending.returned (.bool b)) (by rw [HT.out, HD.out]; simp; omega), rfl⟩

end Go.Proofs.YtkacmgfehmjijaaDoor.R02

namespace Go.Proofs.YtkacmgfehmjijaaDoor.Rol
open Go.RowKit Go.Mir Dk
open Frm (frame scan frame_length)

/-- the disk behind bodies of which those of T were answered OK, and L is that in which it went down (none: none) -/
structure KS (R i : Nat) (T : List (List UInt8)) (L : List UInt8) (D : DD) : Prop where
  st : (L = [] ∧ ∃ fz, D = dI R fz false i (fS (T.flatMap frame))) ∨ ((1 ≤ L.length ∧ L.length ≤ 65536) ∧ D = dI R 0 true i ⟨T.flatMap frame, T.flatMap frame ++ frame L, [.put (frame L)], (T.flatMap frame).length + (frame L).length⟩)
  ok : ∀ x ∈ T, 1 ≤ x.length ∧ x.length ≤ 65536
theorem KS.few {R i : Nat} {T : List (List UInt8)} {L : List UInt8} {D : DD} (h : KS R i T L D) (hi : i < 3) : (fD D i).steps.length + 1 ≤ 4398046511104 := by
  rcases h.st with ⟨_, fz, rfl⟩ | ⟨_, rfl⟩
  · rw [fD_dI _ _ _ _ hi]; show 0 + 1 ≤ _; omega
  · rw [fD_dI _ _ _ _ hi]; show 1 + 1 ≤ _; omega
theorem ks_step {R i : Nat} {T : List (List UInt8)} {L b : List UInt8} {D : DD} (hi : i < 3) (h : KS R i T L D) (h1 : 1 ≤ b.length) (h2 : b.length ≤ 65536) (hr : (T.flatMap frame).length + (8 + b.length) ≤ R) :
    (L = [] ∧ appE D i b = 0 ∧ KS R i (T ++ [b]) [] (appD D i b)) ∨ (L = [] ∧ appE D i b = 18 ∧ KS R i T b (appD D i b)) ∨ (1 ≤ L.length ∧ appE D i b = 18 ∧ appD D i b = D) := by
  rcases h.st with ⟨hL, fz, hD⟩ | ⟨hL, hD⟩
  · subst hD
    rcases app_up R fz i hi (T.flatMap frame) b h1 hr with ⟨a, c, _, _⟩ | ⟨a, c, _⟩
    · refine .inl ⟨hL, a, .inl ⟨rfl, fz - 2, ?_⟩, fun x hx => ?_⟩
      · rw [c, List.flatMap_append, List.flatMap_singleton]
      · rcases List.mem_append.1 hx with hx | hx
        · exact h.ok x hx
        · rw [List.mem_singleton] at hx; subst hx; exact ⟨h1, h2⟩
    · exact .inr (.inl ⟨hL, a, .inr ⟨⟨h1, h2⟩, c⟩, h.ok⟩)
  · have hd : D.down = true := by rw [hD]; rfl
    obtain ⟨a, c⟩ := app_down i b h1 hd
    exact .inr (.inr ⟨hL.1, a, c⟩)
theorem ks_crash {R i : Nat} {T : List (List UInt8)} {L : List UInt8} {D : DD} (us : List Int) (hi : i < 3) (h : KS R i T L D) :
    ∃ y, crashD us D = dI R 0 false i (fS y) ∧ y.length ≤ (T.flatMap frame).length + (8 + L.length) ∧ ((scan y).1 = T ∨ (1 ≤ L.length ∧ (scan y).1 = T ++ [L])) := by
  rcases h.st with ⟨hL, fz, hD⟩ | ⟨hL, hD⟩
  · subst hD
    refine ⟨T.flatMap frame, crash_up us _ _ _ _ hi _, by omega, .inl ?_⟩
    rw [scan_all T h.ok]
  · subst hD
    obtain ⟨u, hu, hc⟩ := crash_put us R 0 true i hi (T.flatMap frame) (frame L) ((T.flatMap frame).length + (frame L).length)
    refine ⟨_, hc, ?_, ?_⟩
    · rw [List.length_append, List.length_take]
      have := frame_length L
      omega
    · rcases scan_more T h.ok L hL.1 hL.2 u hu with h1 | h1
      · exact .inl h1
      · exact .inr ⟨hL.1, h1⟩
theorem tsum_snoc (T : List (List UInt8)) (b : List UInt8) : ((T ++ [b]).flatMap frame).length = (T.flatMap frame).length + (8 + b.length) := by
  rw [List.flatMap_append, List.length_append, List.flatMap_singleton, frame_length]
theorem total_take_succ (ls : List (List UInt8)) (k : Nat) (h : k < ls.length) : R02.total (ls.take (k + 1)) = R02.total (ls.take k) + (ls[k]).length := by
  unfold R02.total
  rw [List.take_succ_eq_append_getElem h, List.map_append, List.sum_append]
  simp
theorem slast_none (w : World) (g : Nat) : Bs w (some ⟨g, 0, none⟩) 0 0 [] := ⟨rfl, Nat.le_refl _, by omega, fun h => (by cases h), fun a ha j u hu => by simp [bytesV] at hu⟩
theorem own_type {w : World} {b e size n : Nat} {v : Value} {xs : List Value} (h : w.ownsRow b e size v n xs) : ∀ k M t fr, v.ownBlock = some k → w.heap[k]? = some (.cells M t fr) → t = e := by
  intro k M t fr hk hm
  rcases h.2 with ⟨rfl, _⟩ | ⟨g, cap, cur, rfl, _, hg, _⟩
  · simp [Value.ownBlock] at hk
  · simp [Value.ownBlock] at hk
    subst hk
    rw [hg] at hm
    injection hm with e1
    injection e1 with _ e2
    exact e2.symm
theorem DX.turn {base db : Nat} {d : DD} {S : Nat → Prop} {w w' : World} (h : DX base db d w) (ht : Turns S w w') (hS : ∀ k M t fr, S k → w.heap[k]? = some (.cells M t fr) → t ≠ 49 ∧ t ≠ 79 ∧ t ≠ 5) : DX base db d w' := by
  obtain ⟨h0, vs, h1⟩ := h
  have hno : ∀ k, DOwn db vs k → ¬ S k := fun k hk hs => by
    obtain ⟨_, M, t, fr, e1, e2⟩ := dat_dty h1 k hk
    have := hS k M t fr hs e1
    rcases e2 with e2 | e2
    · exact this.1 e2
    · exact this.2.1 e2
  refine ⟨Nat.le_trans h0 ht.size, vs, ht.keep h1.row (hno db (.inl rfl)), h1.low, h1.n3, h1.m3, fun i v f hv hf => ?_, h1.apart, h1.room1, h1.fuse1, h1.used, h1.few⟩
  exact (h1.each i v f hv hf).touch ht (fun k M fr hk hs => (hS k M _ fr hs hk).2.2 rfl) (fun k hk => hno k (.inr ⟨v, List.mem_of_getElem? hv, hk⟩))
theorem drop_last {T : List (List UInt8)} {L : List UInt8} : (T ++ [L]).take T.length = T := List.take_left
end Go.Proofs.YtkacmgfehmjijaaDoor.Rol

namespace Go.Proofs.YtkacmgfehmjijaaDoor.Rol
open Go.RowKit Go.Mir Go.Mir.Parts Dk
open Frm (frame scan)
open Cut (Ls LsO LsA)

/-- a step and a sync, on a disk without a fuse -/
theorem put_zero (room i : Nat) (hi : i < 3) (b : List UInt8) (h : b.length ≤ room) :
    doE (dI room 0 false i (fS [])) i (fS []) (.put b) = 0 ∧ doD (dI room 0 false i (fS [])) i (fS []) (.put b) = dI room 0 false i ⟨[], b, [.put b], b.length⟩ ∧
    syncE (dI room 0 false i ⟨[], b, [.put b], b.length⟩) = 0 ∧ syncD (dI room 0 false i ⟨[], b, [.put b], b.length⟩) i ⟨[], b, [.put b], b.length⟩ = dI room 0 false i (fS b) := by
  have hp := put_sync room 0 i hi [] b (by simpa using h)
  simp only [List.nil_append, List.length_nil, Nat.zero_add] at hp
  rcases hp with ⟨a, c, hf, hs⟩ | ⟨a, c, hf⟩
  · rcases hs with ⟨a2, c2, hf2⟩ | ⟨a2, c2, hf2⟩
    · exact ⟨a, c, a2, c2⟩
    · omega
  · omega
/-- what is left of bytes where a roll was opened, and a crash came -/
theorem opn_crash (us : List Int) (room fuse i : Nat) (hi : i < 3) (b : List UInt8) (h : b.length ≤ room) :
    (opnE (dI room fuse false i (fS b)) i = 0 ∧ (scan (fD (opnD (dI room fuse false i (fS b)) i) i).now) = scan b ∨ opnE (dI room fuse false i (fS b)) i = 18) ∧
    ∃ y, y.length ≤ room ∧ scan y = scan b ∧ crashD us (opnD (dI room fuse false i (fS b)) i) = dI room 0 false i (fS y) := by
  have e1 : opnE (dI room fuse false i (fS b)) i = mendE (dI room fuse false i (fS b)) i := by unfold opnE; rw [if_neg (show ¬ (dI room fuse false i (fS b)).down = true from Bool.false_ne_true)]
  have e2 : opnD (dI room fuse false i (fS b)) i = mendD (dI room fuse false i (fS b)) i := by unfold opnD; rw [if_neg (show ¬ (dI room fuse false i (fS b)).down = true from Bool.false_ne_true)]
  have hl : (b.take (scan b).2).length ≤ room := by rw [List.length_take]; omega
  rw [e1, e2]
  rcases mend_up room fuse i hi b h with ⟨a, f', c, _⟩ | ⟨a, c, _⟩
  · rw [c, fD_dI _ _ _ _ hi]
    exact ⟨.inl ⟨a, scan_take b⟩, b.take (scan b).2, hl, scan_take b, crash_up us _ _ _ _ hi _⟩
  · rw [c]
    obtain ⟨y, hy, hc⟩ := crash_cut us room 0 true i hi b (scan b).2 b.length
    refine ⟨.inr a, y, ?_, ?_, hc⟩
    · rcases hy with rfl | rfl
      · exact h
      · exact hl
    · rcases hy with rfl | rfl
      · rfl
      · exact scan_take b
/-- a roll opened again -/
theorem opn_again (room i : Nat) (hi : i < 3) (y : List UInt8) (h : y.length ≤ room) : opnE (dI room 0 false i (fS y)) i = 0 ∧ ∃ z, opnD (dI room 0 false i (fS y)) i = dI room 0 false i (fS z) ∧ scan z = scan y ∧ z.length ≤ room := by
  obtain ⟨a, b⟩ := open_up room i hi y h
  exact ⟨a, _, b, scan_take y, by rw [List.length_take]; omega⟩
theorem dx_few {room fuse : Nat} {down : Bool} {i : Nat} (hi : i < 3) {f : FD} (hs : f.steps.length ≤ 1) : (fD (dI room fuse down i f) i).steps.length + 1 ≤ 4398046511104 := by
  rw [fD_dI _ _ _ _ hi]; omega
theorem no_ints {base : Nat} {w : World} {k : Nat} {M : Array Value} (h : w.heap[k]? = some (.cells M 3 (0, 0))) : ¬ DTy base w k := fun ⟨_, M', t', fr', e', ht⟩ => by
  rw [h] at e'
  injection e' with e1
  injection e1 with _ e2
  subst e2
  exact ht.elim (by decide) (by decide)
theorem ns_made {w : World} {g : Nat} {us : List Int} (h : w.heap[g]? = some (.cells (us.map (Value.int .i64)).toArray 3 (0, 0))) (hb : ∀ x ∈ us, -9223372036854775808 ≤ x ∧ x ≤ 9223372036854775807) (hl : us.length ≤ 1000) : Ns w (some ⟨g, 0, none⟩) us.length us.length us :=
  ⟨⟨by simp, Nat.le_refl _, by omega, fun h => (by cases h), fun a ha j u hu => by
    obtain rfl := Option.some.inj ha
    rw [add_none, Nat.zero_add, cell_of_row _ _ _ _ _ _ h, ← Array.getElem?_toList]
    exact hu⟩, rfl, hb⟩
set_option maxRecDepth 100000 in
set_option maxHeartbeats 6400000 in
theorem law_opens (p : Option Addr) (n c : Nat) (l : List UInt8) (file : Int) (fz : Nat) (hfz : fz < 256) (w : World) (hE : Rdr.EType w) (hB : Bs w p n c l) :
    Calls Tryd.prog 4 #[.slice p n c, .int .i64 file, .int .u8 (fz : Int)] w fun e w' => e = .returned (.bool true) ∧ Below w.heap.size w w' := by
  have HE := Lib.hid hE
  have HB := Lib.hid hB
  have HLN := Lib.hid hB.length
  have hle := hB.le
  have hmax := hB.max
  have HB0 : Hid (Below w.heap.size w w) := Below.refl _ _
  clear hE hB
  by_cases hbig : 1000 < n
  · have hd : decide ((1000 : Int) < (n : Int)) = true := decide_eq_true (by omega)
    go_enter Tryd.func4, Tryd.ntmps4
    go_wp2_with fail
    refine (alive20_any _ (HE.out.below (HB0.out) HE.out.lt)).mono ?_
    rintro e w99 ⟨rfl, hb99⟩
    have HB99 : Hid (Below w.heap.size w w99) := Below.trans (HB0.out) (hb99.mono (Below.size (HB0.out)))
    clear hb99
    go_wp2_with fail
    go_ret
    exact ⟨rfl, HB99.out⟩
  have hd : decide ((1000 : Int) < (n : Int)) = false := decide_eq_false (by omega)
  have HN : Hid (Calls Tryd.prog 8 #[.int .i64 65536] w fun e w' => ∃ db, e = .returned (.tuple #[.pointer (some ⟨db, 0, none⟩), .int .i64 0]) ∧ DX w.heap.size db (DD.new 65536) w' ∧ Below w.heap.size w w') := xnew 65536 w (by omega)
  go_enter Tryd.func4, Tryd.ntmps4
  go_wp2_with fail
  refine HN.out.mono ?_
  rintro e w1 ⟨db, rfl, hd1, hb1⟩
  rw [new_dI 65536 2] at hd1
  have HD1 := Lib.hid hd1
  have HB1 := Lib.hid hb1
  clear hd1 hb1 HN
  obtain ⟨q1, q2, q3, q4⟩ := put_zero 65536 2 (by omega) l (by rw [HLN.out]; omega)
  have hap := xappend w1 HD1.out 2 (by omega) p n c l (HB.out.below HB1.out) (by omega) (few_dI _ _ _ _ (by omega) _)
  rw [fD_dI _ _ _ _ (by omega), q1, q2] at hap
  have HAP := Lib.hid hap
  have HQ3 := Lib.hid q3
  have HQ4 := Lib.hid q4
  clear hap q1 q2 q3 q4
  go_wp2_with fail
  refine HAP.out.mono ?_
  rintro e w2 ⟨rfl, hd2, hk2⟩
  have HB2 := Lib.hid (HB1.out.trans (hk2.below HB1.out.size))
  have hsy := xsync w2 hd2 2 (by omega)
  rw [fD_dI _ _ _ _ (by omega), HQ3.out, HQ4.out] at hsy
  have HSY := Lib.hid hsy
  clear hsy hd2 hk2 HAP HQ3 HQ4
  go_wp2_with fail
  refine HSY.out.mono ?_
  rintro e w3 ⟨rfl, hd3, hk3⟩
  have HD3 := Lib.hid hd3
  have HB3 := Lib.hid (HB2.out.trans (hk3.below HB2.out.size))
  clear hd3 hk3 HSY
  have HSC := Lib.hid (Frm.rscanO_any p n c l w3 (HB.out.below HB3.out) (by omega))
  go_wp2_with fail
  refine HSC.out.mono ?_
  rintro e w4 ⟨v4, rfl, hl4, hb4⟩
  obtain ⟨p4, c4, rfl, -⟩ := hl4.ls.sl
  have HL4 := Lib.hid hl4
  have HD4 := Lib.hid (HD3.out.below hb4)
  have HB4 := Lib.hid (HB3.out.trans (hb4.mono HB3.out.size))
  clear hl4 hb4 HSC HD3
  have har := xarm w4 HD4.out ((fz : Int) % 4) (by omega)
  have HAR := Lib.hid har
  clear har
  go_wp2_with fail
  refine HAR.out.mono ?_
  rintro e w5 ⟨rfl, hd5, hk5⟩
  have hd5 : DX w.heap.size db (dI 65536 ((fz : Int) % 4).toNat false 2 (fS l)) w5 := hd5
  have HB5 := Lib.hid (HB4.out.trans (hk5.below HB4.out.size))
  have HL5 := Lib.hid (hk5.lsO HL4.out)
  have ho := open_any w5 (HE.out.below HB5.out HE.out.lt) hd5 (i := 2) (by omega) (few_dI _ _ _ _ (by omega) _)
  have hoc := fun us => opn_crash us 65536 ((fz : Int) % 4).toNat 2 (by omega) l (by rw [HLN.out]; omega)
  have hoo := (hoc []).1
  have HCY := Lib.hid (fun us => (hoc us).2)
  have HO := Lib.hid ho
  have HOO := Lib.hid hoo
  clear hd5 hk5 ho hoc hoo HAR HD4 HL4
  go_wp2_with fail
  refine HO.out.mono ?_
  rintro e w6 ⟨hd6, hk6, hs6⟩
  generalize opnD (dI 65536 ((fz : Int) % 4).toNat false 2 (fS l)) 2 = DO at *
  generalize opnE (dI 65536 ((fz : Int) % 4).toNat false 2 (fS l)) 2 = EO at *
  have HD6 := Lib.hid hd6
  have HB6 := Lib.hid (HB5.out.trans (hk6.below HB5.out.size))
  have HL6 := Lib.hid (hk6.lsO HL5.out)
  rcases hs6 with ⟨hz, rb6, rfl, hr6⟩ | ⟨hz, rfl⟩
  · have hsc : scan (fD DO 2).now = scan l := by
      rcases HOO.out with h | h
      · exact h.2
      · rw [hz] at h; exact absurd h (by decide)
    have hbo := bodies_any w6 (HE.out.below HB6.out HE.out.lt) hd6 hr6 (by omega)
    unfold BodP at hbo
    rw [hsc] at hbo
    have HBO := Lib.hid hbo
    clear hsc hbo hd6 hk6 hr6 HO HOO HL5 hz
    go_wp2_with fail
    refine HBO.out.mono ?_
    rintro e v7 ⟨p7, c7, rfl, hl7, hb7⟩
    have HBv7 := Lib.hid (HB6.out.trans (hb7.mono HB6.out.size))
    obtain ⟨_, _, e7, hp7⟩ := hl7.ls.sl
    cases e7
    have hl47 := HL6.out.below hb7
    have HLv7 := Lib.hid hl47
    obtain ⟨_, _, e4, hp4⟩ := hl47.ls.sl
    cases e4
    have HDv7 := Lib.hid (HD6.out.below hb7)
    have HSM := Lib.hid (Frm.same_any _ _ _ _ _ _ _ _ _ hp7 hp4)
    clear hl7 hb7 hp7 hp4 hl47 HBO HL6 HD6
    go_wp2_with fail
    refine HSM.out.mono ?_
    rintro e v8 ⟨rfl, hb8⟩
    rw [beq_self_eq_true]
    have HBC := Lib.hid (HBv7.out.trans (hb8.mono HBv7.out.size))
    have HDC := Lib.hid (HDv7.out.below hb8)
    have HLC := Lib.hid (HLv7.out.below hb8)
    clear hb8 HSM HDv7 HLv7
    skip
    -- from the crash on: world v8, disk DC, its list of frames kept in HLC
    have hal : Below v8.heap.size v8 (v8.alloc (.cells #[.int .i64 0, .int .i64 0, .int .i64 ((fz : Int) / 4)] 3)) := Below.allocs _ _
    have hrow := heap_alloc_last v8 (.cells #[.int .i64 0, .int .i64 0, .int .i64 ((fz : Int) / 4)] 3)
    have hsz : (v8.alloc (.cells #[.int .i64 0, .int .i64 0, .int .i64 ((fz : Int) / 4)] 3)).heap.size = v8.heap.size + 1 := by simp
    have hns : Ns (v8.alloc (.cells #[.int .i64 0, .int .i64 0, .int .i64 ((fz : Int) / 4)] 3)) (some ⟨v8.heap.size, 0, none⟩) 3 3 [0, 0, (fz : Int) / 4] := ns_made (us := [0, 0, (fz : Int) / 4]) hrow (by intro x hx; simp at hx; omega) (by simp)
    have hcr := xcrash _ (HDC.out.below hal) [0, 0, (fz : Int) / 4] _ 3 hns (fun a ha => by
      cases ha
      exact ⟨no_ints hrow, by rw [hsz]; show v8.heap.size < _; omega⟩)
    have hdl := HLC.out.below hal
    have hbl := HBC.out.trans (hal.mono HBC.out.size)
    have HCR := Lib.hid hcr
    have HLW := Lib.hid hdl
    have HBW := Lib.hid hbl
    clear hal hrow hsz hns hcr hdl hbl HDC HLC HBC
    go_upto_region 15 with fail
    go_wp2_with fail
    refine HCR.out.mono ?_
    rintro e w7 ⟨rfl, hd7, hk7⟩
    obtain ⟨y, hy1, hy2, hy3⟩ := HCY.out [0, 0, (fz : Int) / 4]
    rw [hy3] at hd7
    have HB7 := Lib.hid (HBW.out.trans (hk7.below HBW.out.size))
    have HL7 := Lib.hid (hk7.lsO HLW.out)
    have ho := open_any w7 (HE.out.below HB7.out HE.out.lt) hd7 (i := 2) (by omega) (few_dI _ _ _ _ (by omega) _)
    obtain ⟨o1, z, o2, o3, _⟩ := opn_again 65536 2 (by omega) y hy1
    have HO := Lib.hid ho
    have HO1 := Lib.hid o1
    have HO2 := Lib.hid o2
    have HZ := Lib.hid (o3.trans hy2)
    clear hd7 hk7 ho o1 o2 o3 hy1 hy2 hy3 HCY HCR HBW HLW
    go_wp2_with fail
    refine HO.out.mono ?_
    rintro e w8 ⟨hd8, hk8, hs8⟩
    rw [HO1.out] at hs8
    rw [HO2.out] at hd8
    rcases hs8 with ⟨_, rb8, rfl, hr8⟩ | ⟨hc, _⟩
    rotate_left
    · exact absurd rfl hc
    have HB8 := Lib.hid (HB7.out.trans (hk8.below HB7.out.size))
    have HL8 := Lib.hid (hk8.lsO HL7.out)
    have HD8 := Lib.hid hd8
    have hbo := bodies_any w8 (HE.out.below HB8.out HE.out.lt) hd8 hr8 (by omega)
    rw [fD_dI _ _ _ _ (by omega)] at hbo
    unfold BodP at hbo
    rw [show (fS z).now = z from rfl, HZ.out] at hbo
    have HBO := Lib.hid hbo
    clear hd8 hk8 hr8 hbo HO HO1 HO2 HL7
    go_wp2_with fail
    refine HBO.out.mono ?_
    rintro e w9 ⟨p9, c9, rfl, hl9, hb9⟩
    have HB9 := Lib.hid (HB8.out.trans (hb9.mono HB8.out.size))
    obtain ⟨_, _, e9, hp9⟩ := hl9.ls.sl
    cases e9
    obtain ⟨_, _, e4, hp4⟩ := (HL8.out.below hb9).ls.sl
    cases e4
    have HD9 := Lib.hid (HD8.out.below hb9)
    have HSM := Lib.hid (Frm.same_any _ _ _ _ _ _ _ _ _ hp9 hp4)
    clear hl9 hb9 hp9 hp4 HBO HL8 HD8
    go_wp2_with fail
    refine HSM.out.mono ?_
    rintro e w10 ⟨rfl, hb10⟩
    rw [beq_self_eq_true]
    have HB10 := Lib.hid (HB9.out.trans (hb10.mono HB9.out.size))
    have HD10 := Lib.hid (HD9.out.below hb10)
    clear hb10 HSM HD9
    by_cases hf0 : file < 0
    · have f1 : decide (file < 0) = true := decide_eq_true hf0
      have HOB := Lib.hid (open_bad w10 HD10.out file (.inl hf0))
      clear hf0
      go_wp2_with fail
      refine HOB.out.mono ?_
      rintro e w' ⟨rfl, hw⟩
      subst hw
      go_wp2_with fail
      refine (alive20_any _ (HE.out.below (HB10.out) HE.out.lt)).mono ?_
      rintro e w99 ⟨rfl, hb99⟩
      have HB99 : Hid (Below w.heap.size w w99) := Below.trans (HB10.out) (hb99.mono (Below.size (HB10.out)))
      clear hb99
      go_wp2_with fail
      go_ret
      exact ⟨rfl, HB99.out⟩
    · have f1 : decide (file < 0) = false := decide_eq_false hf0
      by_cases hf3 : 3 ≤ file
      · have f2 : decide (3 ≤ file) = true := decide_eq_true hf3
        have HOB := Lib.hid (open_bad w10 HD10.out file (.inr hf3))
        clear hf0 hf3
        go_wp2_with fail
        refine HOB.out.mono ?_
        rintro e w' ⟨rfl, hw⟩
        subst hw
        go_wp2_with fail
        refine (alive20_any _ (HE.out.below (HB10.out) HE.out.lt)).mono ?_
        rintro e w99 ⟨rfl, hb99⟩
        have HB99 : Hid (Below w.heap.size w w99) := Below.trans (HB10.out) (hb99.mono (Below.size (HB10.out)))
        clear hb99
        go_wp2_with fail
        go_ret
        exact ⟨rfl, HB99.out⟩
      · have f2 : decide (3 ≤ file) = false := decide_eq_false hf3
        clear hf0 hf3
        go_wp2_with fail
        refine (alive20_any _ (HE.out.below (HB10.out) HE.out.lt)).mono ?_
        rintro e w99 ⟨rfl, hb99⟩
        have HB99 : Hid (Below w.heap.size w w99) := Below.trans (HB10.out) (hb99.mono (Below.size (HB10.out)))
        clear hb99
        go_wp2_with fail
        go_ret
        exact ⟨rfl, HB99.out⟩
  · have he : EO = 18 := by
      rcases HOO.out with h | h
      · exact absurd h.1 hz
      · exact h
    subst he
    have HBC := HB6
    have HDC := HD6
    have HLC := HL6
    clear hd6 hk6 HO HOO HL5 hz HL6 HD6
    skip
    -- from the crash on: world w6, disk DC, its list of frames kept in HLC
    have hal : Below w6.heap.size w6 (w6.alloc (.cells #[.int .i64 0, .int .i64 0, .int .i64 ((fz : Int) / 4)] 3)) := Below.allocs _ _
    have hrow := heap_alloc_last w6 (.cells #[.int .i64 0, .int .i64 0, .int .i64 ((fz : Int) / 4)] 3)
    have hsz : (w6.alloc (.cells #[.int .i64 0, .int .i64 0, .int .i64 ((fz : Int) / 4)] 3)).heap.size = w6.heap.size + 1 := by simp
    have hns : Ns (w6.alloc (.cells #[.int .i64 0, .int .i64 0, .int .i64 ((fz : Int) / 4)] 3)) (some ⟨w6.heap.size, 0, none⟩) 3 3 [0, 0, (fz : Int) / 4] := ns_made (us := [0, 0, (fz : Int) / 4]) hrow (by intro x hx; simp at hx; omega) (by simp)
    have hcr := xcrash _ (HDC.out.below hal) [0, 0, (fz : Int) / 4] _ 3 hns (fun a ha => by
      cases ha
      exact ⟨no_ints hrow, by rw [hsz]; show w6.heap.size < _; omega⟩)
    have hdl := HLC.out.below hal
    have hbl := HBC.out.trans (hal.mono HBC.out.size)
    have HCR := Lib.hid hcr
    have HLW := Lib.hid hdl
    have HBW := Lib.hid hbl
    clear hal hrow hsz hns hcr hdl hbl HDC HLC HBC
    go_upto_region 15 with fail
    go_wp2_with fail
    refine HCR.out.mono ?_
    rintro e w7 ⟨rfl, hd7, hk7⟩
    obtain ⟨y, hy1, hy2, hy3⟩ := HCY.out [0, 0, (fz : Int) / 4]
    rw [hy3] at hd7
    have HB7 := Lib.hid (HBW.out.trans (hk7.below HBW.out.size))
    have HL7 := Lib.hid (hk7.lsO HLW.out)
    have ho := open_any w7 (HE.out.below HB7.out HE.out.lt) hd7 (i := 2) (by omega) (few_dI _ _ _ _ (by omega) _)
    obtain ⟨o1, z, o2, o3, _⟩ := opn_again 65536 2 (by omega) y hy1
    have HO := Lib.hid ho
    have HO1 := Lib.hid o1
    have HO2 := Lib.hid o2
    have HZ := Lib.hid (o3.trans hy2)
    clear hd7 hk7 ho o1 o2 o3 hy1 hy2 hy3 HCY HCR HBW HLW
    go_wp2_with fail
    refine HO.out.mono ?_
    rintro e w8 ⟨hd8, hk8, hs8⟩
    rw [HO1.out] at hs8
    rw [HO2.out] at hd8
    rcases hs8 with ⟨_, rb8, rfl, hr8⟩ | ⟨hc, _⟩
    rotate_left
    · exact absurd rfl hc
    have HB8 := Lib.hid (HB7.out.trans (hk8.below HB7.out.size))
    have HL8 := Lib.hid (hk8.lsO HL7.out)
    have HD8 := Lib.hid hd8
    have hbo := bodies_any w8 (HE.out.below HB8.out HE.out.lt) hd8 hr8 (by omega)
    rw [fD_dI _ _ _ _ (by omega)] at hbo
    unfold BodP at hbo
    rw [show (fS z).now = z from rfl, HZ.out] at hbo
    have HBO := Lib.hid hbo
    clear hd8 hk8 hr8 hbo HO HO1 HO2 HL7
    go_wp2_with fail
    refine HBO.out.mono ?_
    rintro e w9 ⟨p9, c9, rfl, hl9, hb9⟩
    have HB9 := Lib.hid (HB8.out.trans (hb9.mono HB8.out.size))
    obtain ⟨_, _, e9, hp9⟩ := hl9.ls.sl
    cases e9
    obtain ⟨_, _, e4, hp4⟩ := (HL8.out.below hb9).ls.sl
    cases e4
    have HD9 := Lib.hid (HD8.out.below hb9)
    have HSM := Lib.hid (Frm.same_any _ _ _ _ _ _ _ _ _ hp9 hp4)
    clear hl9 hb9 hp9 hp4 HBO HL8 HD8
    go_wp2_with fail
    refine HSM.out.mono ?_
    rintro e w10 ⟨rfl, hb10⟩
    rw [beq_self_eq_true]
    have HB10 := Lib.hid (HB9.out.trans (hb10.mono HB9.out.size))
    have HD10 := Lib.hid (HD9.out.below hb10)
    clear hb10 HSM HD9
    by_cases hf0 : file < 0
    · have f1 : decide (file < 0) = true := decide_eq_true hf0
      have HOB := Lib.hid (open_bad w10 HD10.out file (.inl hf0))
      clear hf0
      go_wp2_with fail
      refine HOB.out.mono ?_
      rintro e w' ⟨rfl, hw⟩
      subst hw
      go_wp2_with fail
      refine (alive20_any _ (HE.out.below (HB10.out) HE.out.lt)).mono ?_
      rintro e w99 ⟨rfl, hb99⟩
      have HB99 : Hid (Below w.heap.size w w99) := Below.trans (HB10.out) (hb99.mono (Below.size (HB10.out)))
      clear hb99
      go_wp2_with fail
      go_ret
      exact ⟨rfl, HB99.out⟩
    · have f1 : decide (file < 0) = false := decide_eq_false hf0
      by_cases hf3 : 3 ≤ file
      · have f2 : decide (3 ≤ file) = true := decide_eq_true hf3
        have HOB := Lib.hid (open_bad w10 HD10.out file (.inr hf3))
        clear hf0 hf3
        go_wp2_with fail
        refine HOB.out.mono ?_
        rintro e w' ⟨rfl, hw⟩
        subst hw
        go_wp2_with fail
        refine (alive20_any _ (HE.out.below (HB10.out) HE.out.lt)).mono ?_
        rintro e w99 ⟨rfl, hb99⟩
        have HB99 : Hid (Below w.heap.size w w99) := Below.trans (HB10.out) (hb99.mono (Below.size (HB10.out)))
        clear hb99
        go_wp2_with fail
        go_ret
        exact ⟨rfl, HB99.out⟩
      · have f2 : decide (3 ≤ file) = false := decide_eq_false hf3
        clear hf0 hf3
        go_wp2_with fail
        refine (alive20_any _ (HE.out.below (HB10.out) HE.out.lt)).mono ?_
        rintro e w99 ⟨rfl, hb99⟩
        have HB99 : Hid (Below w.heap.size w w99) := Below.trans (HB10.out) (hb99.mono (Below.size (HB10.out)))
        clear hb99
        go_wp2_with fail
        go_ret
        exact ⟨rfl, HB99.out⟩
end Go.Proofs.YtkacmgfehmjijaaDoor.Rol
