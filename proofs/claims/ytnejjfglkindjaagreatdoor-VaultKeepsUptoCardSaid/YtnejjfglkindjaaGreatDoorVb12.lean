/- PARTS, JOINED: PLAIN PART OF THE VAULT LAWS: how disk, slots and vault stand together, and what a crash leaves of them. Conditions: at most 1100 bytes and calls. PLAIN PART OF THE VAULT LAWS: a snapshot taken, and what a crash leaves. Conditions: at most 1100 bytes and calls. PLAIN PART OF THE VAULT LAWS: room stays; without a fuse no disk goes down; the count of steps. Conditions: none. LAYER 22: seen: a vault's snapshot and records, as strings. Conditions: at most 100000 records of 1000000 bytes. LAYER 22: same: are both the same? Conditions: none. THE CALLS OF A STATEMENT ON VAULTS, as they lie in memory; are there not too many? Conditions: a sum that fits. LAYER 22: VaultKeeps: what stands at the loop's head. Conditions: none. -/
import Derived.Test.YtnejjfglkindjaaGreatDoorVb1
import Derived.Test.YtnejjfglkindjaaGreatDoorVb2
import Derived.Test.YtnejjfglkindjaaGreatDoorVb3
import Derived.Test.YtnejjfglkindjaaGreatDoorVb4
import Derived.Test.YtnejjfglkindjaaGreatDoorVb5
import Derived.Test.YtnejjfglkindjaaGreatDoorVb6
import Derived.Test.YtnejjfglkindjaaGreatDoorVb7
import Derived.Test.YtnejjfglkindjaaGreatDoorVb8
import Derived.Test.YtnejjfglkindjaaGreatDoorVb9
import Derived.Test.YtnejjfglkindjaaGreatDoorVb10
import Derived.Test.YtnejjfglkindjaaGreatDoorVb11
namespace Go.Proofs.YtnejjfglkindjaaGreatDoor.Vlt
open Go.RowKit Go.Mir Dk Rol Wr Slt
open Frm (frame scan frame_length)

/-- the log holds x, the slots' files y1 and y2: of them s and v are told -/
structure Vd (d : DD) (x y1 y2 : List UInt8) (s : SS) (v : VS) (n : Nat) : Prop where
  m3 : d.fs.length = 3
  f0 : fD d 0 = fS x
  f1 : fD d 1 = fS y1
  f2 : fD d 2 = fS y2
  cur : Cur y1 y2 s
  fill : fillV s (scan x).1 = some v
  turn : s.turn ≤ n
  last : v.last ≤ n
  len : x.length ≤ 24 * n
  l1 : y1.length ≤ 2000
  l2 : y2.length ≤ 2000
  bl : v.body.length ≤ 2000
  al : v.after.length ≤ n
  ax : ∀ r ∈ v.after, r.length ≤ 2000
theorem Vd.more {d : DD} {x y1 y2 : List UInt8} {s : SS} {v : VS} {n m : Nat} (h : Vd d x y1 y2 s v n) (hm : n ≤ m) : Vd d x y1 y2 s v m :=
  ⟨h.m3, h.f0, h.f1, h.f2, h.cur, h.fill, Nat.le_trans h.turn hm, Nat.le_trans h.last hm, by have := h.len; omega, h.l1, h.l2, h.bl, Nat.le_trans h.al hm, h.ax⟩
theorem Vd.wF {d : DD} {x y1 y2 : List UInt8} {s : SS} {v : VS} {n : Nat} (h : Vd d x y1 y2 s v n) (k : Nat) (b : Bool) : Vd (wF d k b) x y1 y2 s v n :=
  ⟨h.m3, h.f0, h.f1, h.f2, h.cur, h.fill, h.turn, h.last, h.len, h.l1, h.l2, h.bl, h.al, h.ax⟩
theorem Vd.used {d : DD} {x y1 y2 : List UInt8} {s : SS} {v : VS} {n : Nat} (h : Vd d x y1 y2 s v n) : usedL d.fs = x.length + y1.length + y2.length := by
  rw [used3 h.m3, h.f0, h.f1, h.f2]; rfl
theorem Vd.frames {d : DD} {x y1 y2 : List UInt8} {s : SS} {v : VS} {n : Nat} (_h : Vd d x y1 y2 s v n) (hs : (scan x).2 = x.length) : x = (scan x).1.flatMap frame ∧ ∀ b ∈ (scan x).1, 1 ≤ b.length ∧ b.length ≤ 65536 := by
  obtain ⟨_, a, b⟩ := scan_len _ x (Nat.le_refl _)
  rw [hs, List.take_length] at a
  exact ⟨a, b⟩
theorem crash_m3 {d : DD} (h : d.fs.length = 3) (us : List Int) : (crashD us d).fs.length = 3 := by
  obtain ⟨fs, room, fuse, down⟩ := d
  obtain ⟨a, b, c, rfl⟩ := list3 h
  rfl
/-- files turned: the same told -/
theorem Vd.at {d d' : DD} {x y1 y2 x' : List UInt8} {s : SS} {v : VS} {n : Nat} (h : Vd d x y1 y2 s v n) (m : d'.fs.length = 3) (e0 : fD d' 0 = fS x') (e1 : fD d' 1 = fS y1) (e2 : fD d' 2 = fS y2) (hl : x'.length ≤ 24 * n) (hf : fillV s (scan x').1 = some v) : Vd d' x' y1 y2 s v n :=
  ⟨m, e0, e1, e2, h.cur, hf, h.turn, h.last, hl, h.l1, h.l2, h.bl, h.al, h.ax⟩
theorem Vd.crash {d : DD} {x y1 y2 : List UInt8} {s : SS} {v : VS} {n : Nat} (h : Vd d x y1 y2 s v n) (us : List Int) : Vd (crashD us d) x y1 y2 s v n := by
  have e0 := fD_crash (us := us) h.m3 0 (by omega)
  have e1 := fD_crash (us := us) h.m3 1 (by omega)
  have e2 := fD_crash (us := us) h.m3 2 (by omega)
  rw [h.f0, settle_fS] at e0
  rw [h.f1, settle_fS] at e1
  rw [h.f2, settle_fS] at e2
  exact h.at (crash_m3 h.m3 us) e0 e1 e2 h.len h.fill
theorem Vd.told {d : DD} {x y1 y2 : List UInt8} {s : SS} {v : VS} {n : Nat} (h : Vd d x y1 y2 s v n) : opnS d 1 2 = s := by
  rw [opnS_is, h.f1, h.f2]
  exact h.cur.op
/-- the log alone is turned -/
theorem Vd.log {d : DD} {x y1 y2 x' : List UInt8} {s : SS} {v v' : VS} {n m : Nat} (h : Vd d x y1 y2 s v n) (hm : n ≤ m) (k : Nat) (b : Bool) (hl : x'.length ≤ 24 * m) (hf : fillV s (scan x').1 = some v') (h1 : v'.last ≤ m) (h2 : v'.body.length ≤ 2000) (h3 : v'.after.length ≤ m) (h4 : ∀ r ∈ v'.after, r.length ≤ 2000) :
    Vd (Slt.wF (setF d 0 (fS x')) k b) x' y1 y2 s v' m := by
  have hi : 0 < d.fs.length := by rw [h.m3]; omega
  exact ⟨by show (List.set _ _ _).length = 3; rw [List.length_set]; exact h.m3, by rw [fD_wF]; exact fD_set hi _, by rw [fD_wF, fD_other (by omega)]; exact h.f1, by rw [fD_wF, fD_other (by omega)]; exact h.f2, h.cur, hf, Nat.le_trans h.turn hm, h1, hl, h.l1, h.l2, h2, h3, h4⟩
/-- a crash while the log was turned -/
theorem Vd.torn {d : DD} {x y1 y2 : List UInt8} {s : SS} {v : VS} {n m : Nat} {g : FD} (h : Vd d x y1 y2 s v n) (hm : n ≤ m) (us : List Int) {x' : List UInt8} (hg : g.settle (crU us 0 g) = fS x') {v' : VS} (hl : x'.length ≤ 24 * m) (hf : fillV s (scan x').1 = some v') (h1 : v'.last ≤ m) (h2 : v'.body.length ≤ 2000) (h3 : v'.after.length ≤ m) (h4 : ∀ r ∈ v'.after, r.length ≤ 2000) :
    Vd (crashD us (Slt.wF (setF d 0 g) 0 true)) x' y1 y2 s v' m := by
  have hi : 0 < d.fs.length := by rw [h.m3]; omega
  have hm3 : (Slt.wF (setF d 0 g) 0 true).fs.length = 3 := by show (List.set _ _ _).length = 3; rw [List.length_set]; exact h.m3
  have e0 := fD_crash (us := us) hm3 0 (by omega)
  have e1 := fD_crash (us := us) hm3 1 (by omega)
  have e2 := fD_crash (us := us) hm3 2 (by omega)
  rw [fD_wF, fD_set hi, hg] at e0
  rw [fD_wF, fD_other (by omega), h.f1, settle_fS] at e1
  rw [fD_wF, fD_other (by omega), h.f2, settle_fS] at e2
  exact ⟨crash_m3 hm3 us, e0, e1, e2, h.cur, hf, Nat.le_trans h.turn hm, h1, hl, h.l1, h.l2, h2, h3, h4⟩
theorem settle_put_some (x y : List UInt8) (n u : Nat) (hu : u ≤ y.length) : (⟨x, x ++ y, [.put y], n⟩ : FD).settle u = fS (x ++ y.take u) := by
  have h : someU x [.put y] u = x ++ y.take u := by
    show (St.put y).act x (min u y.length) = _
    rw [Nat.min_eq_left (by omega)]; rfl
  show (⟨someU x [.put y] u, someU x [.put y] u, [], (someU x [.put y] u).length⟩ : FD) = _
  rw [h]; rfl
theorem settle_cut_some (x : List UInt8) (g n u : Nat) : ∃ y, (y = x ∨ y = x.take g) ∧ (⟨x, x.take g, [.cut g], n⟩ : FD).settle u = fS y := by
  refine ⟨someU x [.cut g] u, ?_, rfl⟩
  show (if min u 1 = 0 then x else x.take g) = x ∨ (if min u 1 = 0 then x else x.take g) = x.take g
  split
  · exact .inl rfl
  · exact .inr rfl
/-! ### Put -/
def PutsTo (d : DD) (y1 y2 : List UInt8) (s : SS) (v : VS) (r : List UInt8) (m : Nat) : Prop :=
  (vputE d v r = 0 ∧ vputV d v r = pushV v r ∧ (vputD d v r).down = false ∧ ∃ x', Vd (vputD d v r) x' y1 y2 s (pushV v r) m ∧ (scan x').2 = x'.length) ∨
  (vputE d v r = 18 ∧ vputV d v r = v ∧ (vputD d v r).down = true ∧ ∀ us, ∃ x' v', Vd (crashD us (vputD d v r)) x' y1 y2 s v' m ∧ (v' = v ∨ v' = pushV v r)) ∨
  (vputE d v r = 17 ∧ vputV d v r = v ∧ vputD d v r = d ∧ d.room < usedL d.fs + 16 + r.length)
theorem vput_plain {d : DD} {x y1 y2 : List UInt8} {s : SS} {v : VS} {n : Nat} {r : List UInt8} (h : Vd d x y1 y2 s v n) (hs : (scan x).2 = x.length) (hd : d.down = false) (hn : n + (1 + r.length) ≤ 1100) (hr : 1 ≤ r.length) : PutsTo d y1 y2 s v r (n + (1 + r.length)) := by
  have hla := h.last
  have hle := h.len
  have hal := h.al
  have hok : vputOk v r := ⟨hr, by omega, by omega⟩
  have hbl : (vputR v r).length = 8 + r.length := by unfold vputR; rw [List.length_append, be_length]
  have hi : 0 < d.fs.length := by rw [h.m3]; omega
  obtain ⟨hx, hall⟩ := h.frames hs
  have hfp := fill_push (r := r) h.fill hr (by omega)
  have hfr : (frame (vputR v r)).length = 16 + r.length := by rw [frame_length]; omega
  have ax' : ∀ y ∈ (pushV v r).after, y.length ≤ 2000 := fun y hy => by
    rcases List.mem_append.1 hy with hy | hy
    · exact h.ax y hy
    · rw [List.mem_singleton] at hy; subst hy; omega
  have al' : (pushV v r).after.length ≤ n + (1 + r.length) := by show (v.after ++ [r]).length ≤ _; rw [List.length_append]; show v.after.length + 1 ≤ _; omega
  have la' : (pushV v r).last ≤ n + (1 + r.length) := by show v.last + 1 ≤ _; omega
  have hsc : scan (x ++ frame (vputR v r)) = ((scan x).1 ++ [vputR v r], (x ++ frame (vputR v r)).length) := by
    have e : x ++ frame (vputR v r) = ((scan x).1 ++ [vputR v r]).flatMap frame := by
      rw [List.flatMap_append, ← hx]; simp
    rw [e]
    exact scan_all _ (fun y hy => by
      rcases List.mem_append.1 hy with hy | hy
      · exact hall y hy
      · rw [List.mem_singleton] at hy; subst hy; omega)
  have hxl : (x ++ frame (vputR v r)).length ≤ 24 * (n + (1 + r.length)) := by rw [List.length_append]; omega
  unfold PutsTo vputE vputD vputV
  rw [if_pos hok, if_pos hok]
  rcases app3 (b := vputR v r) hi hd h.f0 (by omega) with ⟨e1, k, e2⟩ | ⟨e1, e2⟩ | ⟨e1, e2, e3⟩
  · refine .inl ⟨e1, if_pos ⟨hok, e1⟩, by rw [e2]; rfl, x ++ frame (vputR v r), ?_, ?_⟩
    · rw [e2]
      exact h.log (by omega) k false hxl (by rw [hsc]; exact hfp) la' h.bl al' ax'
    · rw [hsc]
  · have hne : ¬ (vputOk v r ∧ appE d 0 (vputR v r) = 0) := fun hh => by rw [e1] at hh; exact absurd hh.2 (by decide)
    refine .inr (.inl ⟨e1, if_neg hne, by rw [e2]; rfl, fun us => ?_⟩)
    rw [e2]
    have hu : crU us 0 ⟨x, x ++ frame (vputR v r), [.put (frame (vputR v r))], x.length + (frame (vputR v r)).length⟩ ≤ (frame (vputR v r)).length := crU_le (us := us) (k := 0) (f := ⟨x, x ++ frame (vputR v r), [.put (frame (vputR v r))], x.length + (frame (vputR v r)).length⟩)
    have hg := settle_put_some x (frame (vputR v r)) (x.length + (frame (vputR v r)).length) _ hu
    have hsm := scan_more (scan x).1 hall (vputR v r) (by omega) (by omega) _ hu
    rw [← hx] at hsm
    have hyl : (x ++ (frame (vputR v r)).take (crU us 0 ⟨x, x ++ frame (vputR v r), [.put (frame (vputR v r))], x.length + (frame (vputR v r)).length⟩)).length ≤ 24 * (n + (1 + r.length)) := by
      rw [List.length_append, List.length_take]; omega
    rcases hsm with e | e
    · exact ⟨_, v, h.torn (by omega) us hg hyl (by rw [e]; exact h.fill) (by omega) h.bl (by omega) h.ax, .inl rfl⟩
    · exact ⟨_, _, h.torn (by omega) us hg hyl (by rw [e]; exact hfp) la' h.bl al' ax', .inr rfl⟩
  · have hne : ¬ (vputOk v r ∧ appE d 0 (vputR v r) = 0) := fun hh => by rw [e1] at hh; exact absurd hh.2 (by decide)
    exact .inr (.inr ⟨e1, if_neg hne, e2, by omega⟩)
/-- a record that is none, or put on a disk that is down -/
theorem vput_no {d : DD} {v : VS} {r : List UInt8} (h : r.length = 0 ∨ d.down = true) : vputD d v r = d ∧ vputV d v r = v ∧ vputE d v r ≠ 0 := by
  unfold vputE vputD vputV
  by_cases hok : vputOk v r
  · rcases h with h | h
    · have := hok.1; omega
    · have hbl : (vputR v r).length = 8 + r.length := by unfold vputR; rw [List.length_append, be_length]
      obtain ⟨e1, e2⟩ := app_down 0 (vputR v r) (by omega) h
      have hne : ¬ (vputOk v r ∧ appE d 0 (vputR v r) = 0) := fun hh => by rw [e1] at hh; exact absurd hh.2 (by decide)
      rw [if_pos hok, if_pos hok, if_neg hne, e1]
      exact ⟨e2, rfl, by decide⟩
  · rw [if_neg hok, if_neg hok, if_neg (fun hh => hok hh.1)]
    exact ⟨rfl, rfl, by decide⟩
/-! ### Open -/
theorem vopen_plain {d : DD} {x y1 y2 : List UInt8} {s : SS} {v : VS} {n : Nat} (h : Vd d x y1 y2 s v n) (hd : d.down = false) (hu : usedL d.fs ≤ d.room) :
    vopF d = some v ∧ opnS d 1 2 = s ∧ ((opnE d 0 = 0 ∧ (opnD d 0).down = false ∧ (d.fuse = 0 → (opnD d 0).fuse = 0) ∧ ∃ x', Vd (opnD d 0) x' y1 y2 s v n ∧ (scan x').2 = x'.length) ∨ (opnE d 0 = 18 ∧ d.fuse ≠ 0 ∧ (opnD d 0).down = true ∧ ∀ us, ∃ x', Vd (crashD us (opnD d 0)) x' y1 y2 s v n)) := by
  have hi : 0 < d.fs.length := by rw [h.m3]; omega
  have hle := h.len
  have hsl := scan_le x
  have hst := scan_take x
  have hl2 : (x.take (scan x).2).length = (scan x).2 := by rw [List.length_take, Nat.min_eq_left hsl]
  have hf2 : fillV s (scan (x.take (scan x).2)).1 = some v := by rw [hst]; exact h.fill
  unfold vopF
  rw [h.told]
  unfold opnE opnD
  rw [if_neg (by rw [hd]; decide), if_neg (by rw [hd]; decide)]
  rcases mend3 hi hd h.f0 hu with ⟨e1, k, e2, e3⟩ | ⟨e1, e2, e3⟩
  · rw [e2]
    refine ⟨?_, rfl, .inl ⟨e1, rfl, e3, x.take (scan x).2, ?_, by rw [hst, hl2]⟩⟩
    · rw [fD_wF, fD_set hi]
      exact hf2
    · exact h.log (Nat.le_refl _) k false (by omega) hf2 h.last h.bl h.al h.ax
  · rw [e2]
    refine ⟨?_, rfl, .inr ⟨e1, e3, rfl, fun us => ?_⟩⟩
    · rw [fD_wF, fD_set hi]
      exact hf2
    · obtain ⟨y, hy, hg⟩ := settle_cut_some x (scan x).2 x.length (crU us 0 ⟨x, x.take (scan x).2, [.cut (scan x).2], x.length⟩)
      rcases hy with rfl | rfl
      · exact ⟨_, h.torn (Nat.le_refl _) us hg hle h.fill h.last h.bl h.al h.ax⟩
      · exact ⟨_, h.torn (Nat.le_refl _) us hg (by omega) hf2 h.last h.bl h.al h.ax⟩
/-- a disk made anew -/
theorem vd_new (room : Nat) : Vd (DD.new room) [] [] [] ⟨-1, 0, []⟩ VS.zero 0 ∧ (scan []).2 = ([] : List UInt8).length :=
  ⟨⟨rfl, rfl, rfl, rfl, ⟨.inl ⟨rfl, rfl, rfl⟩⟩, by kernel_rfl, Nat.le_refl _, Nat.le_refl _, Nat.zero_le _, Nat.zero_le _, Nat.zero_le _, Nat.zero_le _, Nat.le_refl _, fun _ h => (nomatch h)⟩, by decide +kernel⟩
end Go.Proofs.YtnejjfglkindjaaGreatDoor.Vlt

namespace Go.Proofs.YtnejjfglkindjaaGreatDoor.Vlt
open Go.RowKit Go.Mir Dk Rol Wr Slt
open Frm (frame scan frame_length)

def CurAt (nx : Nat) (y1 y2 z : List UInt8) (s : SS) : Prop := (nx = 1 ∧ Cur z y2 s) ∨ (nx = 2 ∧ Cur y1 z s)
theorem Vd.slot {d : DD} {x y1 y2 z : List UInt8} {s s' : SS} {v v' : VS} {n m nx : Nat} (h : Vd d x y1 y2 s v n) (hm : n ≤ m) (k : Nat) (b : Bool) (hc : CurAt nx y1 y2 z s') (hz : z.length ≤ 2000) (hf : fillV s' (scan x).1 = some v') (ht : s'.turn ≤ m) (h1 : v'.last ≤ m) (h2 : v'.body.length ≤ 2000) (h3 : v'.after.length ≤ m) (h4 : ∀ r ∈ v'.after, r.length ≤ 2000) :
    ∃ z1 z2, Vd (Slt.wF (setF d nx (fS z)) k b) x z1 z2 s' v' m := by
  have hle := h.len
  rcases hc with ⟨rfl, hc⟩ | ⟨rfl, hc⟩
  · have hi : 1 < d.fs.length := by rw [h.m3]; omega
    exact ⟨z, y2, by show (List.set _ _ _).length = 3; rw [List.length_set]; exact h.m3, by rw [fD_wF, fD_other (by omega)]; exact h.f0, by rw [fD_wF]; exact fD_set hi _, by rw [fD_wF, fD_other (by omega)]; exact h.f2, hc, hf, ht, h1, by omega, hz, h.l2, h2, h3, h4⟩
  · have hi : 2 < d.fs.length := by rw [h.m3]; omega
    exact ⟨y1, z, by show (List.set _ _ _).length = 3; rw [List.length_set]; exact h.m3, by rw [fD_wF, fD_other (by omega)]; exact h.f0, by rw [fD_wF, fD_other (by omega)]; exact h.f1, by rw [fD_wF]; exact fD_set hi _, hc, hf, ht, h1, by omega, h.l1, hz, h2, h3, h4⟩
theorem Vd.slotTorn {d : DD} {x y1 y2 z : List UInt8} {s s' : SS} {v v' : VS} {n m nx : Nat} {g : FD} (h : Vd d x y1 y2 s v n) (hm : n ≤ m) (us : List Int) (hg : g.settle (crU us nx g) = fS z) (hc : CurAt nx y1 y2 z s') (hz : z.length ≤ 2000) (hf : fillV s' (scan x).1 = some v') (ht : s'.turn ≤ m) (h1 : v'.last ≤ m) (h2 : v'.body.length ≤ 2000) (h3 : v'.after.length ≤ m) (h4 : ∀ r ∈ v'.after, r.length ≤ 2000) :
    ∃ z1 z2, Vd (crashD us (Slt.wF (setF d nx g) 0 true)) x z1 z2 s' v' m := by
  have hle := h.len
  have hm3 : (Slt.wF (setF d nx g) 0 true).fs.length = 3 := by show (List.set _ _ _).length = 3; rw [List.length_set]; exact h.m3
  have e0 := fD_crash (us := us) hm3 0 (by omega)
  have e1 := fD_crash (us := us) hm3 1 (by omega)
  have e2 := fD_crash (us := us) hm3 2 (by omega)
  rcases hc with ⟨rfl, hc⟩ | ⟨rfl, hc⟩
  · have hi : 1 < d.fs.length := by rw [h.m3]; omega
    rw [fD_wF, fD_other (by omega), h.f0, settle_fS] at e0
    rw [fD_wF, fD_set hi, hg] at e1
    rw [fD_wF, fD_other (by omega), h.f2, settle_fS] at e2
    exact ⟨z, y2, crash_m3 hm3 us, e0, e1, e2, hc, hf, ht, h1, by omega, hz, h.l2, h2, h3, h4⟩
  · have hi : 2 < d.fs.length := by rw [h.m3]; omega
    rw [fD_wF, fD_other (by omega), h.f0, settle_fS] at e0
    rw [fD_wF, fD_other (by omega), h.f1, settle_fS] at e1
    rw [fD_wF, fD_set hi, hg] at e2
    exact ⟨y1, z, crash_m3 hm3 us, e0, e1, e2, hc, hf, ht, h1, by omega, h.l1, hz, h2, h3, h4⟩
/-! ### Compact -/
def CompsTo (d : DD) (x : List UInt8) (s : SS) (v : VS) (c : List UInt8) (m : Nat) : Prop :=
  (vcE d s v c = 0 ∧ vcV d s v c = compV v c ∧ (vcD d s v c).down = false ∧ ∃ x' z1 z2, Vd (vcD d s v c) x' z1 z2 (vcS d s v c) (compV v c) m ∧ (scan x').2 = x'.length) ∨
  (vcE d s v c = 18 ∧ (vcV d s v c = v ∨ vcV d s v c = compV v c) ∧ (vcS d s v c).turn ≤ m ∧ (vcD d s v c).down = true ∧ ∀ us, ∃ x' z1 z2 s' v', Vd (crashD us (vcD d s v c)) x' z1 z2 s' v' m ∧ (v' = v ∨ v' = compV v c)) ∨
  (vcE d s v c = 17 ∧ vcV d s v c = v ∧ vcS d s v c = s ∧ (vcD d s v c).down = false ∧ (∃ z1 z2, Vd (vcD d s v c) x z1 z2 s v m) ∧ d.room < usedL d.fs + 24 + c.length)
theorem vcomp_plain {d : DD} {x y1 y2 : List UInt8} {s : SS} {v : VS} {n : Nat} {c : List UInt8} (h : Vd d x y1 y2 s v n) (hs : (scan x).2 = x.length) (hd : d.down = false) (hu : usedL d.fs ≤ d.room) (hn : n + (1 + c.length) ≤ 1100) : CompsTo d x s v c (n + (1 + c.length)) := by
  have hla := h.last
  have hle := h.len
  have hal := h.al
  have htn := h.turn
  have hl1 := h.l1
  have hl2 := h.l2
  have hcl : (vcR v c).length = 8 + c.length := by unfold vcR; rw [List.length_append, be_length]
  have hw := wrapB_len s (vcR v c)
  have hft : fits s (vcR v c) = true := by unfold fits; rw [decide_eq_true (by omega), decide_eq_true (by omega)]; rfl
  have h6 : c.length ≤ 60000 := by omega
  have hfc : ∀ f, fillV ⟨f, s.turn + 1, vcR v c⟩ (scan x).1 = some (compV v c) := fun f => fill_comp (fill_all h.fill) (by omega)
  have hfc0 : ∀ f, fillV ⟨f, s.turn + 1, vcR v c⟩ (scan []).1 = some (compV v c) := fun f => by
    have e : (scan []).1 = [] := by decide +kernel
    rw [e]
    exact fill_comp (fun b hb => (nomatch hb)) (by omega)
  have hcla : (compV v c).last ≤ n + (1 + c.length) := by show v.last ≤ _; omega
  have hcbl : (compV v c).body.length ≤ 2000 := by show c.length ≤ _; omega
  have hcal : (compV v c).after.length ≤ n + (1 + c.length) := Nat.zero_le _
  have hcax : ∀ r ∈ (compV v c).after, r.length ≤ 2000 := fun r hr => (nomatch hr)
  have hi : nxt s 1 2 < d.fs.length := by rcases nxt12 s with e | e <;> rw [e, h.m3] <;> omega
  have hfi : fD d (nxt s 1 2) = fS (if nxt s 1 2 = 1 then y1 else y2) := by
    rcases nxt12 s with e | e
    · rw [e]; exact h.f1
    · rw [e]; exact h.f2
  have hold : CurAt (nxt s 1 2) y1 y2 (if nxt s 1 2 = 1 then y1 else y2) s := by
    rcases nxt12 s with e | e
    · rw [e]; exact .inl ⟨rfl, h.cur⟩
    · rw [e]; exact .inr ⟨rfl, h.cur⟩
  have hyl : (if nxt s 1 2 = 1 then y1 else y2).length ≤ 2000 := by split <;> omega
  have hnil : CurAt (nxt s 1 2) y1 y2 [] s := h.cur.other [] rfl
  have hnew : CurAt (nxt s 1 2) y1 y2 (wrapB s (vcR v c)) ⟨(nxt s 1 2 : Int), s.turn + 1, vcR v c⟩ := by
    rcases h.cur.next (vcR v c) (by omega) (by omega) with ⟨e, q⟩ | ⟨e, q⟩
    · rw [e]; exact .inl ⟨rfl, q⟩
    · rw [e]; exact .inr ⟨rfl, q⟩
  have hz0 : ∀ k, k < (wrapB s (vcR v c)).length → (loadP ((wrapB s (vcR v c)).take k)).1 = 0 := fun k hk => by
    have := load_torn (s.turn + 1) (vcR v c) (by omega) k (by omega)
    unfold wrapB
    rw [this]
  generalize hY : (if nxt s 1 2 = 1 then y1 else y2) = Y at *
  have hpE : putSE d s 1 2 (vcR v c) = layE (nxt s 1 2) (acts d (nxt s 1 2) (wrapB s (vcR v c))) d := if_pos hft
  have hpD : putSD d s 1 2 (vcR v c) = layD (nxt s 1 2) (acts d (nxt s 1 2) (wrapB s (vcR v c))) d := if_pos hft
  unfold CompsTo vcE vcD vcV vcS
  rw [if_pos h6, if_pos h6, if_pos h6]
  rcases lay3 (fr := wrapB s (vcR v c)) hi hd hfi hu with ⟨k, e1, e2, hr⟩ | ⟨e1, g, hg, e2⟩ | ⟨e1, ⟨k, e2⟩, e3⟩
  · have hpS : putSS d s 1 2 (vcR v c) = ⟨(nxt s 1 2 : Int), s.turn + 1, vcR v c⟩ := if_pos ⟨hft, e1⟩
    rw [hpS, hpE, hpD, e1, e2, if_pos rfl, if_pos rfl, if_pos ⟨h6, rfl⟩]
    obtain ⟨z1, z2, hV⟩ := h.slot (m := n + (1 + c.length)) (by omega) k false hnew (by omega) (hfc _) (by show s.turn + 1 ≤ _; omega) hcla hcbl hcal hcax
    have hi0 : 0 < (Slt.wF (setF d (nxt s 1 2) (fS (wrapB s (vcR v c)))) k false).fs.length := by rw [hV.m3]; omega
    have hus := used_setF hi (fS (wrapB s (vcR v c)))
    rw [hfi] at hus
    have hus : usedL (setF d (nxt s 1 2) (fS (wrapB s (vcR v c)))).fs + Y.length = usedL d.fs + (wrapB s (vcR v c)).length := hus
    rcases clr3 (g := 0) hi0 rfl hV.f0 (Nat.zero_le _) (by show usedL (setF d (nxt s 1 2) (fS (wrapB s (vcR v c)))).fs ≤ d.room; omega) with ⟨c1, c2⟩ | ⟨c1, c2, _⟩
    · rw [c1, c2]
      refine .inl ⟨rfl, rfl, rfl, x.take 0, z1, z2, ?_, by rw [List.take_zero]; decide +kernel⟩
      exact hV.log (Nat.le_refl _) _ false (by rw [List.take_zero]; exact Nat.zero_le _) (by rw [List.take_zero]; exact hfc0 _) hcla hcbl hcal hcax
    · rw [c1, c2]
      refine .inr (.inl ⟨rfl, .inr rfl, (show s.turn + 1 ≤ _ by omega), rfl, fun us => ?_⟩)
      obtain ⟨y, hy, hgy⟩ := settle_cut_some x 0 x.length (crU us 0 ⟨x, x.take 0, [.cut 0], x.length⟩)
      rcases hy with rfl | rfl
      · exact ⟨_, z1, z2, _, _, hV.torn (Nat.le_refl _) us hgy (by omega) (hfc _) hcla hcbl hcal hcax, .inr rfl⟩
      · exact ⟨_, z1, z2, _, _, hV.torn (Nat.le_refl _) us hgy (by rw [List.take_zero]; exact Nat.zero_le _) (by rw [List.take_zero]; exact hfc0 _) hcla hcbl hcal hcax, .inr rfl⟩
  · have hne : ¬ (18 : Int) = 0 := by decide
    have hpS : putSS d s 1 2 (vcR v c) = s := if_neg (fun hh => by rw [e1] at hh; exact hne hh.2)
    rw [hpS, hpE, hpD, e1, e2, if_neg hne, if_neg hne, if_neg (fun hh => hne hh.2)]
    refine .inr (.inl ⟨rfl, .inl rfl, (by omega), rfl, fun us => ?_⟩)
    obtain ⟨z, hz, hc⟩ := torn_settle hg _ (crU_le (us := us) (k := nxt s 1 2) (f := g))
    rcases hc with rfl | rfl | ⟨k, hk, rfl⟩
    · obtain ⟨z1, z2, hV⟩ := h.slotTorn (m := n + (1 + c.length)) (by omega) us hz hold hyl h.fill (by omega) (by omega) h.bl (by omega) h.ax
      exact ⟨_, _, _, _, _, hV, .inl rfl⟩
    · obtain ⟨z1, z2, hV⟩ := h.slotTorn (m := n + (1 + c.length)) (by omega) us hz hnil (Nat.zero_le _) h.fill (by omega) (by omega) h.bl (by omega) h.ax
      exact ⟨_, _, _, _, _, hV, .inl rfl⟩
    · have hlk : ((wrapB s (vcR v c)).take k).length ≤ 2000 := by rw [List.length_take]; omega
      by_cases hkl : k < (wrapB s (vcR v c)).length
      · obtain ⟨z1, z2, hV⟩ := h.slotTorn (m := n + (1 + c.length)) (by omega) us hz (h.cur.other _ (hz0 k hkl)) hlk h.fill (by omega) (by omega) h.bl (by omega) h.ax
        exact ⟨_, _, _, _, _, hV, .inl rfl⟩
      · have hall : (wrapB s (vcR v c)).take k = wrapB s (vcR v c) := List.take_of_length_le (by omega)
        rw [hall] at hz hlk
        obtain ⟨z1, z2, hV⟩ := h.slotTorn (m := n + (1 + c.length)) (by omega) us hz hnew hlk (hfc _) (by show s.turn + 1 ≤ _; omega) hcla hcbl hcal hcax
        exact ⟨_, _, _, _, _, hV, .inr rfl⟩
  · have hne : ¬ (17 : Int) = 0 := by decide
    have hpS : putSS d s 1 2 (vcR v c) = s := if_neg (fun hh => by rw [e1] at hh; exact hne hh.2)
    rw [hpS, hpE, hpD, e1, e2, if_neg hne, if_neg hne, if_neg (fun hh => hne hh.2)]
    obtain ⟨z1, z2, hV⟩ := h.slot (m := n + (1 + c.length)) (by omega) k false hnil (Nat.zero_le _) h.fill (by omega) (by omega) h.bl (by omega) h.ax
    exact .inr (.inr ⟨rfl, rfl, rfl, rfl, ⟨z1, z2, hV⟩, by omega⟩)
/-- a snapshot taken on a disk that is down -/
theorem vcomp_down {d : DD} {s : SS} {v : VS} {c : List UInt8} (h1 : d.down = true) (hc : c.length ≤ 60000) (ht : s.turn + 1 < 18446744073709551616) : vcD d s v c = d ∧ vcV d s v c = v ∧ vcS d s v c = s ∧ vcE d s v c = 18 := by
  have hcl : (vcR v c).length = 8 + c.length := by unfold vcR; rw [List.length_append, be_length]
  have hf : fits s (vcR v c) = true := by unfold fits; rw [decide_eq_true (by omega), decide_eq_true ht]; rfl
  obtain ⟨e1, e2⟩ := lay_dn (i := nxt s 1 2) (fr := wrapB s (vcR v c)) h1
  have hpE : putSE d s 1 2 (vcR v c) = 18 := by unfold putSE; rw [if_pos hf]; exact e1
  have hpD : putSD d s 1 2 (vcR v c) = d := by unfold putSD; rw [if_pos hf]; exact e2
  have hne : ¬ (18 : Int) = 0 := by decide
  have hpS : putSS d s 1 2 (vcR v c) = s := if_neg (fun hh => by rw [e1] at hh; exact hne hh.2)
  unfold vcE vcD vcV vcS
  rw [hpE, hpD, hpS, if_pos hc, if_pos hc, if_pos hc, if_neg hne, if_neg hne, if_neg (fun hh => hne hh.2)]
  exact ⟨rfl, rfl, rfl, rfl⟩
end Go.Proofs.YtnejjfglkindjaaGreatDoor.Vlt

namespace Go.Proofs.YtnejjfglkindjaaGreatDoor.Vlt
open Go.RowKit Go.Mir Dk Rol Wr Slt
open Frm (frame scan frame_length)

theorem burn_room (d : DD) : d.burn.room = d.room := by unfold DD.burn; split <;> rfl
theorem doD_room (d : DD) (i : Nat) (f : FD) (s : St) : (doD d i f s).room = d.room := by
  unfold doD
  split
  · rfl
  · split
    · rfl
    · rw [burn_room]; rfl
theorem syncD_room (d : DD) (i : Nat) (f : FD) : (syncD d i f).room = d.room := by
  unfold syncD
  split
  · rfl
  · split
    · exact burn_room d
    · show d.burn.room = d.room; exact burn_room d
theorem appD_room (d : DD) (i : Nat) (b : List UInt8) : (appD d i b).room = d.room := by
  unfold appD
  split
  · rfl
  · split
    · rw [syncD_room, doD_room]
    · rw [doD_room]
theorem clrD_room (d : DD) (i m : Nat) : (clrD d i m).room = d.room := by
  unfold clrD
  split
  · rw [syncD_room, doD_room]
  · rw [doD_room]
theorem endD_room (d : DD) (i : Nat) : (endD d i).room = d.room := by
  unfold endD
  split
  · rfl
  · rw [syncD_room]
theorem mendD_room (d : DD) (i : Nat) : (mendD d i).room = d.room := by
  unfold mendD
  split
  · split
    · rw [endD_room, doD_room]
    · rw [doD_room]
  · rw [endD_room]
theorem opnD_room (d : DD) (i : Nat) : (opnD d i).room = d.room := by
  unfold opnD
  split
  · rfl
  · exact mendD_room d i
theorem stpD_room (d : DD) (i : Nat) (a : LA) : (stpD d i a).room = d.room := by
  cases a with
  | cut => exact doD_room _ _ _ _
  | sync => exact syncD_room _ _ _
  | put b => exact doD_room _ _ _ _
theorem layD_room (i : Nat) : ∀ (l : List LA) (d : DD), (layD i l d).room = d.room
  | [], _ => rfl
  | a :: r, d => by
    unfold layD
    split
    · rw [layD_room i r, stpD_room]
    · rw [stpD_room]
theorem putSD_room (d : DD) (s : SS) (a b : Nat) (x : List UInt8) : (putSD d s a b x).room = d.room := by
  unfold putSD
  split
  · exact layD_room _ _ _
  · rfl
theorem vputD_room (d : DD) (v : VS) (r : List UInt8) : (vputD d v r).room = d.room := by
  unfold vputD
  split
  · exact appD_room _ _ _
  · rfl
theorem vcD_room (d : DD) (s : SS) (v : VS) (x : List UInt8) : (vcD d s v x).room = d.room := by
  unfold vcD
  split
  · split
    · rw [clrD_room, putSD_room]
    · rw [putSD_room]
  · rfl
theorem burn0' {d : DD} (h : d.fuse = 0) : d.burn = d := by unfold DD.burn; rw [if_neg (by omega)]
theorem do_up0 {d : DD} {i : Nat} {f : FD} {s : St} (h1 : d.down = false) (h2 : d.fuse = 0) : (doD d i f s).down = false ∧ (doD d i f s).fuse = 0 := by
  unfold doD
  rw [if_neg (by rw [h1]; decide)]
  split
  · exact ⟨h1, h2⟩
  · rw [burn0' (d := setF d i (f.take s)) h2]
    exact ⟨h1, h2⟩
theorem sync_up0 {d : DD} {i : Nat} {f : FD} (h1 : d.down = false) (h2 : d.fuse = 0) : (syncD d i f).down = false ∧ (syncD d i f).fuse = 0 := by
  unfold syncD
  rw [burn0' h2, if_neg (by rw [h1]; decide), if_neg (by rw [h1]; decide)]
  exact ⟨h1, h2⟩
theorem app_up0 {d : DD} {i : Nat} {b : List UInt8} (h1 : d.down = false) (h2 : d.fuse = 0) : (appD d i b).down = false := by
  unfold appD
  split
  · exact h1
  · split
    · obtain ⟨a, c⟩ := do_up0 (i := i) (f := fD d i) (s := .put (frame b)) h1 h2
      exact (sync_up0 a c).1
    · exact (do_up0 h1 h2).1
theorem vput_up0 {d : DD} {v : VS} {r : List UInt8} (h1 : d.down = false) (h2 : d.fuse = 0) : (vputD d v r).down = false := by
  unfold vputD
  split
  · exact app_up0 h1 h2
  · exact h1
theorem Vd.few {d : DD} {x y1 y2 : List UInt8} {s : SS} {v : VS} {n : Nat} (h : Vd d x y1 y2 s v n) : ∀ j, (fD d j).steps.length ≤ 0
  | 0 => by rw [h.f0]; exact Nat.le_refl _
  | 1 => by rw [h.f1]; exact Nat.le_refl _
  | 2 => by rw [h.f2]; exact Nat.le_refl _
  | j + 3 => by
    have : fD d (j + 3) = FD.none := by
      unfold fD
      rw [List.getElem?_eq_none (by rw [h.m3]; omega)]; rfl
    rw [this]; exact Nat.le_refl _
/-- a disk that is up, with a vault on it -/
def Live (d : DD) (s : SS) (v : VS) (n : Nat) : Prop := d.down = false ∧ ∃ x y1 y2, Vd d x y1 y2 s v n ∧ (scan x).2 = x.length
/-- what a crash may leave -/
def Leaves (d : DD) (P : VS → Prop) (n : Nat) : Prop := ∀ us, ∃ x y1 y2 s v, Vd (crashD us d) x y1 y2 s v n ∧ P v
theorem Live.leaves {d : DD} {s : SS} {v : VS} {n : Nat} (h : Live d s v n) {P : VS → Prop} (hp : P v) : Leaves d P n := fun us => by
  obtain ⟨_, x, y1, y2, hv, _⟩ := h
  exact ⟨x, y1, y2, s, v, hv.crash us, hp⟩
theorem Live.few {d : DD} {s : SS} {v : VS} {n : Nat} (h : Live d s v n) : ∀ j, (fD d j).steps.length ≤ 0 := by
  obtain ⟨_, x, y1, y2, hv, _⟩ := h
  exact hv.few
theorem Live.more {d : DD} {s : SS} {v : VS} {n m : Nat} (h : Live d s v n) (hm : n ≤ m) : Live d s v m := by
  obtain ⟨a, x, y1, y2, hv, hs⟩ := h
  exact ⟨a, x, y1, y2, hv.more hm, hs⟩
theorem Leaves.imp {d : DD} {P Q : VS → Prop} {n : Nat} (h : Leaves d P n) (hq : ∀ v, P v → Q v) : Leaves d Q n := fun us => by
  obtain ⟨x, y1, y2, s, v, a, b⟩ := h us
  exact ⟨x, y1, y2, s, v, a, hq v b⟩
/-- Put, where there is room -/
theorem live_put {d : DD} {s : SS} {v : VS} {n : Nat} {r : List UInt8} (h : Live d s v n) (hroom : d.room = 65536) (hn : n + (1 + r.length) ≤ 1100) (hr : 1 ≤ r.length) :
    (vputE d v r = 0 ∧ vputV d v r = pushV v r ∧ Live (vputD d v r) s (pushV v r) (n + (1 + r.length))) ∨
    (vputV d v r = v ∧ (vputD d v r).down = true ∧ d.fuse ≠ 0 ∧ Leaves (vputD d v r) (fun v' => v' = v ∨ v' = pushV v r) (n + (1 + r.length))) := by
  obtain ⟨hd, x, y1, y2, hv, hs⟩ := h
  have hus := hv.used
  have hln := hv.len
  have h1 := hv.l1
  have h2 := hv.l2
  rcases vput_plain hv hs hd hn hr with ⟨a, b, c, x', e, f⟩ | ⟨a, b, c, e⟩ | ⟨a, b, c, e⟩
  · exact .inl ⟨a, b, c, x', y1, y2, e, f⟩
  · refine .inr ⟨b, c, fun h0 => ?_, fun us => ?_⟩
    · have := vput_up0 (v := v) (r := r) hd h0
      rw [c] at this; cases this
    · obtain ⟨x', v', p, q⟩ := e us
      exact ⟨x', y1, y2, s, v', p, q⟩
  · omega
/-- Compact, where there is room -/
theorem live_comp {d : DD} {s : SS} {v : VS} {n : Nat} {c : List UInt8} (h : Live d s v n) (hroom : d.room = 65536) (hn : n + (1 + c.length) ≤ 1100) :
    (vcV d s v c = compV v c ∧ Live (vcD d s v c) (vcS d s v c) (compV v c) (n + (1 + c.length))) ∨
    ((vcV d s v c = v ∨ vcV d s v c = compV v c) ∧ (vcD d s v c).down = true ∧ Leaves (vcD d s v c) (fun v' => v' = v ∨ v' = compV v c) (n + (1 + c.length))) := by
  obtain ⟨hd, x, y1, y2, hv, hs⟩ := h
  have hus := hv.used
  have hln := hv.len
  have h1 := hv.l1
  have h2 := hv.l2
  rcases vcomp_plain hv hs hd (by omega) hn with ⟨a, b, c', x', z1, z2, e, f⟩ | ⟨a, b, t, c', e⟩ | ⟨a, b, c', t, _, e⟩
  · exact .inl ⟨b, c', x', z1, z2, e, f⟩
  · exact .inr ⟨b, c', e⟩
  · omega
/-- Open of what a crash left -/
theorem left_open {d : DD} {x y1 y2 : List UInt8} {s : SS} {v : VS} {n : Nat} (h : Vd d x y1 y2 s v n) (hd : d.down = false) (hu : usedL d.fs ≤ d.room) :
    vopF d = some v ∧ opnS d 1 2 = s ∧ ((opnE d 0 = 0 ∧ Live (opnD d 0) s v n ∧ (d.fuse = 0 → (opnD d 0).fuse = 0)) ∨ (opnE d 0 = 18 ∧ d.fuse ≠ 0 ∧ ∀ us, ∃ x', Vd (crashD us (opnD d 0)) x' y1 y2 s v n)) := by
  obtain ⟨a, b, c⟩ := vopen_plain h hd hu
  refine ⟨a, b, ?_⟩
  rcases c with ⟨c1, c2, c3, x', c4, c5⟩ | ⟨c1, c2, _, c4⟩
  · exact .inl ⟨c1, ⟨c2, x', y1, y2, c4, c5⟩, c3⟩
  · exact .inr ⟨c1, c2, c4⟩
end Go.Proofs.YtnejjfglkindjaaGreatDoor.Vlt

namespace Go.Proofs.YtnejjfglkindjaaGreatDoor.Vlt
open Go.RowKit Go.Mir Go.Mir.Parts Dk Rol Wr Slt Cut
open Frm (frame scan)

def strV (ls : List (List UInt8)) : List Value := ls.map fun x => .string (S x)
theorem strV_length (ls : List (List UInt8)) : (strV ls).length = ls.length := by simp [strV]
theorem strV_get (ls : List (List UInt8)) (j : Nat) (h : j < ls.length) : (strV ls)[j]? = some (.string (S ls[j])) := by simp [strV, h]
theorem strV_one (ls : List (List UInt8)) : ∀ u ∈ strV ls, u.oneCell' = true := by
  intro u hu; simp only [strV, List.mem_map] at hu; obtain ⟨_, _, rfl⟩ := hu; rfl
theorem strV_app (a b : List (List UInt8)) : strV (a ++ b) = strV a ++ strV b := by simp [strV]
/-- a []string that reads as these -/
abbrev Ws (w : World) (p : Option Addr) (n c : Nat) (ls : List (List UInt8)) : Prop := Sl w p n c 1 (strV ls)
theorem Ws.length {w : World} {p : Option Addr} {n c : Nat} {ls : List (List UInt8)} (h : Ws w p n c ls) : ls.length = n := by
  have := h.len; simpa [strV_length] using this
theorem Ws.str {w : World} {b o : Nat} {n c : Nat} {ls : List (List UInt8)} (h : Ws w (some ⟨b, o, none⟩) n c ls) {j : Nat} (hj : j < ls.length) : w.cell? ⟨b, o + j, none⟩ = some (.string (S ls[j])) := h.at (strV_get ls j hj)
theorem Ws.row {w : World} {g : Nat} {cs : Array Value} {t : TypeId} {fr : Nat × Nat} {ls : List (List UInt8)} (hr : w.heap[g]? = some (.cells cs t fr)) (hc : cs.toList = strV ls) (hm : ls.length ≤ 9223372036854775807) : Ws w (some ⟨g, 0, none⟩) ls.length ls.length ls :=
  ⟨by rw [strV_length, Nat.mul_one], Nat.le_refl _, hm, fun h => (by cases h), fun a ha j u hu => by
    obtain rfl := Option.some.inj ha
    rw [add_none, cell_of_row _ _ _ _ _ _ hr, ← Array.getElem?_toList, hc, Nat.zero_add]
    exact hu⟩
theorem infoStr : (Tryz.prog.info? 9).map (fun i => (i.zero, i.size, i.bytes)) = some (some (.string ⟨#[]⟩), 1, 16) := by kernel_rfl
theorem own_ws {w : World} {base t : Nat} {p : Option Addr} {n c : Nat} {ls : List (List UInt8)} (h : w.ownsRow base t 1 (.slice p n c) n (strV ls)) : Ws w p n c ls := by
  obtain ⟨p', c', he, hs⟩ := own_sl h
  cases he
  exact hs
theorem own_ne {w : World} {base e size n : Nat} {x : Value} {xs : List Value} {kb : Nat} {M : Array Value} {t : TypeId} {fr : Nat × Nat} (h : w.ownsRow base e size x n xs) (hk : w.heap[kb]? = some (.cells M t fr)) (hte : t ≠ e) : ¬ x.ownBlock = some kb := fun hi => by
  rcases h.2 with ⟨rfl, _⟩ | ⟨g, cap, cur, rfl, _, hg, _⟩
  · cases hi
  · simp only [Value.ownBlock, Option.some.injEq] at hi
    subst hi
    rw [hk] at hg
    injection hg with e1
    injection e1 with _ e2
    exact hte e2
theorem own_down {w : World} {base b2 e size n : Nat} {x : Value} {xs : List Value} (h : w.ownsRow base e size x n xs) (hb : b2 ≤ base) : w.ownsRow b2 e size x n xs :=
  ⟨h.1, h.2.imp id (fun ⟨g, cap, cur, a, b, c⟩ => ⟨g, cap, cur, a, Nat.le_trans hb b, c⟩)⟩
/-- the row of a Seen -/
def seA (v : VS) (p : Option Addr) (n c : Nat) : Array Value := #[.bool v.some, .string (S v.body), .slice p n c]
def zSe : Array Value := #[.bool false, .string ⟨#[]⟩, .slice none 0 0]
theorem zeroSe (w : World) : (zeroValue 51).run Tryz.prog w = .ok (.agg zSe) w := by kernel_rfl
theorem built_se (b : Bool) (s : List UInt8) : Tryz.prog.built 51 [(0, .bool b), (1, .string (S s))] = some #[.bool b, .string (S s), .slice none 0 0] := by kernel_rfl
theorem infoSe (n : Nat) (h : n = 3) : (Tryz.prog.info? 51).map (·.size) = some n := by subst h; kernel_rfl
theorem seA_one (v : VS) (p : Option Addr) (n c : Nat) : (seA v p n c).all (·.oneCell') = true := by kernel_rfl
/-- a Seen of this vault, in memory behind base -/
def SeAt (w : World) (base : Nat) (v : VS) (x : Value) : Prop := ∃ p c, x = .agg (seA v p v.after.length c) ∧ w.ownsRow base 9 1 (.slice p v.after.length c) v.after.length (strV v.after)
def SeenP (v : VS) (w : World) (e : Ending) (w' : World) : Prop := ∃ x, e = .returned x ∧ SeAt w' w.heap.size v x ∧ Below w.heap.size w w'
set_option maxRecDepth 100000 in
set_option maxHeartbeats 6400000 in
theorem seen_any {base rb sb db vb : Nat} {d : DD} {s : SS} {v : VS} (w : World) (h : XV base rb sb db vb d s v w) (hb : v.body.length ≤ 1000000) (hl : v.after.length ≤ 100000) (hx : ∀ x ∈ v.after, x.length ≤ 1000000) :
    Calls Tryz.prog 18 #[.pointer (some ⟨vb, 0, none⟩)] w (SeenP v w) := by
  have hz := zeroSe
  have HX := Lib.hid h
  have HL := Lib.hid hl
  have HXX := Lib.hid hx
  have HBL := Lib.hid hb
  clear h hb hx
  go_enter Tryz.func18, Tryz.ntmps18
  go_upto_region 1 with fail
  have hal := Below.allocs w (.cells zSe 51)
  have HB1 := Lib.hid hal
  have HR1 := Lib.hid (heap_alloc_last w (.cells zSe 51))
  have HX1 := Lib.hid (HX.out.below hal)
  clear hal HX
  generalize w.alloc (.cells zSe 51) = w1 at *
  have HSN := Lib.hid (vsnap_any w1 HX1.out (by have := HBL.out; omega))
  go_wp2_with fail
  refine HSN.out.mono ?_
  rintro e w2 ⟨p2, c2, rfl, ho2, hb2⟩
  have HB2 := Lib.hid (HB1.out.trans (hb2.mono HB1.out.size))
  have HR2 := Lib.hid (Below.keepOld hb2 HR1.out)
  have HX2 := Lib.hid (HX1.out.below hb2)
  have hcv : (convert 22 9 (.slice p2 v.body.length c2)).run Tryz.prog w2 = .ok (.string (S v.body)) w2 := Cut.bconv (Cut.own_bs ho2)
  clear ho2 hb2 HB1 HR1 HX1 HSN
  go_upto_region 2 with fail
  go_upto_region 3 with (first
    | refine Rdr.wpList_build rfl 51 _ rfl [(0, .bool v.some), (1, .string (S v.body))] rfl _ (built_se _ _) ?_
    | refine wpList_store_row rfl 51 _ _ rfl w2.heap.size (seA v none 0 0) rfl rfl 51 zSe (heap_alloc_last _ _) (infoSe _ rfl) rfl (seA_one _ _ _ _) ?_)
  try simp only [Act.put]
  have hal := Below.allocs w2 (.cells zSe 51)
  have hnew := heap_alloc_last w2 (.cells zSe 51)
  have hb3 : Below w2.heap.size w2 ((w2.alloc (.cells zSe 51)).setRow w2.heap.size (seA v none 0 0)) := below_setRow hal (Nat.le_refl _) _
  have HK3 := Lib.hid (setRow_heap _ _ _ (seA v none 0 0) _ _ hnew)
  have HB3 := Lib.hid (HB2.out.trans (hb3.mono HB2.out.size))
  have HR3 := Lib.hid (Below.keepOld hb3 HR2.out)
  have HX3 := Lib.hid (HX2.out.below hb3)
  have HG3 : Hid (w.heap.size < w2.heap.size) := (Array.getElem?_eq_some_iff.1 HR2.out).1
  clear hal hnew hb3 hcv HB2 HR2 HX2
  generalize (w2.alloc (.cells zSe 51)).setRow w2.heap.size (seA v none 0 0) = w3 at *
  generalize w2.heap.size = kb at *
  clear w2
  have HRC := Lib.hid (vrecs_any w3 HX3.out HL.out HXX.out)
  go_wp2_with fail
  refine HRC.out.mono ?_
  rintro e w4 ⟨p4, c4, rfl, hl4, hb4⟩
  have HB4 := Lib.hid (HB3.out.trans (hb4.mono HB3.out.size))
  have HR4 := Lib.hid (Below.keepOld hb4 HR3.out)
  have HK4 := Lib.hid (Below.keepOld hb4 HK3.out)
  have HLS := Lib.hid hl4
  obtain ⟨p', c', he, hp⟩ := hl4.ls.sl
  cases he
  have hple := hp.le
  have hpmx := hp.max
  have HKG : Hid (w.heap.size < kb) := HG3.out
  clear hl4 hb4 hp HB3 HK3 HX3 HRC
  go_wp2_with fail
  go_loopw [7, 20] (fun _ j wr => ∃ (i : Nat) (p : Option Addr) (c : Nat), i ≤ v.after.length ∧ j = .int .i64 i ∧ wr.heap[kb]? = some (.cells (seA v p i c) 51 (0, 0)) ∧ wr.ownsRow w4.heap.size 9 1 (.slice p i c) i (strV (v.after.take i)) ∧ Turns (fun k => k = kb) w4 wr) (fun _ j _ => v.after.length - (intOf j).toNat)
  case atStart => exact ⟨0, none, 0, Nat.zero_le _, rfl, HK4.out, World.ownsRow_nil _ _ _ _, Turns.refl _ _⟩
  case round =>
    obtain ⟨i, p, c, hi, rfl, hk, ho, ht⟩ := hrel
    have HK := Lib.hid hk
    have HO := Lib.hid ho
    have HT := Lib.hid ht
    have hls := lsO_turn HLS.out ht (fun k M t fr hkk hm => by
      subst hkk
      rw [HK4.out] at hm
      injection hm with e1
      injection e1 with _ e2
      subst e2
      exact ⟨by decide, by decide⟩)
    obtain ⟨p', c', he, hp⟩ := hls.ls.sl
    cases he
    have HP := Lib.hid hp
    clear hk ho ht hls hp
    by_cases hlt : i < v.after.length
    · obtain ⟨b, o, rfl⟩ := HP.out.addr (by omega)
      obtain ⟨q, m, dd, hc0, hbx0⟩ := HP.out.cell _ rfl i hlt
      rw [add_none] at hc0
      have HTK : Hid (v.after.take (i + 1) = v.after.take i ++ [v.after[i]]) := List.take_succ_eq_append_getElem hlt
      generalize v.after[i] = x at *
      have hk2 : wr.cell? ⟨kb, 2, none⟩ = some (.slice p i c) := by rw [cell_of_row _ _ _ _ _ _ HK.out]; rfl
      have hdi : decide ((i : Int) < (v.after.length : Int)) = true := decide_eq_true (by omega)
      have hdi2 : decide (i < v.after.length) = true := decide_eq_true hlt
      have hcv : (convert 22 9 (.slice q m dd)).run Tryz.prog wr = .ok (.string (S x)) wr := Cut.bconv hbx0
      have hB7 := Below.allocs wr (.cells #[.string (S x)] 9)
      have HO7 := Lib.hid (own_touch HO.out (Turns.of_below (S := fun _ => False) hB7) (fun _ _ h => h))
      have HX7 : Hid (Ws (wr.alloc (.cells #[.string (S x)] 9)) (some ⟨wr.heap.size, 0, none⟩) 1 1 [x]) := Ws.row (ls := [x]) (heap_alloc_last wr _) rfl (by show 1 ≤ _; omega)
      have HK7 := Lib.hid (Below.keepOld hB7 HK.out)
      have HT7 : Hid (Turns (fun k => k = kb) w4 (wr.alloc (.cells #[.string (S x)] 9))) := HT.out.alloc _
      have HS7 : Hid (w4.heap.size ≤ (wr.alloc (.cells #[.string (S x)] 9)).heap.size) := HT7.out.size
      clear hbx0 hB7 HP HO HT
      go_wp2_with (at_builtin; refine wpList_append_nx rfl _ _ 49 rfl (base := w4.heap.size) Tryz.underlying49 infoStr rfl (by omega) rfl HO7.out rfl HX7.out (strV_one _) ⟨by omega, by omega⟩ HS7.out ?_)
      intro p8 c8 w8 ho8 hgr hnx _
      have htk : Turns (fun k => (Value.slice p i c).ownBlock = some k) (wr.alloc (.cells #[.string (S x)] 9)) w8 := Turns.grown hgr (fun _ h => h)
      have HK8 := Lib.hid (htk.keep HK7.out (own_ne HO7.out HK7.out (by decide)))
      have ht8 : Turns (fun k => k = kb) w4 w8 := HT7.out.trans htk (fun k hk hS => absurd (HO7.out.lt k hS).1 (by omega))
      have hk8 : w8.cell? ⟨kb, 2, none⟩ = some (.slice p i c) := by rw [cell_of_row _ _ _ _ _ _ HK8.out]; rfl
      have hfz : w8.frozen? ⟨kb, 2, none⟩ = false := frozen_of_row _ _ _ _ _ HK8.out
      have HT9 : Hid (Turns (fun k => k = kb) w4 (w8.setCell ⟨kb, 2, none⟩ (.slice p8 (i + 1) c8))) := ht8.setCell (p := ⟨kb, 2, none⟩) (fun _ => rfl) _
      have HK9 : Hid ((w8.setCell ⟨kb, 2, none⟩ (.slice p8 (i + 1) c8)).heap[kb]? = some (.cells (seA v p8 (i + 1) c8) 51 (0, 0))) := Dk.cell_put (off := 2) (.slice p8 (i + 1) c8) HK8.out
      have hts : Turns (fun k => k = kb) w8 (w8.setCell ⟨kb, 2, none⟩ (.slice p8 (i + 1) c8)) := (Turns.refl (fun k => k = kb) w8).setCell (p := ⟨kb, 2, none⟩) (fun _ => rfl) _
      have HO9 : Hid ((w8.setCell ⟨kb, 2, none⟩ (.slice p8 (i + 1) c8)).ownsRow w4.heap.size 9 1 (.slice p8 (i + 1) c8) (i + 1) (strV (v.after.take (i + 1)))) := by
        show World.ownsRow _ _ _ _ _ _ _
        rw [HTK.out, strV_app]
        have ho8' : w8.ownsRow w4.heap.size 9 1 (.slice p8 (i + 1) c8) (i + 1) (strV (v.after.take i) ++ strV [x]) := ho8
        exact own_touch ho8' hts (fun k hk hkb => by subst hkb; exact own_ne ho8' HK8.out (by decide) hk)
      clear ho8 hgr hnx htk ht8 HO7 HX7 HK7 HT7 HS7 hts hk2
      go_wp2_with fail
      go_roundw
      case rel => exact ⟨i + 1, p8, c8, by omega, by go_num, HK9.out, HO9.out, HT9.out⟩
      case measure => simp [intOf]; omega
    · have hdi : decide ((i : Int) < (v.after.length : Int)) = false := decide_eq_false (by omega)
      have hdi2 : decide (i < v.after.length) = false := decide_eq_false hlt
      obtain rfl : i = v.after.length := by omega
      rw [List.take_length] at HO
      clear HP
      have HR8 := Lib.hid (HT.out.keep HR4.out (fun h => absurd HKG.out (by rw [h]; exact Nat.lt_irrefl _)))
      go_upto_region 8 with fail
      go_wp2_with (first
        | ((with_reducible refine wpAt 32 ?_); refine wpList_load_row rfl 51 _ rfl kb rfl 51 (seA v p v.after.length c) (0, 0) _ HK.out Tryz.underlying51 rfl (infoSe _ rfl) ?_)
        | refine wpList_store_row rfl 51 _ _ rfl w.heap.size (seA v p v.after.length c) rfl rfl 51 zSe HR8.out (infoSe _ rfl) rfl (seA_one _ _ _ _) ?_)
      try simp only [Act.put, List.setIfInBounds_toArray, List.set_cons_zero, List.set_cons_succ]
      have HS := Lib.hid (setRow_heap _ _ _ (seA v p v.after.length c) _ _ HR8.out)
      have htr := turns_setRow wr w.heap.size (seA v p v.after.length c)
      have hbl : Below w.heap.size w wr := HB4.out.trans (HT.out.below (HB4.out.size) (fun i hi => by subst hi; exact Nat.le_of_lt HKG.out))
      refine bodyPost_ret (results_cell_row rfl _ _ _ _ _ _ _ rfl HS.out Tryz.underlying51 rfl (infoSe _ rfl)) rfl ?_
      refine ⟨_, rfl, ⟨p, c, rfl, ?_⟩, below_setRow hbl (Nat.le_refl _) _⟩
      exact own_touch (own_down HO.out HB4.out.size) htr (fun k hk hkb => by subst hkb; exact own_ne HO.out HR8.out (by decide) hk)
end Go.Proofs.YtnejjfglkindjaaGreatDoor.Vlt

namespace Go.Proofs.YtnejjfglkindjaaGreatDoor.Vlt
open Go.RowKit Go.Mir Go.Mir.Parts Dk Rol Wr Slt Cut
open Frm (frame scan)

def sameB (a b : VS) : Bool := a.some == b.some && (a.body == b.body && a.after == b.after)
theorem sameB_refl (a b : VS) (h1 : a.some = b.some) (h2 : a.body = b.body) (h3 : a.after = b.after) : sameB a b = true := by
  unfold sameB; rw [h1, h2, h3, beq_self_eq_true, beq_self_eq_true, beq_self_eq_true]; rfl
theorem take_eq_step {a b : List (List UInt8)} {k : Nat} (h : a.take k = b.take k) (ha : k < a.length) (hb : k < b.length) (e : a[k] = b[k]) : a.take (k + 1) = b.take (k + 1) := by
  rw [List.take_succ_eq_append_getElem ha, List.take_succ_eq_append_getElem hb, h, e]
set_option maxRecDepth 100000 in
set_option maxHeartbeats 3200000 in
theorem same_any (a b : VS) (p1 p2 : Option Addr) (c1 c2 : Nat) (w : World) (h1 : Ws w p1 a.after.length c1 a.after) (h2 : Ws w p2 b.after.length c2 b.after) :
    Calls Tryz.prog 21 #[.agg (seA a p1 a.after.length c1), .agg (seA b p2 b.after.length c2)] w fun e w' => e = .returned (.bool (sameB a b)) ∧ Below w.heap.size w w' := by
  have hal := Below.allocs w (.cells (seA a p1 a.after.length c1) 51)
  have hrow1 := heap_alloc_last w (.cells (seA a p1 a.after.length c1) 51)
  have hal2 := Below.allocs (w.alloc (.cells (seA a p1 a.after.length c1) 51)) (.cells (seA b p2 b.after.length c2) 51)
  have hrow2 := heap_alloc_last (w.alloc (.cells (seA a p1 a.after.length c1) 51)) (.cells (seA b p2 b.after.length c2) 51)
  have hsz : (w.alloc (.cells (seA a p1 a.after.length c1) 51)).heap.size = w.heap.size + 1 := by simp
  rw [hsz] at hrow2
  have hB := hal.trans (hal2.mono hal.size)
  have HB := Lib.hid hB
  have HR1 := Lib.hid (Below.keepOld hal2 hrow1)
  have HR2 := Lib.hid hrow2
  have H1 := Lib.hid (h1.below hB)
  have H2 := Lib.hid (h2.below hB)
  have hl1 := h1.le
  have hl2 := h2.le
  have hm1 := h1.max
  have hm2 := h2.max
  clear hal hrow1 hal2 hrow2 hsz hB h1 h2
  have HW1 : Hid ((w.alloc (.cells (seA a p1 a.after.length c1) 51)).alloc (.cells (seA b p2 b.after.length c2) 51) = (w.alloc (.cells (seA a p1 a.after.length c1) 51)).alloc (.cells (seA b p2 b.after.length c2) 51)) := rfl
  clear HW1
  go_enter Tryz.func21, Tryz.ntmps21
  go_upto_region 1 with fail
  generalize (w.alloc (.cells (seA a p1 a.after.length c1) 51)).alloc (.cells (seA b p2 b.after.length c2) 51) = w1 at *
  have ha0 : w1.cell? ⟨w.heap.size, 0, none⟩ = some (.bool a.some) := by rw [cell_of_row _ _ _ _ _ _ HR1.out]; rfl
  have ha1 : w1.cell? ⟨w.heap.size, 1, none⟩ = some (.string (S a.body)) := by rw [cell_of_row _ _ _ _ _ _ HR1.out]; rfl
  have ha2 : w1.cell? ⟨w.heap.size, 2, none⟩ = some (.slice p1 a.after.length c1) := by rw [cell_of_row _ _ _ _ _ _ HR1.out]; rfl
  have hb0 : w1.cell? ⟨w.heap.size + 1, 0, none⟩ = some (.bool b.some) := by rw [cell_of_row _ _ _ _ _ _ HR2.out]; rfl
  have hb1 : w1.cell? ⟨w.heap.size + 1, 1, none⟩ = some (.string (S b.body)) := by rw [cell_of_row _ _ _ _ _ _ HR2.out]; rfl
  have hb2 : w1.cell? ⟨w.heap.size + 1, 2, none⟩ = some (.slice p2 b.after.length c2) := by rw [cell_of_row _ _ _ _ _ _ HR2.out]; rfl
  have HQ : Hid (sameB a b = (a.some == b.some && (a.body == b.body && a.after == b.after))) := rfl
  by_cases q0 : a.some = b.some
  rotate_left
  · have d0 : (a.some != b.some) = true := bne_iff_ne.2 q0
    have d0e : (a.some == b.some) = false := beq_eq_false_iff_ne.2 q0
    have HF : Hid (sameB a b = false) := by show _ = _; rw [HQ.out, beq_eq_false_iff_ne.2 q0]; rfl
    clear q0
    generalize a.some = sa at *
    generalize b.some = sb at *
    go_wp2_with fail
    go_ret
    rw [HF.out]
    exact ⟨rfl, HB.out⟩
  have d0 : (a.some != b.some) = false := by rw [q0]; exact bne_self_eq_false _
  by_cases q1 : a.body = b.body
  rotate_left
  · have d1 : (a.body == b.body) = false := beq_eq_false_iff_ne.2 q1
    have HF : Hid (sameB a b = false) := by show _ = _; rw [HQ.out, beq_eq_false_iff_ne.2 q1]; simp
    clear q1 d0
    generalize a.some = sa at *
    generalize b.some = sb at *
    subst q0
    generalize a.body = ab at *
    generalize b.body = bb at *
    go_wp2_with fail
    go_ret
    rw [HF.out]
    exact ⟨rfl, HB.out⟩
  have d1 : (a.body == b.body) = true := beq_iff_eq.2 q1
  by_cases q2 : a.after.length = b.after.length
  rotate_left
  · have d2 : ((a.after.length : Int) != (b.after.length : Int)) = true := bne_iff_ne.2 (by omega)
    have d2' : (a.after.length == b.after.length) = false := beq_eq_false_iff_ne.2 q2
    have d2e : ((a.after.length : Int) == (b.after.length : Int)) = false := beq_eq_false_iff_ne.2 (by omega)
    have HF : Hid (sameB a b = false) := by
      show _ = _
      rw [HQ.out, beq_eq_false_iff_ne.2 (show a.after ≠ b.after from fun e => q2 (by rw [e]))]; simp
    clear q1 q2 d0
    generalize a.some = sa at *
    generalize b.some = sb at *
    subst q0
    generalize a.body = ab at *
    generalize b.body = bb at *
    go_wp2_with fail
    go_ret
    rw [HF.out]
    exact ⟨rfl, HB.out⟩
  have d2 : ((a.after.length : Int) != (b.after.length : Int)) = false := by rw [q2]; exact bne_self_eq_false _
  have d2' : (a.after.length == b.after.length) = true := beq_iff_eq.2 q2
  have d2e : ((a.after.length : Int) == (b.after.length : Int)) = true := beq_iff_eq.2 (by omega)
  have HL := Lib.hid q2
  have HS : Hid (a.after = b.after → sameB a b = true) := fun e => sameB_refl a b q0 q1 e
  have HF : Hid (a.after ≠ b.after → sameB a b = false) := fun e => by rw [HQ.out, beq_eq_false_iff_ne.2 e]; simp
  clear q1 q2 d0
  clear HQ
  generalize a.some = sa at *
  generalize b.some = sb at *
  subst q0
  generalize a.body = ab at *
  generalize b.body = bb at *
  generalize a.after = A at *
  generalize b.after = B at *
  clear HR1 HR2
  go_wp2_with fail
  go_loopw [5, 30] (fun _ j wr => ∃ i : Nat, i ≤ A.length ∧ j = .int .i64 i ∧ A.take i = B.take i ∧ Below w1.heap.size w1 wr) (fun _ j _ => A.length - (intOf j).toNat)
  case atStart => exact ⟨0, Nat.zero_le _, rfl, rfl, Below.refl _ _⟩
  case round =>
    obtain ⟨i, hi, rfl, htk, hb⟩ := hrel
    have HTK := Lib.hid htk
    have HBW := Lib.hid hb
    have ha2' := cell_below ha2 hb
    have hb2' := cell_below hb2 hb
    clear htk hb
    by_cases hlt : i < A.length
    · have hlt2 : i < B.length := by rw [← HL.out]; exact hlt
      have hdi : decide ((i : Int) < (A.length : Int)) = true := decide_eq_true (by omega)
      have hdi2 : decide (i < A.length) = true := decide_eq_true hlt
      obtain ⟨b1, o1, rfl⟩ := H1.out.addr (by omega) (by omega)
      obtain ⟨b2, o2, rfl⟩ := H2.out.addr (by omega) (by omega)
      have hx := cell_below (Ws.str H1.out hlt) HBW.out
      have hy := cell_below (Ws.str H2.out hlt2) HBW.out
      have HST : Hid (A[i]'hlt = B[i]'hlt2 → A.take (i + 1) = B.take (i + 1)) := fun e => take_eq_step HTK.out hlt hlt2 e
      have HNE : Hid (¬ A[i]'hlt = B[i]'hlt2 → A ≠ B) := fun h e => by subst e; exact h rfl
      generalize A[i]'hlt = x at *
      generalize B[i]'hlt2 = y at *
      by_cases hxy : x = y
      · have dxy : (x == y) = true := beq_iff_eq.2 hxy
        have HN := Lib.hid (HST.out hxy)
        clear hxy
        go_wp2_with fail
        go_quiet (fail)
        have HB3 : Hid (Below w1.heap.size w1 (wr.drewN nq)) := HBW.out.trans (⟨rfl, rfl, rfl, Nat.le_refl _, fun _ _ => rfl⟩ : Below w1.heap.size wr (wr.drewN nq))
        generalize wr.drewN nq = w3 at *
        go_wp2_with fail
        go_roundw
        case rel => exact ⟨i + 1, by omega, by go_num, HN.out, HB3.out⟩
        case measure => simp [intOf]; omega
      · have dxy : (x == y) = false := beq_eq_false_iff_ne.2 hxy
        have HFF := Lib.hid (HF.out (HNE.out hxy))
        clear hxy
        go_wp2_with fail
        go_quiet (fail)
        have HB3 : Hid (Below w1.heap.size w1 (wr.drewN nq)) := HBW.out.trans (⟨rfl, rfl, rfl, Nat.le_refl _, fun _ _ => rfl⟩ : Below w1.heap.size wr (wr.drewN nq))
        have HBF := Lib.hid (HB.out.trans (HB3.out.mono HB.out.size))
        generalize wr.drewN nq = w3 at *
        go_wp2_with fail
        go_ret
        rw [HFF.out]
        exact ⟨rfl, HBF.out⟩
    · have hdi : decide ((i : Int) < (A.length : Int)) = false := decide_eq_false (by omega)
      have hdi2 : decide (i < A.length) = false := decide_eq_false hlt
      obtain rfl : i = A.length := by omega
      have HTT : Hid (sameB a b = true) := HS.out (by have h := HTK.out; rw [List.take_length, HL.out, List.take_length] at h; exact h)
      have HBF := Lib.hid (HB.out.trans (HBW.out.mono HB.out.size))
      go_wp2_with fail
      go_ret
      rw [HTT.out]
      exact ⟨rfl, HBF.out⟩
end Go.Proofs.YtnejjfglkindjaaGreatDoor.Vlt

namespace Go.Proofs.YtnejjfglkindjaaGreatDoor.Vlt
open Go.RowKit Go.Mir Go.Mir.Parts

/-- what a call of the statement is -/
structure VOp where
  kind : Int
  n : Int
  m : Int
  k : Int
  b : List UInt8
def vopA (o : VOp) (pb : Option Addr) (cb : Nat) : Array Value := #[.int .i64 o.kind, .int .i64 o.n, .int .i64 o.m, .int .i64 o.k, .slice pb o.b.length cb]
structure VOpAt (w : World) (cs : List Value) (o : VOp) : Prop where
  form : ∃ pb cb, cs = (vopA o pb cb).toList ∧ Bs w pb o.b.length cb o.b
  kindB : -9223372036854775808 ≤ o.kind ∧ o.kind ≤ 9223372036854775807
  nB : -9223372036854775808 ≤ o.n ∧ o.n ≤ 9223372036854775807
  mB : -9223372036854775808 ≤ o.m ∧ o.m ≤ 9223372036854775807
  kB : -9223372036854775808 ≤ o.k ∧ o.k ≤ 9223372036854775807
theorem VOpAt.below {w w' : World} {cs : List Value} {o : VOp} (h : VOpAt w cs o) (hb : Below w.heap.size w w') : VOpAt w' cs o := by
  obtain ⟨pb, cb, h1, h2⟩ := h.form
  exact ⟨⟨pb, cb, h1, h2.below hb⟩, h.kindB, h.nB, h.mB, h.kB⟩
structure VOps (w : World) (p : Option Addr) (n c : Nat) (os : List VOp) (rows : List (List Value)) : Prop where
  rs : Rs w p n c 5 rows
  count : os.length = n
  each : ∀ (i : Nat) r o, rows[i]? = some r → os[i]? = some o → VOpAt w r o
theorem VOps.below {w w' : World} {p : Option Addr} {n c : Nat} {os : List VOp} {rows : List (List Value)} (h : VOps w p n c os rows) (hb : Below w.heap.size w w') : VOps w' p n c os rows :=
  ⟨h.rs.below hb, h.count, fun i r o h1 h2 => (h.each i r o h1 h2).below hb⟩
theorem VOps.at {w : World} {b o n c : Nat} {os : List VOp} {rows : List (List Value)} (h : VOps w (some ⟨b, o, none⟩) n c os rows) (k : Nat) (hk : k < os.length) : ∃ pb cb, Bs w pb os[k].b.length cb os[k].b ∧ w.rangeAt b (o + k * 5) (vopA os[k] pb cb).toList := by
  have hkr : k < rows.length := by rw [h.rs.count, ← h.count]; exact hk
  obtain ⟨pb, cb, e, h1⟩ := (h.each k _ os[k] (List.getElem?_eq_getElem hkr) (List.getElem?_eq_getElem hk)).form
  refine ⟨pb, cb, h1, ?_⟩
  rw [← e]
  exact h.rs.row k hkr
theorem vopA_cell {w : World} {b : Nat} {o : VOp} {pb : Option Addr} {cb : Nat} {t : TypeId} {fr : Nat × Nat} (h : w.heap[b]? = some (.cells (vopA o pb cb) t fr)) :
    w.cell? ⟨b, 0, none⟩ = some (.int .i64 o.kind) ∧ w.cell? ⟨b, 1, none⟩ = some (.int .i64 o.n) ∧ w.cell? ⟨b, 2, none⟩ = some (.int .i64 o.m) ∧ w.cell? ⟨b, 3, none⟩ = some (.int .i64 o.k) ∧ w.cell? ⟨b, 4, none⟩ = some (.slice pb o.b.length cb) := by
  refine ⟨?_, ?_, ?_, ?_, ?_⟩ <;> (rw [cell_of_row _ _ _ _ _ _ h]; rfl)
theorem vopA_one (o : VOp) (pb : Option Addr) (cb : Nat) : (vopA o pb cb).all (·.oneCell') = true := by
  unfold vopA
  simp [Value.oneCell']
theorem infoVOp (n : Nat) (h : n = 5) : (Tryz.prog.info? 54).map (·.size) = some n := by subst h; kernel_rfl
theorem zVOp : ∃ Z : Array Value, (∀ w0, (zeroValue 54).run Tryz.prog w0 = .ok (.agg Z) w0) ∧ Z.size = 5 := ⟨#[.int .i64 0, .int .i64 0, .int .i64 0, .int .i64 0, .slice none 0 0], fun w0 => by kernel_rfl, by kernel_rfl⟩
/-- how many bytes the calls hold -/
def bsum : List VOp → Nat
  | [] => 0
  | o :: r => o.b.length + bsum r
theorem bsum_take_succ : ∀ (l : List VOp) (k : Nat) (h : k < l.length), bsum (l.take (k + 1)) = bsum (l.take k) + (l[k]).b.length
  | o :: r, 0, _ => by simp [bsum]
  | o :: r, k + 1, h => by
    have := bsum_take_succ r k (by simpa using h)
    simp only [List.take_succ_cons, bsum, List.getElem_cons_succ, this]; omega
theorem bsum_take_le : ∀ (l : List VOp) (k : Nat), bsum (l.take k) ≤ bsum l
  | [], _ => by simp [bsum]
  | o :: r, 0 => by simp [bsum]
  | o :: r, k + 1 => by
    have := bsum_take_le r k
    simp only [List.take_succ_cons, bsum]; omega
theorem bsum_mem : ∀ {l : List VOp} {o : VOp}, o ∈ l → o.b.length ≤ bsum l
  | x :: r, o, h => by
    rcases List.mem_cons.1 h with rfl | h
    · simp [bsum]
    · have := bsum_mem h
      simp only [bsum]; omega
set_option maxRecDepth 100000 in
set_option maxHeartbeats 1600000 in
theorem small22_any (os : List VOp) (p : Option Addr) (c : Nat) (rows : List (List Value)) (w : World) (h : VOps w p os.length c os rows) (hbl : os.length + bsum os ≤ 4611686018427387904) :
    Calls Tryz.prog 15 #[.slice p os.length c] w fun e w' => e = .returned (.bool (decide (os.length + bsum os ≤ 1000))) ∧ Below w.heap.size w w' := by
  obtain ⟨Z, hz, hZ⟩ := zVOp
  have HZZ := Lib.hid hZ
  have H := Lib.hid h
  have HBL := Lib.hid hbl
  have hle := h.rs.sl.le
  have hmax := h.rs.sl.max
  clear h hZ hbl
  go_enter Tryz.func15, Tryz.ntmps15
  go_wp2_with fail
  go_loopw [3, 5, 10] (fun a _ j wr => ∃ k : Nat, k ≤ os.length ∧ j = .int .i64 k ∧ a = .int .i64 ((os.length + bsum (os.take k) : Nat) : Int) ∧ Below w.heap.size w wr) (fun _ _ j _ => os.length - (intOf j).toNat)
  case atStart => exact ⟨0, by omega, rfl, by simp [bsum], Below.refl _ _⟩
  case round =>
    obtain ⟨k, hk, rfl, rfl, hb0⟩ := hrel
    have HB0 := Lib.hid hb0
    clear hb0
    by_cases hlt : k < os.length
    · have hd : decide ((k : Int) < (os.length : Int)) = true := decide_eq_true (by omega)
      have hd2 : decide (k < os.length) = true := decide_eq_true hlt
      obtain ⟨b, o, rfl⟩ := H.out.rs.sl.addr (by omega) (by omega)
      obtain ⟨pb, cb, hbs, hrg⟩ := H.out.at k hlt
      have HRG := Lib.hid (range_below hrg HB0.out)
      have hts := bsum_take_succ os k hlt
      have hx1 := bsum_take_le os (k + 1)
      have hx2 := HBL.out
      have HTS := Lib.hid hts
      generalize hoo : os[k] = oo at *
      have HOB : Hid (os[k].b.length = oo.b.length) := by show _ = _; rw [hoo]
      clear hoo
      generalize hS : bsum (os.take k) = SS at *
      have hw1 : IntKind.i64.wrap (((os.length + SS : Nat) : Int) + (oo.b.length : Int)) = ((os.length + bsum (os.take (k + 1)) : Nat) : Int) := by rw [IntWalk.i64_in _ (by omega)]; omega
      have hw2 : IntKind.i64.wrap (((os.length : Int) + (SS : Int)) + (oo.b.length : Int)) = ((os.length + bsum (os.take (k + 1)) : Nat) : Int) := by rw [IntWalk.i64_in _ (by omega)]; omega
      have HSS : Hid (bsum (os.take k) = SS) := hS
      clear hts hx1 hx2 hbs hrg hS
      generalize bsum (os.take (k + 1)) = S2 at *
      obtain ⟨A, hA⟩ : ∃ A, A = vopA oo pb cb := ⟨_, rfl⟩
      have HOS : Hid (A.size = 5) := by show _ = _; rw [hA]; rfl
      have HOO : Hid (A.all (·.oneCell') = true) := by show _ = _; rw [hA]; exact vopA_one _ _ _
      have HOL : Hid (A.toList.length = 5) := by show _ = _; rw [Array.length_toList]; exact HOS.out
      have HNW := Lib.hid (box_new wr Z 54)
      have hbr := box_row wr Z A 54
      have HBB := Lib.hid (box_below wr Z A 54)
      have HB3 := Lib.hid (HB0.out.trans (HBB.out.mono HB0.out.size))
      rw [hA] at hbr
      obtain ⟨_, _, _, _, hc4⟩ := vopA_cell hbr
      rw [← hA] at hc4 HRG
      clear hbr hA
      go_wp2_with (first
        | ((with_reducible refine wpAt 13 ?_); refine wpList_load_mid rfl 54 _ rfl b (o + k * 5) rfl A.toList _ HRG.out Tryz.underlying54 rfl (infoVOp _ HOL.out) ?_)
        | ((with_reducible refine wpStoreAt 5 ?_); refine wpList_store_row rfl 54 _ _ rfl wr.heap.size A rfl rfl 54 Z HNW.out (infoVOp _ HOS.out) (HZZ.out.trans HOS.out.symm) HOO.out ?_))
      go_roundw
      case rel => exact ⟨k + 1, by omega, by go_num, by rw [bsum_take_succ os k hlt, HSS.out, HOB.out]; first | rfl | (refine congrArg (Value.int IntKind.i64) ?_; have e1 := HTS.out; omega), HB3.out⟩
      case measure => simp [intOf]; omega
    · have hd : decide ((k : Int) < (os.length : Int)) = false := decide_eq_false (by omega)
      have hd2 : decide (k < os.length) = false := decide_eq_false hlt
      obtain rfl : k = os.length := by omega
      rw [List.take_length]
      have hq : decide (((os.length + bsum os : Nat) : Int) ≤ 1000) = decide (os.length + bsum os ≤ 1000) := by rw [decide_eq_decide]; omega
      have hq2 : decide ((os.length : Int) + (bsum os : Int) ≤ 1000) = decide (os.length + bsum os ≤ 1000) := by rw [decide_eq_decide]; omega
      go_wp2_with fail
      go_ret
      exact ⟨by first | rfl | simp [hq, hq2], HB0.out⟩
end Go.Proofs.YtnejjfglkindjaaGreatDoor.Vlt

namespace Go.Proofs.YtnejjfglkindjaaGreatDoor.Vlt
open Go.RowKit Go.Mir Go.Mir.Parts Dk Rol Wr Slt Cut
open Frm (frame scan)

theorem Leaves.nonempty {d : DD} {P : VS → Prop} {n : Nat} (h : Leaves d P n) : ∃ v, P v := by
  obtain ⟨_, _, _, _, v, _, hp⟩ := h []
  exact ⟨v, hp⟩
theorem live_arm {d : DD} {s : SS} {v : VS} {n : Nat} (h : Live d s v n) (k : Nat) : Live ⟨d.fs, d.room, k, d.down⟩ s v n := by
  obtain ⟨a, x, y1, y2, hv, hs⟩ := h
  exact ⟨a, x, y1, y2, hv.wF k d.down, hs⟩
theorem XV.dx {base rb sb db vb : Nat} {d : DD} {s : SS} {v : VS} {w : World} (h : XV base rb sb db vb d s v w) : DX base db d w := by
  obtain ⟨pb, cb, pa, ca, h⟩ := h
  exact h.sx.dx
theorem XV.kt {base rb sb db vb : Nat} {d d' : DD} {s : SS} {v : VS} {w w' : World} (h : XV base rb sb db vb d s v w) (hk : KT base w w') (hd : DX base db d' w') : XV base rb sb db vb d' s v w' := by
  obtain ⟨pb, cb, pa, ca, h⟩ := h
  exact ⟨pb, cb, pa, ca, h.kt hk hd⟩
/-- a vault stays where blocks of other types turn -/
theorem XV.off {S : Nat → Prop} {base rb sb db vb : Nat} {d : DD} {s : SS} {v : VS} {w w' : World} (h : XV base rb sb db vb d s v w) (ht : Turns S w w') (hS : ∀ k M t fr, S k → w.heap[k]? = some (.cells M t fr) → t = 51 ∨ t = 9) : XV base rb sb db vb d s v w' := by
  obtain ⟨pb, cb, pa, ca, h⟩ := h
  have hty : ∀ k M t fr, S k → w.heap[k]? = some (.cells M t fr) → t ≠ 105 ∧ t ≠ 165 ∧ t ≠ 133 ∧ t ≠ 5 ∧ t ≠ 23 ∧ t ≠ 136 ∧ t ≠ 33 ∧ t ≠ 22 := fun k M t fr hk hm => by
    rcases hS k M t fr hk hm with rfl | rfl
    · exact ⟨by decide, by decide, by decide, by decide, by decide, by decide, by decide, by decide⟩
    · exact ⟨by decide, by decide, by decide, by decide, by decide, by decide, by decide, by decide⟩
  refine ⟨pb, cb, pa, ca, sx_turn h.sx ht (fun k M t fr hk hm => ?_), ht.keep h.rol (fun hk => ?_), h.low, h.last, ht.keep h.row (fun hk => ?_), h.rd.touch ht (fun k M fr hm hk => ?_), lsO_turn h.ls ht (fun k M t fr hk hm => ?_)⟩
  · obtain ⟨a, b, c, d, e, _⟩ := hty k M t fr hk hm
    exact ⟨a, b, c, d, e⟩
  · exact (hty _ _ _ _ hk h.rol).2.2.2.2.2.1 rfl
  · exact (hty _ _ _ _ hk h.row).2.2.2.2.2.2.1 rfl
  · exact (hty _ _ _ _ hk hm).2.2.2.1 rfl
  · obtain ⟨_, _, _, d, _, _, _, e⟩ := hty k M t fr hk hm
    exact ⟨e, d⟩
/-- strings that a call owns stay where other blocks turn -/
theorem str_off {S : Nat → Prop} {w w' : World} {base n : Nat} {v : Value} {xs : List Value} (h : w.ownsRow base 9 1 v n xs) (ht : Turns S w w') (hS : ∀ k M t fr, S k → w.heap[k]? = some (.cells M t fr) → t ≠ 9) : w'.ownsRow base 9 1 v n xs :=
  own_touch h ht (fun k hk hs => by
    rcases h.2 with ⟨e, _⟩ | ⟨g, cap, cur, e, _, hg, _⟩
    · rw [e] at hk; cases hk
    · rw [e] at hk
      simp only [Value.ownBlock, Option.some.injEq] at hk
      subst hk
      exact hS _ _ _ _ hs hg rfl)
structure KL (B rb sb db vb nb xb : Nat) (d : DD) (s : SS) (v a b : VS) (pn : Option Addr) (cn : Nat) (px : Option Addr) (cx : Nat) (w2 wr : World) : Prop where
  xv : XV B rb sb db vb d s v wr
  nrow : wr.heap[nb]? = some (.cells (seA a pn a.after.length cn) 51 (0, 0))
  xrow : wr.heap[xb]? = some (.cells (seA b px b.after.length cx) 51 (0, 0))
  nown : wr.ownsRow B 9 1 (.slice pn a.after.length cn) a.after.length (strV a.after)
  xown : wr.ownsRow B 9 1 (.slice px b.after.length cx) b.after.length (strV b.after)
  low : Below B w2 wr
  nlow : B ≤ nb
  xlow : B ≤ xb
  ne : nb ≠ xb
  room : d.room = 65536
variable {B rb sb db vb nb xb : Nat} {d d' : DD} {s s' : SS} {v v' a b : VS} {pn px : Option Addr} {cn cx : Nat} {w2 wr w' : World}
theorem KL.below (h : KL B rb sb db vb nb xb d s v a b pn cn px cx w2 wr) (hb : Below wr.heap.size wr w') (hB : B ≤ wr.heap.size) : KL B rb sb db vb nb xb d s v a b pn cn px cx w2 w' :=
  ⟨h.xv.below hb, Below.keepOld hb h.nrow, Below.keepOld hb h.xrow, own_touch h.nown (Turns.of_below (S := fun _ => False) hb) (fun _ _ hh => hh), own_touch h.xown (Turns.of_below (S := fun _ => False) hb) (fun _ _ hh => hh), h.low.trans (hb.mono hB), h.nlow, h.xlow, h.ne, h.room⟩
theorem vty_str {base : Nat} {w : World} : ∀ k M t fr, VTy base w k → w.heap[k]? = some (.cells M t fr) → t ≠ 9 := fun k M t fr ⟨_, M', t', fr', e, ht⟩ hm => by
  rw [hm] at e
  injection e with e1
  injection e1 with _ e2
  subst e2
  rcases ht with rfl | rfl | rfl | rfl | rfl <;> decide
theorem KL.kv (h : KL B rb sb db vb nb xb d s v a b pn cn px cx w2 wr) (hk : KV B wr w') (hx : XV B rb sb db vb d' s' v' w') (hr : d'.room = 65536) (hB : B ≤ wr.heap.size) : KL B rb sb db vb nb xb d' s' v' a b pn cn px cx w2 w' :=
  ⟨hx, hk.row h.nrow (by decide) (by decide) (by decide) (by decide) (by decide), hk.row h.xrow (by decide) (by decide) (by decide) (by decide) (by decide), str_off h.nown hk vty_str, str_off h.xown hk vty_str, h.low.trans (hk.below hB), h.nlow, h.xlow, h.ne, hr⟩
theorem se_row {w : World} {k : Nat} {M0 : Array Value} (h : w.heap[k]? = some (.cells M0 51 (0, 0))) : ∀ i M t fr, i = k → w.heap[i]? = some (.cells M t fr) → t = 51 := fun i M t fr hi hm => by
  subst hi
  rw [h] at hm
  injection hm with e1
  injection e1 with _ e2
  exact e2.symm
theorem KL.setN {a' : VS} {p' : Option Addr} {c' : Nat} (h : KL B rb sb db vb nb xb d s v a b pn cn px cx w2 wr) (ho : wr.ownsRow B 9 1 (.slice p' a'.after.length c') a'.after.length (strV a'.after)) : KL B rb sb db vb nb xb d s v a' b p' c' px cx w2 (wr.setRow nb (seA a' p' a'.after.length c')) := by
  have ht := turns_setRow wr nb (seA a' p' a'.after.length c')
  have ty := se_row h.nrow
  have ts : ∀ k M t fr, k = nb → wr.heap[k]? = some (.cells M t fr) → t ≠ 9 := fun k M t fr hk hm => by rw [ty k M t fr hk hm]; decide
  exact ⟨h.xv.off ht (fun k M t fr hk hm => .inl (ty k M t fr hk hm)), setRow_heap _ _ _ _ _ _ h.nrow, by rw [setRow_other _ _ _ _ h.ne.symm]; exact h.xrow, str_off ho ht ts, str_off h.xown ht ts, below_setRow h.low h.nlow _, h.nlow, h.xlow, h.ne, h.room⟩
theorem KL.setX {b' : VS} {p' : Option Addr} {c' : Nat} (h : KL B rb sb db vb nb xb d s v a b pn cn px cx w2 wr) (ho : wr.ownsRow B 9 1 (.slice p' b'.after.length c') b'.after.length (strV b'.after)) : KL B rb sb db vb nb xb d s v a b' pn cn p' c' w2 (wr.setRow xb (seA b' p' b'.after.length c')) := by
  have ht := turns_setRow wr xb (seA b' p' b'.after.length c')
  have ty := se_row h.xrow
  have ts : ∀ k M t fr, k = xb → wr.heap[k]? = some (.cells M t fr) → t ≠ 9 := fun k M t fr hk hm => by rw [ty k M t fr hk hm]; decide
  exact ⟨h.xv.off ht (fun k M t fr hk hm => .inl (ty k M t fr hk hm)), by rw [setRow_other _ _ _ _ h.ne]; exact h.nrow, setRow_heap _ _ _ _ _ _ h.xrow, str_off h.nown ht ts, str_off ho ht ts, below_setRow h.low h.xlow _, h.nlow, h.xlow, h.ne, h.room⟩
theorem KL.nws (h : KL B rb sb db vb nb xb d s v a b pn cn px cx w2 wr) : Ws wr pn a.after.length cn a.after := own_ws h.nown
theorem KL.xws (h : KL B rb sb db vb nb xb d s v a b pn cn px cx w2 wr) : Ws wr px b.after.length cx b.after := own_ws h.xown
theorem KL.setC {x : List UInt8} {p' : Option Addr} {c' : Nat} (h : KL B rb sb db vb nb xb d s v a v pn cn px cx w2 wr) (ho : wr.ownsRow B 9 1 (.slice p' (v.after.length + 1) c') (v.after.length + 1) (strV (v.after ++ [x]))) : KL B rb sb db vb nb xb d s v a (pushV v x) pn cn p' c' w2 (wr.setCell ⟨xb, 2, none⟩ (.slice p' (v.after.length + 1) c')) := by
  have ht : Turns (fun k => k = xb) wr (wr.setCell ⟨xb, 2, none⟩ (.slice p' (v.after.length + 1) c')) := (Turns.refl (fun k => k = xb) wr).setCell (p := ⟨xb, 2, none⟩) (fun _ => rfl) _
  have ty := se_row h.xrow
  have ts : ∀ k M t fr, k = xb → wr.heap[k]? = some (.cells M t fr) → t ≠ 9 := fun k M t fr hk hm => by rw [ty k M t fr hk hm]; decide
  have hlen : (pushV v x).after.length = v.after.length + 1 := by show (v.after ++ [x]).length = _; rw [List.length_append]; rfl
  have hrow := Dk.cell_put (off := 2) (.slice p' (v.after.length + 1) c') h.xrow
  refine ⟨h.xv.off ht (fun k M t fr hk hm => .inl (ty k M t fr hk hm)), ht.keep h.nrow h.ne, by rw [hlen]; exact hrow, str_off h.nown ht ts, by rw [hlen]; exact str_off ho ht ts, h.low.trans (ht.below (Nat.le_trans h.xlow (Nat.le_of_lt (Array.getElem?_eq_some_iff.1 h.xrow).1)) (fun i hi => by subst hi; exact h.xlow)), h.nlow, h.xlow, h.ne, h.room⟩
theorem wpList_buildStr {ops : Array Oper} {rest : List Oper} {o : Oper} {a : Act} {w : World} {Q : Exit → Act → World → Prop} (hg : o.guard = none) (x : Operand) (ho : o.op = .buildSlice 49 1 #[(0, x)]) (s : List UInt8) (hx : a.eval x = .string (S s))
    (h : wpList Tryz.prog ops Q rest (a.put o.dst (.slice (some ⟨w.heap.size, 0, none⟩) 1 1)) (w.alloc (.cells #[.string (S s)] 9))) : wpList Tryz.prog ops Q (o :: rest) a w := by
  obtain ⟨i, hi, hiv⟩ := Option.map_eq_some_iff.1 infoStr
  obtain ⟨h1, h2, _⟩ := (by simpa using hiv : i.zero = some (.string ⟨#[]⟩) ∧ i.size = 1 ∧ i.bytes = 16)
  refine wpList_buildSlice hg 49 9 1 _ ho _ i _ Tryz.underlying49 hi h1 (by rw [h2]; omega) (by rw [h2]; omega) ?_ h
  have : (#[(0, x)].map fun (p : Nat × Operand) => (p.1, a.eval p.2)).toList = [(0, .string (S s))] := by simp [hx]
  rw [this, h2, show Array.map (fun x => (Value.string ⟨#[]⟩).cells[x % (Value.string ⟨#[]⟩).cells.size]!) (Array.range (1 * 1)) = #[.string ⟨#[]⟩] from by kernel_rfl]
  simp [Instr.fill, Value.cells]
theorem own_alloc {w : World} {base e size n : Nat} {v : Value} {xs : List Value} (h : w.ownsRow base e size v n xs) (o : Obj) : (w.alloc o).ownsRow base e size v n xs :=
  own_touch h (Turns.of_below (S := fun _ => False) (Below.allocs w o)) (fun _ _ hh => hh)
/-- the boxes, beside a disk alone -/
structure KQ (B db nb xb : Nat) (d : DD) (a b : VS) (pn : Option Addr) (cn : Nat) (px : Option Addr) (cx : Nat) (w2 wr : World) : Prop where
  dx : DX B db d wr
  nrow : wr.heap[nb]? = some (.cells (seA a pn a.after.length cn) 51 (0, 0))
  xrow : wr.heap[xb]? = some (.cells (seA b px b.after.length cx) 51 (0, 0))
  nown : wr.ownsRow B 9 1 (.slice pn a.after.length cn) a.after.length (strV a.after)
  xown : wr.ownsRow B 9 1 (.slice px b.after.length cx) b.after.length (strV b.after)
  low : Below B w2 wr
theorem KL.kq (h : KL B rb sb db vb nb xb d s v a b pn cn px cx w2 wr) : KQ B db nb xb d a b pn cn px cx w2 wr := ⟨h.xv.dx, h.nrow, h.xrow, h.nown, h.xown, h.low⟩
theorem KQ.kt (h : KQ B db nb xb d a b pn cn px cx w2 wr) (hk : KT B wr w') (hd : DX B db d' w') : KQ B db nb xb d' a b pn cn px cx w2 w' :=
  ⟨hd, (KV.of_kt hk).row h.nrow (by decide) (by decide) (by decide) (by decide) (by decide), (KV.of_kt hk).row h.xrow (by decide) (by decide) (by decide) (by decide) (by decide), str_off h.nown (KV.of_kt hk) vty_str, str_off h.xown (KV.of_kt hk) vty_str, h.low.trans (hk.below h.dx.1)⟩
theorem KQ.below (h : KQ B db nb xb d a b pn cn px cx w2 wr) (hb : Below wr.heap.size wr w') : KQ B db nb xb d a b pn cn px cx w2 w' := h.kt (KT.of_below hb) (h.dx.below hb)
/-- a part of a row of numbers -/
theorem ns_sub {w : World} {g k c : Nat} {cs : Array Value} {t : TypeId} {fr : Nat × Nat} {us : List Int} (hr : w.heap[g]? = some (.cells cs t fr)) (hc : ∀ j u, (us.map (Value.int .i64))[j]? = some u → cs[k + j]? = some u) (hl : us.length ≤ c) (hm : c ≤ 9223372036854775807) (hb : ∀ x ∈ us, -9223372036854775808 ≤ x ∧ x ≤ 9223372036854775807) : Ns w (some ⟨g, k, none⟩) us.length c us :=
  ⟨⟨by rw [List.length_map, Nat.mul_one], hl, hm, fun h => (by cases h), fun a ha j u hu => by
    obtain rfl := Option.some.inj ha
    rw [add_none, cell_of_row _ _ _ _ _ _ hr]
    exact hc j u hu⟩, rfl, hb⟩
theorem tree_one_no {P : Program} {ops : Array Oper} {S : World → Prop} {Q : Exit → Act → World → Prop} {l : List Oper} {i : Nat} {r : Tr} {a : Act} {w : World} {o : Oper} (hn : nthO l i = some o) (hw : Region.wanted o (yielded ops a.tmps) = false) (hS : S w)
    (h : wpTree P ops S Q l r (a.put o.dst undef) w) : wpTree P ops S Q l (.one i r) a w := by
  simp only [wpTree, hn, wpTurn]
  rw [if_neg (by rw [hw]; decide)]
  exact ⟨hS, h⟩
theorem tree_take_no {P : Program} {ops : Array Oper} {S : World → Prop} {Q : Exit → Act → World → Prop} {l : List Oper} {i : Nat} {r : Tr} {a : Act} {w : World} {o : Oper} (hn : nthO l i = some o) (hw : Region.wanted o (yielded ops a.tmps) = false)
    (h : wpTree P ops S Q l r (a.put o.dst undef) w) : wpTree P ops S Q l (.take i r) a w := by
  simp only [wpTree, hn]
  exact ⟨undef, .inr ⟨hw, rfl⟩, h⟩
theorem row_rangeV {w : World} {b : Nat} {A : Array Value} {t : TypeId} {fr : Nat × Nat} (h : w.heap[b]? = some (.cells A t fr)) : w.rangeAt b 0 A.toList := fun j v hv => by
  rw [Nat.zero_add, cell_of_row _ _ _ _ _ _ h, ← Array.getElem?_toList]; exact hv
end Go.Proofs.YtnejjfglkindjaaGreatDoor.Vlt
