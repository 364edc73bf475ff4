/- PARTS, JOINED: THE REFERENCE'S DISK: Do, where the step may be done. Conditions: sizes that fit. -/
import Derived.Test.YtgmahahhkaofbaaGreatDoorSd1
import Derived.Test.YtgmahahhkaofbaaGreatDoorSd2
import Derived.Test.YtgmahahhkaofbaaGreatDoorSd3
import Derived.Test.YtgmahahhkaofbaaGreatDoorSd4
namespace Go.Proofs.YtgmahahhkaofbaaGreatDoor.Rk
open Go.RowKit Go.Mir Go.Mir.Parts Dk

theorem row_sl {w : World} {b : Nat} {A : Array Value} {t : TypeId} {fr : Nat × Nat} (h : w.heap[b]? = some (.cells A t fr)) (n : Nat) (hn : A.size = n) : Sl w (some ⟨b, 0, none⟩) 1 1 n A.toList :=
  ⟨by rw [Array.length_toList, hn, Nat.one_mul], Nat.le_refl _, by omega, fun h => (by cases h), fun a ha j u hu => by
    obtain rfl := Option.some.inj ha
    rw [add_none, Nat.zero_add, cell_of_row _ _ _ _ _ _ h, ← Array.getElem?_toList]
    exact hu⟩
theorem own_below_alloc {w : World} {base e size n : Nat} {v : Value} {xs : List Value} (h : w.ownsRow base e size v n xs) (o : Obj) : (w.alloc o).ownsRow base e size v n xs :=
  own_touch h (Turns.of_below (S := fun _ => False) (Below.allocs w o)) (fun _ _ h => h)
theorem infoSteps : (Tryz.prog.info? 70).map (fun i => (i.zero, i.size, i.bytes)) = some (some (.agg #[.bool false, .int .i64 0, .slice none 0 0]), 3, 40) := by kernel_rfl
theorem rsetS {ts : List RF} {d : DD} (h1 : ts.length = 3) (h2 : d.fs.length = 3) (i : Nat) {t : RF} {f : FD} (ht : ts[i]? = some t) (hf : d.fs[i]? = some f) (p : Option Addr) (c : Nat) (f' : FD) (hk : f'.kept = f.kept) :
    (rdA ts d).setIfInBounds (i * 2 + 1) (.slice p f'.steps.length c) = rdA (ts.set i ⟨t.kp, t.kc, p, c⟩) (setF d i f') := by
  obtain ⟨a, b, e, x, y, z, rfl, e2⟩ := rdA_form h1 h2
  unfold rdA rdL setF
  rw [e2] at hf ⊢
  match i, ht, hf with
  | 0, ht, hf => cases ht; cases hf; simp [fL, hk]
  | 1, ht, hf => cases ht; cases hf; simp [fL, hk]
  | 2, ht, hf => cases ht; cases hf; simp [fL, hk]
  | i + 3, ht, hf => cases ht
theorem RQ.steps {base g : Nat} {ts : List RF} {d : DD} {x : World} (h : RQ base g ts d x) (i : Nat) (hi : i < 3) {t : RF} {f : FD} (ht : ts[i]? = some t) (hf : d.fs[i]? = some f) (p : Option Addr) (c : Nat) (f' : FD) (hkp : f'.kept = f.kept) (hr : Rb base x ⟨t.kp, t.kc, p, c⟩ f') (hn : Nd f') (hu : usedL (setF d i f').fs ≤ 1000000) :
    RQ base g (ts.set i ⟨t.kp, t.kc, p, c⟩) (setF d i f') (x.setCell ⟨g, i * 2 + 1, none⟩ (.slice p f'.steps.length c)) ∧ KR base x (x.setCell ⟨g, i * 2 + 1, none⟩ (.slice p f'.steps.length c)) := by
  have hk : KR base x (x.setCell ⟨g, i * 2 + 1, none⟩ (.slice p f'.steps.length c)) := KR.of_turn ((Turns.refl (fun k => k = g) x).setCell (p := ⟨g, i * 2 + 1, none⟩) (fun _ => rfl) _) h.row
  refine ⟨⟨by rw [heap_setCell_same _ _ _ _ _ _ h.row, rsetS h.n3 h.m3 i ht hf p c f' hkp], h.low, by rw [List.length_set]; exact h.n3, by show (d.fs.set i f').length = 3; rw [List.length_set]; exact h.m3, fun j t' g' a b => ?_, h.room1, h.fuse1, hu⟩, hk⟩
  have b : (d.fs.set i f')[j]? = some g' := b
  rw [List.getElem?_set] at a b
  by_cases hij : i = j
  · rw [if_pos hij] at a b
    rw [if_pos (by rw [h.n3]; omega)] at a
    rw [if_pos (by rw [h.m3]; omega)] at b
    cases a; cases b
    exact ⟨hr.step hk, hn⟩
  · rw [if_neg hij] at a b
    exact ⟨(h.each j t' g' a b).1.step hk, (h.each j t' g' a b).2⟩
/-- a file with one step more -/
theorem Rb.snoc {base : Nat} {w x : World} {t : RF} {f : FD} {s : St} {r : List Value} {p : Option Addr} {c b2 : Nat} {rows : List (List Value)} (hrb : ∀ y, KR base w y → RFR y t f rows)
    (hsr : ∀ y, KR base w y → StR y r s) (hr3 : r.length = 3) (hok : (f.take s).Ok) (hfew : f.steps.length + 1 ≤ 4398046511104) (hb : Below w.heap.size w x) (ho : x.ownsRow b2 70 3 (.slice p (f.steps.length + 1) c) (f.steps.length + 1) (rows.flatten ++ r)) :
    Rb base x ⟨t.kp, t.kc, p, c⟩ (f.take s) := ⟨rows ++ [r], fun y hy => by
  have hwy : KR base w y := (KR.of_below hb).trans hy
  have hrf := hrb y hwy
  have hl : (f.take s).steps.length = f.steps.length + 1 := by show (f.steps ++ [s]).length = _; simp
  have hoy := hy.own ho (fun h => h.2 rfl)
  obtain ⟨p', c', e1, hs⟩ := own_sl hoy
  cases e1
  refine ⟨hrf.kept, ?_, ?_, hok, by rw [hl]; exact hfew⟩
  · rw [hl]
    refine ⟨by rw [List.flatten_append]; simpa using hs, fun q hq => ?_, by rw [List.length_append, hrf.rs.count]; rfl⟩
    rcases List.mem_append.1 hq with hq | hq
    · exact hrf.rs.each q hq
    · rw [List.mem_singleton] at hq; subst hq; exact hr3
  · intro i q s' hq hs'
    have hs' : (f.steps ++ [s])[i]? = some s' := hs'
    by_cases hi : i < rows.length
    · rw [List.getElem?_append_left hi] at hq
      rw [List.getElem?_append_left (by rw [← hrf.rs.count]; exact hi)] at hs'
      exact hrf.st i q s' hq hs'
    · rw [List.getElem?_append_right (by omega)] at hq
      rw [List.getElem?_append_right (by rw [← hrf.rs.count]; omega)] at hs'
      rw [hrf.rs.count] at hq
      have h0 : i - f.steps.length = 0 := by
        have := (List.getElem?_eq_some_iff.1 hq).1
        simp at this; omega
      rw [h0] at hq hs'
      cases hq; cases hs'
      exact hsr y hwy⟩
end Go.Proofs.YtgmahahhkaofbaaGreatDoor.Rk
