/- LAYER 18: the walk of DiskFuse. Conditions: none. -/
import Derived.Test.YtlmlcedjhpfeiaaDk10
namespace Go.Proofs.Ytlmlcedjhpfeiaa.Dk
open Go.RowKit Go.Mir Go.Mir.Parts

/-- where the loop stands, plain -/
structure Inv (F : Nat) (d : DD) (i : Nat) : Prop where
  room : d.room = 65536
  used : usedL d.fs ≤ i
  few : ∀ f ∈ d.fs, f.steps.length ≤ i
  st : (i < F ∧ d.down = false ∧ d.fuse = F - i) ∨ (F ≤ i ∧ d.down = true ∧ d.fuse = 0)
theorem burn_inv {F i : Nat} {d : DD} (hd : d.down = false) (hf : d.fuse = F - i) (hi : i < F) : (d.burn.down = decide (F ≤ i + 1)) ∧ d.burn.fuse = F - (i + 1) ∧ d.burn.room = d.room ∧ d.burn.fs = d.fs := by
  unfold DD.burn
  rw [if_pos (by omega)]
  exact ⟨decide_eq_decide.2 (by rw [hf]; omega), by show d.fuse - 1 = _; omega, rfl, rfl⟩
theorem st_next {F i : Nat} {d : DD} (h1 : d.down = decide (F ≤ i + 1)) (h2 : d.fuse = F - (i + 1)) : (i + 1 < F ∧ d.down = false ∧ d.fuse = F - (i + 1)) ∨ (F ≤ i + 1 ∧ d.down = true ∧ d.fuse = 0) := by
  by_cases h : F ≤ i + 1
  · exact .inr ⟨h, by rw [h1]; exact decide_eq_true h, by rw [h2]; omega⟩
  · exact .inl ⟨by omega, by rw [h1]; exact decide_eq_false h, h2⟩
/-- what each call answers -/
def dnE (F i : Nat) : Int := if F ≤ i + 1 then 18 else 0
theorem do_fits {d : DD} {i : Nat} {f : FD} {s : St} (h : d.down = false) (hn : ¬ d.room < usedL d.fs - f.need + max f.need (s.size f.now.length)) : doD d i f s = (setF d i (f.take s)).burn ∧ doE d i f s = if (setF d i (f.take s)).burn.down = true then 18 else 0 := by
  unfold doD doE
  simp only [h, Bool.false_eq_true, if_false, if_neg hn, and_self]
theorem do_down {d : DD} {i : Nat} {f : FD} {s : St} (h : d.down = true) : doD d i f s = d ∧ doE d i f s = 18 := by
  unfold doD doE
  rw [if_pos h, if_pos h]; exact ⟨rfl, rfl⟩
theorem do_inv {F i fi : Nat} {d : DD} {f : FD} {s : St} (h : Inv F d i) (hi : i ≤ 100) (hfi : fi < d.fs.length) (hf : d.fs[fi] = f) (hs : s.size f.now.length ≤ f.need + 1) : Inv F (doD d fi f s) (i + 1) ∧ doE d fi f s = dnE F i := by
  have hm := usedL_mem hfi
  rw [hf] at hm
  have hu := h.used
  rcases h.st with ⟨h1, h2, h3⟩ | ⟨h1, h2, h3⟩
  · have hnb : ¬ d.room < usedL d.fs - f.need + max f.need (s.size f.now.length) := by rw [h.room]; omega
    obtain ⟨b1, b2, b3, b4⟩ := burn_inv (d := setF d fi (f.take s)) (F := F) (i := i) h2 h3 h1
    obtain ⟨e1, e2⟩ := do_fits (i := fi) h2 hnb
    unfold dnE
    rw [e1, e2]
    refine ⟨⟨by rw [b3]; exact h.room, ?_, ?_, st_next b1 b2⟩, ?_⟩
    · rw [b4]
      show usedL (d.fs.set fi (f.take s)) ≤ _
      have h5 := usedL_set hfi (f.take s)
      rw [hf] at h5
      have h6 : (f.take s).need = max f.need (s.size f.now.length) := rfl
      omega
    · rw [b4]
      intro g hg
      rcases List.mem_or_eq_of_mem_set hg with hg | hg
      · have := h.few g hg; omega
      · rw [hg]
        show (f.steps ++ [s]).length ≤ _
        have := h.few f (by rw [← hf]; exact List.getElem_mem hfi)
        rw [List.length_append, List.length_singleton]; omega
    · rw [b1]
      by_cases hh : F ≤ i + 1
      · rw [decide_eq_true hh, if_pos rfl, if_pos hh]
      · rw [decide_eq_false hh, if_neg (by decide), if_neg hh]
  · obtain ⟨e1, e2⟩ := do_down (i := fi) (f := f) (s := s) h2
    unfold dnE
    rw [e1, e2, if_pos (by omega)]
    exact ⟨⟨h.room, by omega, fun g hg => by have := h.few g hg; omega, .inr ⟨by omega, h2, h3⟩⟩, rfl⟩
theorem sync_inv {F i fi : Nat} {d : DD} {f : FD} (h : Inv F d i) (hfi : fi < d.fs.length) (hf : d.fs[fi] = f) (hn : (f.settle (unitsAll f.steps)).need ≤ f.need) : Inv F (syncD d fi f) (i + 1) ∧ syncE d = dnE F i := by
  have hu := h.used
  rcases h.st with ⟨h1, h2, h3⟩ | ⟨h1, h2, h3⟩
  · obtain ⟨b1, b2, b3, b4⟩ := burn_inv (d := d) (F := F) (i := i) h2 h3 h1
    by_cases hh : F ≤ i + 1
    · rw [decide_eq_true hh] at b1
      obtain ⟨e1, e2⟩ := sync_burnt fi f h2 b1
      unfold dnE
      rw [e1, e2, if_pos hh]
      exact ⟨⟨by rw [b3]; exact h.room, by rw [b4]; omega, by rw [b4]; exact fun g hg => by have := h.few g hg; omega, st_next (by rw [b1]; exact (decide_eq_true hh).symm) b2⟩, rfl⟩
    · rw [decide_eq_false hh] at b1
      obtain ⟨e1, e2⟩ := sync_ok fi f h2 b1
      unfold dnE
      rw [e1, e2, if_neg hh]
      refine ⟨⟨by show d.burn.room = _; rw [b3]; exact h.room, ?_, ?_, st_next (d := setF d.burn fi _) (by show d.burn.down = _; rw [b1]; exact (decide_eq_false hh).symm) b2⟩, rfl⟩
      · show usedL (d.burn.fs.set fi _) ≤ _
        rw [b4]
        have h5 := usedL_set hfi (f.settle (unitsAll f.steps))
        rw [hf] at h5
        omega
      · intro g hg
        replace hg : g ∈ d.burn.fs.set fi (f.settle (unitsAll f.steps)) := hg
        rw [b4] at hg
        rcases List.mem_or_eq_of_mem_set hg with hg | hg
        · have := h.few g hg; omega
        · rw [hg]; exact Nat.zero_le _
  · obtain ⟨e1, e2⟩ := sync_down fi f h2
    unfold dnE
    rw [e1, e2, if_pos (by omega)]
    exact ⟨⟨h.room, by omega, fun g hg => by have := h.few g hg; omega, .inr ⟨by omega, h2, h3⟩⟩, rfl⟩
/-- the disk, the memory -/
def FuseR (W : World) (F base db : Nat) (i : Nat) (wr : World) : Prop := ∃ vs d, DAt wr base db vs d ∧ Inv F d i ∧ W.heap.size ≤ base ∧ base ≤ wr.heap.size ∧ Below W.heap.size W wr
end Go.Proofs.Ytlmlcedjhpfeiaa.Dk
