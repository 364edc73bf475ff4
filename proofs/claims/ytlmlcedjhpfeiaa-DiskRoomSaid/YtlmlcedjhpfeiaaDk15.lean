/- WHAT A CALL LEAVES OF A DISK, whatever is asked; what calls do, one behind the other. Conditions: none. -/
import Derived.Test.YtlmlcedjhpfeiaaDk14
namespace Go.Proofs.Ytlmlcedjhpfeiaa.Dk
open Go.RowKit Go.Mir Go.Mir.Parts

/-- bytes put at whatever file -/
def putD (d : DD) (i : Int) (b : List UInt8) : DD := if 0 ≤ i then (match d.fs[i.toNat]? with | some f => doD d i.toNat f (.put b) | none => d) else d
/-- a cut at whatever file, to whatever size -/
def cutD (d : DD) (i m : Int) : DD := if 0 ≤ i then (match d.fs[i.toNat]? with | some f => if 0 ≤ m ∧ m ≤ (f.now.length : Int) then doD d i.toNat f (.cut m.toNat) else d | none => d) else d
/-- a sync at whatever file -/
def synD (d : DD) (i : Int) : DD := if 0 ≤ i then (match d.fs[i.toNat]? with | some f => syncD d i.toNat f | none => d) else d
theorem LeftD.same {w w' : World} {base db : Nat} {vs : List FV} {d : DD} (h : DAt w base db vs d) (hb : Below w.heap.size w w') : LeftD base db vs d w w' := ⟨vs, h.below hb, Turns.of_below hb, fun _ hk => .inl hk⟩
/-- a file of a disk's by its number -/
theorem file_cases {w : World} {base db : Nat} {vs : List FV} {d : DD} (h : DAt w base db vs d) (i : Int) :
    (∃ k : Nat, ∃ hk : k < d.fs.length, i = (k : Int) ∧ 0 ≤ i ∧ d.fs[i.toNat]? = some (d.fs[k]'hk) ∧ i.toNat = k) ∨ ((i < 0 ∨ 3 ≤ i) ∧ (¬ 0 ≤ i ∨ (0 ≤ i ∧ d.fs[i.toNat]? = none))) := by
  have h3 := h.m3
  by_cases h0 : 0 ≤ i
  · by_cases h1 : i < 3
    · have hk : i.toNat < d.fs.length := by omega
      exact .inl ⟨i.toNat, hk, by omega, h0, List.getElem?_eq_getElem hk, rfl⟩
    · exact .inr ⟨.inr (by omega), .inr ⟨h0, List.getElem?_eq_none (by omega)⟩⟩
  · exact .inr ⟨.inl (by omega), .inl h0⟩
def Said (base db : Nat) (vs : List FV) (d' : DD) (w : World) (e : Ending) (w' : World) : Prop := (∃ x, e = .returned (.int .i64 x)) ∧ LeftD base db vs d' w w'
theorem append_all {base db : Nat} {vs : List FV} {d : DD} (w : World) (h : DAt w base db vs d) (hbase : base ≤ w.heap.size) (i : Int) (p : Option Addr) (n c : Nat) (b : List UInt8) (hb : Bs w p n c b) (hn : n ≤ 140737488355328) (hfew : ∀ f ∈ d.fs, f.steps.length + 1 ≤ 4398046511104) :
    Calls Try.prog 10 #[.pointer (some ⟨db, 0, none⟩), .int .i64 i, .slice p n c] w (Said base db vs (putD d i b) w) := by
  rcases file_cases h i with ⟨k, hk, rfl, h0, hf, hki⟩ | ⟨ho, hr⟩
  · have e1 : putD d (k : Int) b = doD d k d.fs[k] (.put b) := by unfold putD; rw [if_pos h0, hf, hki]
    rw [e1]
    exact (append_in w h hbase k hk _ rfl p n c b hb hn (hfew _ (List.getElem_mem hk))).mono fun e w' ⟨h1, h2⟩ => ⟨⟨_, h1⟩, h2⟩
  · have e1 : putD d i b = d := by
      unfold putD
      rcases hr with hr | ⟨h0, hr⟩
      · rw [if_neg hr]
      · rw [if_pos h0, hr]
    rw [e1]
    exact (append_out w h i ho p n c b hb hn).mono fun e w' ⟨h1, h2⟩ => ⟨⟨_, h1⟩, LeftD.same h h2⟩
theorem cut_all {base db : Nat} {vs : List FV} {d : DD} (w : World) (h : DAt w base db vs d) (hbase : base ≤ w.heap.size) (i m : Int) (hfew : ∀ f ∈ d.fs, f.steps.length + 1 ≤ 4398046511104) :
    Calls Try.prog 11 #[.pointer (some ⟨db, 0, none⟩), .int .i64 i, .int .i64 m] w (Said base db vs (cutD d i m) w) := by
  rcases file_cases h i with ⟨k, hk, rfl, h0, hf, hki⟩ | ⟨ho, hr⟩
  · have e1 : cutD d (k : Int) m = if 0 ≤ m ∧ m ≤ ((d.fs[k]).now.length : Int) then doD d k d.fs[k] (.cut m.toNat) else d := by unfold cutD; rw [if_pos h0, hf, hki]
    rw [e1]
    by_cases hm : 0 ≤ m ∧ m ≤ ((d.fs[k]).now.length : Int)
    · rw [if_pos hm]
      have hmm : ((m.toNat : Nat) : Int) = m := by omega
      have := cut_in w h hbase k hk _ rfl m.toNat (by omega) (hfew _ (List.getElem_mem hk))
      rw [hmm] at this
      exact this.mono fun e w' ⟨h1, h2⟩ => ⟨⟨_, h1⟩, h2⟩
    · rw [if_neg hm]
      have hb : Calls Try.prog 29 #[.pointer (some ⟨db, 0, none⟩), .int .i64 (k : Int), .iface 70 (.agg #[.int .i64 m])] w fun e w' => e = .returned (.int .i64 1) ∧ Below w.heap.size w w' := by
        by_cases hl : m < 0
        · exact do_bad_lo w h k hk _ rfl m hl
        · exact do_bad_hi w h k hk _ rfl m (by omega)
      exact (cut_bad w _ m hb h).mono fun e w' ⟨h1, h2⟩ => ⟨⟨_, h1⟩, LeftD.same h h2⟩
  · have e1 : cutD d i m = d := by
      unfold cutD
      rcases hr with hr | ⟨h0, hr⟩
      · rw [if_neg hr]
      · rw [if_pos h0, hr]
    rw [e1]
    exact (cut_bad w i m (do_out w h i ho _ (.inr ⟨m, rfl⟩)) h).mono fun e w' ⟨h1, h2⟩ => ⟨⟨_, h1⟩, LeftD.same h h2⟩
theorem sync_all {base db : Nat} {vs : List FV} {d : DD} (w : World) (h : DAt w base db vs d) (hbase : base ≤ w.heap.size) (i : Int) :
    Calls Try.prog 12 #[.pointer (some ⟨db, 0, none⟩), .int .i64 i] w (Said base db vs (synD d i) w) := by
  rcases file_cases h i with ⟨k, hk, rfl, h0, hf, hki⟩ | ⟨ho, hr⟩
  · have e1 : synD d (k : Int) = syncD d k d.fs[k] := by unfold synD; rw [if_pos h0, hf, hki]
    rw [e1]
    exact (sync_in w h hbase k hk _ rfl).mono fun e w' ⟨h1, h2⟩ => ⟨⟨_, h1⟩, h2⟩
  · have e1 : synD d i = d := by
      unfold synD
      rcases hr with hr | ⟨h0, hr⟩
      · rw [if_neg hr]
      · rw [if_pos h0, hr]
    rw [e1]
    exact (sync_out w h i ho).mono fun e w' ⟨h1, h2⟩ => ⟨⟨_, h1⟩, h2 ▸ LeftD.same h (Below.refl _ _)⟩
end Go.Proofs.Ytlmlcedjhpfeiaa.Dk
