/- THE WALKS OF A DISK: units counted, a file settled. Conditions: none. -/
import Derived.Test.YtlmlcedjhpfeiaaDk3
namespace Go.Proofs.Ytlmlcedjhpfeiaa.Dk
open Go.RowKit Go.Mir

theorem unitsAll_take_succ {l : List St} {k : Nat} (h : k < l.length) : unitsAll (l.take (k + 1)) = unitsAll (l.take k) + l[k].units := by
  rw [List.take_succ_eq_append_getElem h, unitsAll_snoc]
theorem unitsAll_take_le {l : List St} (k : Nat) : unitsAll (l.take k) ≤ unitsAll l := by
  induction l generalizing k with
  | nil => simp
  | cons x l ih =>
    cases k with
    | zero => exact Nat.zero_le _
    | succ k => rw [List.take_succ_cons, unitsAll, unitsAll]; have := ih k; omega
/-- a step's units, by its interface -/
theorem mPutUnits (x : Value) (w0 : World) : (method 210 68 x "mirador/disk.units").run Try.prog w0 = .ok (66, x) w0 := by kernel_rfl
theorem mCutUnits (x : Value) (w0 : World) : (method 210 70 x "mirador/disk.units").run Try.prog w0 = .ok (68, x) w0 := by kernel_rfl
theorem invUnits_any {base : Nat} (w : World) (sv : Value) (s : St) (hs : StAt w base sv s) : ∃ x,
    (sv = .iface 68 x ∧ ∀ w0 : World, Calls Try.prog 66 #[x] w0 fun e w' => e = .returned (.int .i64 (s.units : Int)) ∧ Below w0.heap.size w0 w') ∨
    (sv = .iface 70 x ∧ ∀ w0 : World, Calls Try.prog 68 #[x] w0 fun e w' => e = .returned (.int .i64 (s.units : Int)) ∧ Below w0.heap.size w0 w') := by
  cases s with
  | put b =>
    obtain ⟨bv, rfl, hrd⟩ := hs
    obtain ⟨p, c, rfl, hbs⟩ := hrd.bs
    exact ⟨_, .inl ⟨rfl, fun w0 => putUnits_any _ _ _ _⟩⟩
  | cut n =>
    cases hs
    exact ⟨_, .inr ⟨rfl, fun w0 => cutUnits_any _ _⟩⟩
set_option maxRecDepth 100000 in
theorem fileUnits_any {base db : Nat} {vs : List FV} {d : DD} (w : World) (h : DAt w base db vs d) (i : Nat) (hi : i < d.fs.length) :
    Calls Try.prog 33 #[.pointer (some ⟨db, i * 4, none⟩)] w fun e w' => e = .returned (.int .i64 (unitsAll d.fs[i].steps : Int)) ∧ Below w.heap.size w w' := by
  have hv : i < vs.length := by have := h.n3; have := h.m3; omega
  have hc := (h.file i hv).2.2.1
  have hf := h.each i _ _ (List.getElem?_eq_getElem hv) (List.getElem?_eq_getElem hi)
  have hfew := h.few _ (List.getElem_mem hi)
  obtain ⟨vals, ho, hst⟩ := hf.steps
  obtain ⟨p, c, e, hs⟩ := own_sl ho
  have hun := hf.ok.un
  rw [e] at hc
  generalize d.fs[i] = f at *
  have HS := Lib.hid hs
  have HST := Lib.hid hst
  have hle := hs.le
  have hmax := hs.max
  have HVL : Hid (vals.length = f.steps.length) := by show _ = _; have := hs.len; omega
  clear ho hst hs e hf h
  go_enter Try.func33, Try.ntmps33
  go_wp2_with fail
  go_loopw [3, 11] (fun a j wr => ∃ k : Nat, k ≤ f.steps.length ∧ j = .int .i64 k ∧ a = .int .i64 (unitsAll (f.steps.take k) : Int) ∧ Below w.heap.size w wr) (fun _ j _ => f.steps.length - (intOf j).toNat)
  case atStart => exact ⟨0, by omega, rfl, rfl, Below.refl _ _⟩
  case round =>
    obtain ⟨k, hk, rfl, rfl, hb⟩ := hrel
    have HB := Lib.hid hb
    by_cases hlt : k < f.steps.length
    · have hd : decide ((k : Int) < (f.steps.length : Int)) = true := decide_eq_true (by omega)
      have hd2 : decide (k < f.steps.length) = true := decide_eq_true hlt
      obtain ⟨g, o, rfl⟩ := HS.out.addr (by omega) (by omega)
      have hkv : k < vals.length := by rw [HVL.out]; exact hlt
      have hcell : wr.cell? ⟨g, o + k, none⟩ = some (vals[k]'hkv) := cell_below (HS.out.at (List.getElem?_eq_getElem hkv)) hb
      have HSK := Lib.hid (unitsAll_take_succ (l := f.steps) hlt)
      have hle2 := unitsAll_take_le (l := f.steps) (k + 1)
      rw [HSK.out] at hle2
      obtain ⟨x, hinv⟩ := invUnits_any w _ _ (HST.out k _ _ (List.getElem?_eq_getElem hkv) (List.getElem?_eq_getElem hlt))
      generalize f.steps[k] = s at *
      generalize unitsAll (f.steps.take k) = acc at *
      have hw1 : IntKind.i64.wrap ((acc : Int) + (s.units : Int)) = (acc : Int) + (s.units : Int) := IntWalk.i64_in _ (by omega)
      clear hb
      rcases hinv with ⟨hx, hcl⟩ | ⟨hx, hcl⟩
      · rw [hx] at hcell
        have HCL := Lib.hid hcl
        have hm := mPutUnits
        clear hcl hx
        go_wp2_with fail
        refine (HCL.out _).mono ?_
        rintro e w2 ⟨rfl, hb2⟩
        have HB2 := Lib.hid (HB.out.trans (hb2.mono HB.out.size))
        clear hb2
        go_wp2_with fail
        go_roundw
        case rel => exact ⟨k + 1, by omega, by go_num, by rw [HSK.out, Int.natCast_add], HB2.out⟩
        case measure => simp [intOf]; omega
      · rw [hx] at hcell
        have HCL := Lib.hid hcl
        have hm := mCutUnits
        clear hcl hx
        go_wp2_with fail
        refine (HCL.out _).mono ?_
        rintro e w2 ⟨rfl, hb2⟩
        have HB2 := Lib.hid (HB.out.trans (hb2.mono HB.out.size))
        clear hb2
        go_wp2_with fail
        go_roundw
        case rel => exact ⟨k + 1, by omega, by go_num, by rw [HSK.out, Int.natCast_add], HB2.out⟩
        case measure => simp [intOf]; omega
    · have hd : decide ((k : Int) < (f.steps.length : Int)) = false := decide_eq_false (by omega)
      have hd2 : decide (k < f.steps.length) = false := decide_eq_false hlt
      have HT : Hid (f.steps.take k = f.steps) := by show _ = _; rw [List.take_of_length_le (by omega)]
      rw [HT.out]
      go_wp2_with fail
      go_ret
      exact ⟨rfl, HB.out⟩
end Go.Proofs.Ytlmlcedjhpfeiaa.Dk
