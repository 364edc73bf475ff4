/- PLAIN PART OF DiskKeeps: behind a sync nothing waits; a crash keeps the first bytes of what was put behind it. Conditions: none. -/
import Derived.Test.YtlmlcedjhpfeiaaDkPlay
namespace Go.Proofs.Ytlmlcedjhpfeiaa.Dk
open Go.RowKit Go.Mir

/-- how many bytes are kept -/
def keepN (L : Nat) (units : Int) : Nat := ((units.tmod ((L + 1 : Nat) : Int) + ((L + 1 : Nat) : Int)).tmod ((L + 1 : Nat) : Int)).toNat
theorem keepN_le (L : Nat) (units : Int) : keepN L units ≤ L := by
  unfold keepN
  have h0 : (0 : Int) < ((L + 1 : Nat) : Int) := by omega
  have h1 := Int.tmod_lt_of_pos (units.tmod ((L + 1 : Nat) : Int) + ((L + 1 : Nat) : Int)) h0
  omega
theorem keepN_eq (L : Nat) (units : Int) : (-(L : Int) ≤ units.tmod ((L : Int) + 1) ∧ units.tmod ((L : Int) + 1) ≤ (L : Int)) ∧ (units.tmod ((L : Int) + 1) + (L : Int) + 1).tmod ((L : Int) + 1) = (keepN L units : Int) ∧ (units.tmod ((L : Int) + 1) + (L : Int) + 1) % ((L : Int) + 1) = (keepN L units : Int) := by
  have h0 : (0 : Int) < (L : Int) + 1 := by omega
  have h1 := Int.tmod_lt_of_pos units h0
  have h2 := Int.lt_tmod_of_pos units h0
  unfold keepN
  have e : ((L + 1 : Nat) : Int) = (L : Int) + 1 := by omega
  rw [e]
  generalize units.tmod ((L : Int) + 1) = r at *
  have e2 : r + ((L : Int) + 1) = r + (L : Int) + 1 := by omega
  rw [e2]
  have h3 : 0 ≤ (r + (L : Int) + 1).tmod ((L : Int) + 1) := by rw [Int.tmod_eq_emod_of_nonneg (by omega)]; exact Int.emod_nonneg _ (by omega)
  have e3 : (r + (L : Int) + 1) % ((L : Int) + 1) = (r + (L : Int) + 1).tmod ((L : Int) + 1) := (Int.tmod_eq_emod_of_nonneg (by omega)).symm
  rw [e3]
  exact ⟨by omega, by omega, by omega⟩
theorem sync_cases (d : DD) : syncE d = 18 ∨ (syncE d = 0 ∧ d.down = false ∧ d.burn.down = false) := by
  unfold syncE
  cases h : d.down with
  | true => exact .inl (by simp)
  | false =>
    cases hb : d.burn.down with
    | true => exact .inl (by simp)
    | false => exact .inr ⟨by simp, rfl, rfl⟩
theorem sync_leaves {d : DD} (h3 : d.fs.length = 3) (h1 : 1 < d.fs.length) (hd : d.down = false) (hb : d.burn.down = false) :
    ∃ f2 : FD, ∃ h : 1 < (syncD d 1 d.fs[1]).fs.length, (syncD d 1 d.fs[1]).fs[1] = f2 ∧ f2.kept = f2.now ∧ f2.steps = [] ∧ (syncD d 1 d.fs[1]).down = false := by
  have e := (sync_ok 1 d.fs[1] hd hb).1
  obtain ⟨hl, hg⟩ := List.getElem?_eq_some_iff.1 (show (syncD d 1 d.fs[1]).fs[1]? = some (d.fs[1].settle (unitsAll d.fs[1].steps)) by
    rw [e]
    show (d.burn.fs.set 1 _)[1]? = _
    rw [List.getElem?_set, if_pos rfl, if_pos (by rw [burn_fs]; exact h1)])
  exact ⟨_, hl, hg, rfl, rfl, by rw [e]; exact hb⟩
theorem keep_step {d2 : DD} {f2 : FD} (h3 : d2.fs.length = 3) (h1 : 1 < d2.fs.length) (hf : d2.fs[1] = f2) (hk : f2.kept = f2.now) (hs : f2.steps = []) (hd : d2.down = false) (b : List UInt8) (units : Int) :
    ∃ h : 1 < (crashD [0, units] (doD d2 1 f2 (.put b))).fs.length,
      (crashD [0, units] (doD d2 1 f2 (.put b))).fs[1].kept = (crashD [0, units] (doD d2 1 f2 (.put b))).fs[1].now ∧
      ((doE d2 1 f2 (.put b) = 17 ∧ (crashD [0, units] (doD d2 1 f2 (.put b))).fs[1].now = f2.now) ∨
       ((doE d2 1 f2 (.put b) = 18 ∨ doE d2 1 f2 (.put b) = 0) ∧ (crashD [0, units] (doD d2 1 f2 (.put b))).fs[1].now = f2.now ++ b.take (keepN b.length units))) := by
  obtain ⟨fs, room, fuse, down⟩ := d2
  obtain ⟨x, y, z, rfl⟩ := list3 h3
  have hy : y = f2 := hf
  subst hy
  have hd' : down = false := hd
  subst hd'
  by_cases hbig : room < usedL [x, y, z] - y.need + max y.need ((St.put b).size y.now.length)
  · have e1 : doE ⟨[x, y, z], room, fuse, false⟩ 1 y (.put b) = 17 := by unfold doE; rw [if_neg Bool.false_ne_true, if_pos hbig]
    have e2 : doD ⟨[x, y, z], room, fuse, false⟩ 1 y (.put b) = ⟨[x, y, z], room, fuse, false⟩ := by unfold doD; rw [if_neg Bool.false_ne_true, if_pos hbig]
    rw [e1, e2]
    refine ⟨(show 1 < 3 by decide), rfl, .inl ⟨rfl, ?_⟩⟩
    show someU y.kept y.steps _ = y.now
    rw [hs, hk]; rfl
  · have e1 : doE ⟨[x, y, z], room, fuse, false⟩ 1 y (.put b) = 18 ∨ doE ⟨[x, y, z], room, fuse, false⟩ 1 y (.put b) = 0 := by
      unfold doE; rw [if_neg Bool.false_ne_true, if_neg hbig]
      split
      · exact .inl rfl
      · exact .inr rfl
    have e2 : (doD ⟨[x, y, z], room, fuse, false⟩ 1 y (.put b)).fs = [x, y.take (.put b), z] := by
      unfold doD; rw [if_neg Bool.false_ne_true, if_neg hbig, burn_fs]; rfl
    have e3 : (crashD [0, units] (doD ⟨[x, y, z], room, fuse, false⟩ 1 y (.put b))).fs = [x.settle (crU [0, units] 0 x), (y.take (.put b)).settle (crU [0, units] 1 (y.take (.put b))), z.settle (crU [0, units] 2 z)] := by
      show crF _ 0 (doD _ _ _ _).fs = _
      rw [e2]; rfl
    simp only [e3]
    refine ⟨(show 1 < 3 by decide), rfl, .inr ⟨e1, ?_⟩⟩
    show someU y.kept (y.steps ++ [.put b]) (crU [0, units] 1 (y.take (.put b))) = _
    have hst : (y.take (.put b)).steps = [.put b] := by show y.steps ++ [_] = _; rw [hs]; rfl
    have hu : crU [0, units] 1 (y.take (.put b)) = keepN b.length units := by
      unfold crU keepN
      rw [hst]
      show (((units.tmod _ + _).tmod _)).toNat = _
      rfl
    rw [hu, hs, hk]
    show (St.put b).act y.now (min (keepN b.length units) b.length) = _
    rw [Nat.min_eq_left (keepN_le _ _)]
    rfl
theorem ns_lit (w : World) (t : TypeId) (us : List Int) (hl : us.length ≤ 65536) (hb : ∀ x ∈ us, -9223372036854775808 ≤ x ∧ x ≤ 9223372036854775807) : Ns (w.alloc (.cells (us.map (Value.int .i64)).toArray t)) (some ⟨w.heap.size, 0, none⟩) us.length us.length us :=
  ⟨⟨by rw [List.length_map, Nat.mul_one], Nat.le_refl _, by omega, fun h => (by cases h), fun a ha j u hu => by
    obtain rfl := Option.some.inj ha
    rw [add_none, Nat.zero_add, cell_of_row _ _ _ _ _ _ (heap_alloc_last _ _), ← Array.getElem?_toList]
    exact hu⟩, rfl, hb⟩
theorem Bs.upto {w : World} {p : Option Addr} {n c : Nat} {l : List UInt8} (h : Bs w p n c l) (k : Nat) (hk : k ≤ n) : Bs w p k c (l.take k) := by
  have hn := h.length
  refine ⟨by rw [bytesV_length, List.length_take, Nat.mul_one]; omega, Nat.le_trans hk h.le, h.max, fun hp => ?_, fun a ha j u hu => ?_⟩
  · exact h.nil0 hp
  · have h1 : (bytesV l)[j]? = some u := by
      simp only [bytesV, List.getElem?_map, List.getElem?_take] at hu ⊢
      split at hu
      · exact hu
      · simp at hu
    exact h.cell a ha j u h1
end Go.Proofs.Ytlmlcedjhpfeiaa.Dk
