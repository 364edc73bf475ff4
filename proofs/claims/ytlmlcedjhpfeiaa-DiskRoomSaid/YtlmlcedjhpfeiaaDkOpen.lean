/- CALLS OF A STATEMENT ON DISKS, that came in. Conditions: none. -/
import Derived.Test.YtlmlcedjhpfeiaaRows
import Derived.Test.YtlmlcedjhpfeiaaOpen
import Derived.Test.YtlmlcedjhpfeiaaDkOps
import Derived.SizedLaws
namespace Go.Proofs.Ytlmlcedjhpfeiaa.Dk
open Go.ChangeShapes Go.WideShapes Go.ChangeAt Go.RowKit Go.Mir

/-- an []int by its cell -/
theorem trod_ns {P : Program} {W : World} {H : Type} {enc : TypeId × Value → H} {base fuel t e : Nat} {held : Bool} {cs : List Value} {x : DataW H × List MemPlace}
    (ht : P.underlying t = some (.slice e)) (he : P.underlying e = some (.int .i64)) (hc : P.cellsOf e = 1) (h : DataW.trod enc P W base (fun _ => true) held fuel t cs = some x) :
    ∃ p n c l, cs = [.slice p n c] ∧ Ns W p n c l ∧ dlen x.1 = n := by
  rcases Deep.open_slice1 ht hc h with ⟨rfl, rfl⟩ | ⟨a, len, cap, m, k, V, D, Pl, rfl, hb, hl, hm, hmm, rfl, hx⟩
  · exact ⟨_, _, _, [], rfl, ⟨Sl.nil _ _, rfl, fun x h => by simp at h⟩, rfl⟩
  · simp only [if_true] at hmm
    subst hmm
    have key : ∀ i, i < m → ∃ z : Int, V i = .int .i64 z ∧ -9223372036854775808 ≤ z ∧ z ≤ 9223372036854775807 := by
      intro i hi
      obtain ⟨z, hz, _, hw⟩ := DataW.trod_int he (hx i hi).2
      exact ⟨z, by simpa using hz, i64_bd hw⟩
    refine ⟨_, _, _, (List.range len).map (fun i => intOf (V i)), rfl, ⟨⟨?_, hl, by simpa [maxLen] using hm, fun h => (by cases h), fun a' ha j u hu => ?_⟩, by simp, fun x hx' => ?_⟩, by simp [dlen]⟩
    · simp
    · obtain rfl := Option.some.inj ha
      have hj : j < len := by
        have := (List.getElem?_eq_some_iff.1 hu).1
        simpa using this
      rw [(hx j (by omega)).1, ← hu]
      obtain ⟨z, hz, _⟩ := key j (by omega)
      rw [hz]
      simp [hj, hz, intOf]
    · simp only [List.mem_map, List.mem_range] at hx'
      obtain ⟨i, hi, rfl⟩ := hx'
      obtain ⟨z, hz, h1, h2⟩ := key i (by omega)
      rw [hz]
      exact ⟨h1, h2⟩
theorem split5 {cs : List Value} (h : cs.length = 5) : cs = (cs.drop 0).take 1 ++ (cs.drop 1).take 1 ++ (cs.drop 2).take 1 ++ (cs.drop 3).take 1 ++ (cs.drop 4).take 1 := by
  match cs, h with
  | [a, b, c, d, e], _ => rfl
theorem trod_dop {W : World} {H : Type} {enc : TypeId × Value → H} {base fuel : Nat} {held : Bool} {cs : List Value} {x : DataW H × List MemPlace}
    (h : DataW.trod enc Try.prog W base (fun _ => true) held fuel 54 cs = some x) :
    ∃ o : DOp, DOpAt W cs o ∧ ∃ d0 d1 d2 d3 d4, x.1 = .agg [d0, d1, d2, d3, d4] ∧ dlen d3 = o.b.length ∧ dlen d4 = o.us.length := by
  obtain ⟨xs, m, rfl, rfl, hl, hxl, hx⟩ := DataW.trod_struct Try.underlying54 h
  have hl' : cs.length = 5 := by rw [hl]; kernel_rfl
  have hxl' : xs.length = 5 := by rw [hxl]; rfl
  match xs, hxl' with
  | [x0, x1, x2, x3, x4], _ =>
    have h0 := hx 0 _ rfl
    have h1 := hx 1 _ rfl
    have h2 := hx 2 _ rfl
    have h3 := hx 3 _ rfl
    have h4 := hx 4 _ rfl
    obtain ⟨z0, e0, _, w0⟩ := DataW.trod_int Try.underlying3 h0
    obtain ⟨z1, e1, _, w1⟩ := DataW.trod_int Try.underlying3 h1
    obtain ⟨z2, e2, _, w2⟩ := DataW.trod_int Try.underlying3 h2
    obtain ⟨p3, n3, c3, l3, e3, b3, dl3⟩ := trod_bs Try.underlying22 Try.underlying5 rfl h3
    obtain ⟨p4, n4, c4, l4, e4, b4, dl4⟩ := trod_ns Try.underlying44 Try.underlying3 rfl h4
    obtain rfl := b3.length
    obtain rfl := b4.count
    refine ⟨⟨z0, z1, z2, l3, l4⟩, ⟨⟨p3, c3, p4, c4, ?_, b3, b4⟩, i64_bd w0, i64_bd w1, i64_bd w2⟩, x0.1, x1.1, x2.1, x3.1, x4.1, rfl, dl3, dl4⟩
    have hs := split5 hl'
    have e0' : (cs.drop 0).take 1 = [.int .i64 z0] := e0
    have e1' : (cs.drop 1).take 1 = [.int .i64 z1] := e1
    have e2' : (cs.drop 2).take 1 = [.int .i64 z2] := e2
    have e3' : (cs.drop 3).take 1 = [.slice p3 l3.length c3] := e3
    have e4' : (cs.drop 4).take 1 = [.slice p4 l4.length c4] := e4
    rw [e0', e1', e2', e3', e4'] at hs
    rw [hs]
    rfl
/-! ### what it weighs -/
theorem wAll_mem {H : Type} {P : Program} {e : TypeId} : ∀ {l : List (DataW H)}, (DataW.weightsAll P e l).all (· ≤ reachBytes) = true → ∀ d ∈ l, (d.weights P e).all (· ≤ reachBytes) = true
  | [], _, d, hd => by cases hd
  | x :: r, h, d, hd => by
    rw [DataW.weightsAll, List.all_append, Bool.and_eq_true] at h
    rcases List.mem_cons.1 hd with rfl | hd
    · exact h.1
    · exact wAll_mem h.2 d hd
theorem wEach_mem {H : Type} {P : Program} {ts : List TypeId} {ds : List (DataW H)} (h : (DataW.weightsEach P ts ds).all (· ≤ reachBytes) = true) {j : Nat} {t : TypeId} {d : DataW H} (ht : ts[j]? = some t) (hd : ds[j]? = some d) : (d.weights P t).all (· ≤ reachBytes) = true :=
  List.all_eq_true.2 fun n hn => List.all_eq_true.1 h n (DataW.weights_mem_each ht hd n hn)
theorem dlen_w {H : Type} {P : Program} {t e : TypeId} {d : DataW H} (hu : P.underlying t = some (.slice e)) (h : (d.weights P t).all (· ≤ reachBytes) = true) : dlen d * P.bytesOf e ≤ 140737488355328 := by
  cases d with
  | slice elems spare =>
    have h1 : (elems.length + spare.length) * P.bytesOf e ≤ reachBytes := by
      have := List.all_eq_true.1 h ((elems.length + spare.length) * P.bytesOf e) (by simp [DataW.weights, hu])
      simpa using this
    have h2 := reachBytes_lt
    have h3 : elems.length * P.bytesOf e ≤ (elems.length + spare.length) * P.bytesOf e := Nat.mul_le_mul_right _ (by omega)
    show elems.length * P.bytesOf e ≤ _
    omega
  | _ => simp [dlen]
theorem agg_w {H : Type} {P : Program} {t : TypeId} {fs : Array Field} {l : List (DataW H)} (hu : P.underlying t = some (.struct fs)) (h : ((DataW.agg l).weights P t).all (· ≤ reachBytes) = true) : (DataW.weightsEach P (fs.toList.map (·.type)) l).all (· ≤ reachBytes) = true := by
  simpa [DataW.weights, hu] using h
theorem slice_w {H : Type} {P : Program} {t e : TypeId} {l m : List (DataW H)} (hu : P.underlying t = some (.slice e)) (h : ((DataW.slice l m).weights P t).all (· ≤ reachBytes) = true) : (DataW.weightsAll P e l).all (· ≤ reachBytes) = true := by
  rw [DataW.weights, hu] at h
  simp only [List.all_cons, List.all_append, Bool.and_eq_true] at h
  exact h.2.1
/-- what an op holds, and how long -/
def DopR (W : World) {H : Type} (o : DOp) (cs : List Value) (x : DataW H) : Prop := DOpAt W cs o ∧ ((x.weights Try.prog 54).all (· ≤ reachBytes) = true → o.b.length ≤ 140737488355328 ∧ o.us.length ≤ 140737488355328)
theorem trod_dopR {W : World} {H : Type} {enc : TypeId × Value → H} {base fuel : Nat} {held : Bool} {cs : List Value} {x : DataW H × List MemPlace}
    (h : DataW.trod enc Try.prog W base (fun _ => true) held fuel 54 cs = some x) : ∃ o : DOp, DopR W o cs x.1 := by
  obtain ⟨o, ho, d0, d1, d2, d3, d4, hd, h3, h4⟩ := trod_dop h
  refine ⟨o, ho, fun hw => ?_⟩
  rw [hd] at hw
  have hw' := agg_w Try.underlying54 hw
  have b3 := dlen_w Try.underlying22 (wEach_mem hw' (j := 3) rfl rfl)
  have b4 := dlen_w Try.underlying44 (wEach_mem hw' (j := 4) rfl rfl)
  rw [h3, show Try.prog.bytesOf 5 = 1 from by kernel_rfl] at b3
  rw [h4, show Try.prog.bytesOf 3 = 8 from by kernel_rfl] at b4
  omega
/-- a slice of them -/
theorem trod_dops {W : World} {H : Type} {enc : TypeId × Value → H} {base fuel : Nat} {held : Bool} {cs : List Value} {x : DataW H × List MemPlace}
    (h : DataW.trod enc Try.prog W base (fun _ => true) held fuel 35 cs = some x) :
    ∃ p c os rows, cs = [.slice p os.length c] ∧ DOps W p os.length c os rows ∧ ((x.1.weights Try.prog 35).all (· ≤ reachBytes) = true → os.length ≤ 2199023255552 ∧ ∀ o ∈ os, o.b.length ≤ 140737488355328 ∧ o.us.length ≤ 140737488355328) := by
  obtain ⟨p, n, c, L, hcs, hr, hdl, hL⟩ := trod_rows (size := 5) (R := fun (o : DOp) cs' d => DopR W o cs' d) Try.underlying35 (by kernel_rfl) (by omega) (fun m cs' y hy => trod_dopR hy) h
  have hc : (L.map (·.2)).length = n := by
    have := hr.count
    simpa using this
  refine ⟨p, c, L.map (·.2), L.map (·.1), by rw [hc]; exact hcs, ⟨by rw [hc]; exact hr, rfl, fun i r o h1 h2 => ?_⟩, fun hw => ⟨?_, fun o ho => ?_⟩⟩
  · simp only [List.getElem?_map, Option.map_eq_some_iff] at h1 h2
    obtain ⟨x1, hx1, rfl⟩ := h1
    obtain ⟨x2, hx2, rfl⟩ := h2
    rw [hx1] at hx2
    cases hx2
    have hlt := (List.getElem?_eq_some_iff.1 hx1).1
    rcases hL with ⟨_, hL⟩ | ⟨elems, spare, hd, hlen, hall⟩
    · subst hL; simp at hlt
    · have := hall i (by omega) hlt
      rw [List.getElem?_eq_getElem hlt] at hx1
      cases hx1
      exact this.1
  · have hb := dlen_w Try.underlying35 hw
    rw [hdl, ← hc, show Try.prog.bytesOf 54 = 72 from by kernel_rfl] at hb
    omega
  · obtain ⟨i, hi⟩ := List.mem_iff_getElem?.1 ho
    simp only [List.getElem?_map, Option.map_eq_some_iff] at hi
    obtain ⟨x1, hx1, rfl⟩ := hi
    have hlt := (List.getElem?_eq_some_iff.1 hx1).1
    rcases hL with ⟨_, hL⟩ | ⟨elems, spare, hd, hlen, hall⟩
    · subst hL; simp at hlt
    · have h1 := hall i (by omega) hlt
      rw [List.getElem?_eq_getElem hlt] at hx1
      cases hx1
      rw [hd] at hw
      exact h1.2 (wAll_mem (slice_w Try.underlying35 hw) _ (List.getElem_mem _))
theorem split2 {cs : List Value} (h : cs.length = 2) : cs = (cs.drop 0).take 1 ++ (cs.drop 1).take 1 := by
  match cs, h with
  | [a, b], _ => rfl
/-- a Case, that came in -/
def caseA (room : Int) (p : Option Addr) (n c : Nat) : Array Value := #[.int .i64 room, .slice p n c]
theorem open_case {W : World} {H : Type} {enc : TypeId × Value → H} {base : Nat} {v : Value} {d : DataW H} {ps : List MemPlace} (hval : Value.okWide Try.prog W .any base 37 v) (h : DataW.Trod enc Try.prog W 0 (fun _ => true) true 37 v d ps) :
    ∃ room p c os rows, v = .agg (caseA room p os.length c) ∧ (-9223372036854775808 ≤ room ∧ room ≤ 9223372036854775807) ∧ DOps W p os.length c os rows ∧ ((d.weights Try.prog 37).all (· ≤ reachBytes) = true → os.length ≤ 2199023255552 ∧ ∀ o ∈ os, o.b.length ≤ 140737488355328 ∧ o.us.length ≤ 140737488355328) := by
  obtain ⟨cs, rfl, hcs⟩ := okWide_struct Try.underlying37 hval
  obtain ⟨fuel, hf⟩ := h
  have hf' : DataW.trod enc Try.prog W 0 (fun _ => true) true fuel 37 cs.toList = some (d, ps) := hf
  obtain ⟨xs, m, rfl, hd, hl, hxl, hx⟩ := DataW.trod_struct Try.underlying37 hf'
  have hl' : cs.toList.length = 2 := by rw [hl]; kernel_rfl
  have hxl' : xs.length = 2 := by rw [hxl]; rfl
  match xs, hxl' with
  | [x0, x1], _ =>
    have h0 := hx 0 _ rfl
    have h1 := hx 1 _ rfl
    obtain ⟨z0, e0, _, w0⟩ := DataW.trod_int Try.underlying3 h0
    obtain ⟨p, c, os, rows, e1, hO, hb1⟩ := trod_dops h1
    have hs := split2 hl'
    have e0' : (cs.toList.drop 0).take 1 = [.int .i64 z0] := e0
    have e1' : (cs.toList.drop 1).take 1 = [.slice p os.length c] := e1
    rw [e0', e1'] at hs
    have hd' : d = .agg [x0.1, x1.1] := by
      have := congrArg Prod.fst hd
      exact this
    refine ⟨z0, p, c, os, rows, ?_, i64_bd w0, hO, fun hw => ?_⟩
    · have : cs = [Value.int .i64 z0, Value.slice p os.length c].toArray := by rw [← Array.toArray_toList (xs := cs), hs]; rfl
      rw [this]; rfl
    · rw [hd'] at hw
      exact hb1 (wEach_mem (agg_w Try.underlying37 hw) (j := 1) rfl rfl)
end Go.Proofs.Ytlmlcedjhpfeiaa.Dk
