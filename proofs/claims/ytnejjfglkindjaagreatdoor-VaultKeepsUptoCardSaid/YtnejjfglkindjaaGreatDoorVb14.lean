/- PARTS, JOINED: WHAT THE BOUND OF AN '..UptoSaid' GIVES: sizes of what came in. Conditions: the bound. CALLS OF A STATEMENT ON VAULTS, that came in. Conditions: none. -/
import Derived.Test.YtnejjfglkindjaaGreatDoorVb1
import Derived.Test.YtnejjfglkindjaaGreatDoorVb2
import Derived.Test.YtnejjfglkindjaaGreatDoorVb3
import Derived.Test.YtnejjfglkindjaaGreatDoorVb4
import Derived.Test.YtnejjfglkindjaaGreatDoorVb5
import Derived.Test.YtnejjfglkindjaaGreatDoorVb6
import Derived.Test.YtnejjfglkindjaaGreatDoorVb7
import Derived.Test.YtnejjfglkindjaaGreatDoorVb8
import Derived.Test.YtnejjfglkindjaaGreatDoorVb9
import Derived.Test.YtnejjfglkindjaaGreatDoorVb10
import Derived.Test.YtnejjfglkindjaaGreatDoorVb11
import Derived.Test.YtnejjfglkindjaaGreatDoorVb12
import Derived.Test.YtnejjfglkindjaaGreatDoorVb13
import Derived.Test.YtnejjfglkindjaaGreatDoorRows
import Derived.SizedLaws
namespace Go.Proofs.YtnejjfglkindjaaGreatDoor.bulks
open Go.Mir

theorem one_le {H : Type} (d : DataW H) : 1 ≤ Rows.uptoBulk d := by
  cases d with
  | lit l => cases l <;> simp [Rows.uptoBulk]
  | nil => simp [Rows.uptoBulk]
  | ptr d => simp [Rows.uptoBulk]
  | slice elems spare => simp [Rows.uptoBulk]
  | agg parts => simp [Rows.uptoBulk]
  | iface t d => simp [Rows.uptoBulk]
  | map entries => simp [Rows.uptoBulk]
  | held h => simp [Rows.uptoBulk]
theorem bulkAll_cons {H : Type} (d : DataW H) (r : List (DataW H)) : Rows.uptoBulkAll (d :: r) = Rows.uptoBulk d + Rows.uptoBulkAll r := by simp only [Rows.uptoBulkAll]
theorem bulkAll_nil {H : Type} : Rows.uptoBulkAll ([] : List (DataW H)) = 0 := by simp only [Rows.uptoBulkAll]
theorem length_le {H : Type} (l : List (DataW H)) : l.length ≤ Rows.uptoBulkAll l := by
  induction l with
  | nil => simp [Rows.uptoBulkAll]
  | cons x r ih => have := one_le x; simp only [Rows.uptoBulkAll, List.length_cons]; omega
theorem slice_eq {H : Type} (elems spare : List (DataW H)) : Rows.uptoBulk (.slice elems spare) = Rows.uptoBulkAll elems + Rows.uptoBulkAll spare + 1 := by
  simp only [Rows.uptoBulk]
theorem agg_eq {H : Type} (ds : List (DataW H)) : Rows.uptoBulk (.agg ds) = Rows.uptoBulkAll ds + 1 := by
  simp only [Rows.uptoBulk]
theorem dlen_le {H : Type} (d : DataW H) : dlen d + 1 ≤ Rows.uptoBulk d := by
  cases d with
  | slice elems spare => have := length_le elems; rw [slice_eq]; simp only [dlen]; omega
  | _ => exact one_le _
theorem dlens_le {H : Type} (l : List (DataW H)) : (l.map dlen).sum + l.length ≤ Rows.uptoBulkAll l := by
  induction l with
  | nil => simp [Rows.uptoBulkAll]
  | cons x r ih => have := dlen_le x; simp only [Rows.uptoBulkAll, List.length_cons, List.map_cons, List.sum_cons]; omega
theorem bound {H : Type} {l : List (DataW H)} (hk : Rows.uptoSmall H l = true) : Rows.uptoBulkAll l ≤ 1048576 := of_decide_eq_true hk
end Go.Proofs.YtnejjfglkindjaaGreatDoor.bulks

namespace Go.Proofs.YtnejjfglkindjaaGreatDoor.Vlt
open Go.ChangeShapes Go.WideShapes Go.ChangeAt Go.RowKit Go.Mir

theorem split5 {cs : List Value} (h : cs.length = 5) : cs = (cs.drop 0).take 1 ++ (cs.drop 1).take 1 ++ (cs.drop 2).take 1 ++ (cs.drop 3).take 1 ++ (cs.drop 4).take 1 := by
  match cs, h with
  | [a, b, c, d, e], _ => rfl
set_option maxRecDepth 100000 in
theorem trod_vop {W : World} {H : Type} {enc : TypeId × Value → H} {base fuel : Nat} {held : Bool} {cs : List Value} {x : DataW H × List MemPlace}
    (h : DataW.trod enc Tryz.prog W base (fun _ => true) held fuel 54 cs = some x) :
    ∃ o : VOp, VOpAt W cs o ∧ ∃ d0 d1 d2 d3 d4, x.1 = .agg [d0, d1, d2, d3, d4] ∧ dlen d4 = o.b.length := by
  obtain ⟨xs, m, rfl, rfl, hl, hxl, hx⟩ := DataW.trod_struct Tryz.underlying54 h
  have hl' : cs.length = 5 := by rw [hl]; kernel_rfl
  have hxl' : xs.length = 5 := by rw [hxl]; rfl
  match xs, hxl' with
  | [x0, x1, x2, x3, x4], _ =>
    have h0 := hx 0 _ rfl
    have h1 := hx 1 _ rfl
    have h2 := hx 2 _ rfl
    have h3 := hx 3 _ rfl
    have h4 := hx 4 _ rfl
    obtain ⟨z0, e0, _, w0⟩ := DataW.trod_int Tryz.underlying3 h0
    obtain ⟨z1, e1, _, w1⟩ := DataW.trod_int Tryz.underlying3 h1
    obtain ⟨z2, e2, _, w2⟩ := DataW.trod_int Tryz.underlying3 h2
    obtain ⟨z3, e3, _, w3⟩ := DataW.trod_int Tryz.underlying3 h3
    obtain ⟨p4, n4, c4, l4, e4, b4, dl4⟩ := trod_bs Tryz.underlying22 Tryz.underlying5 (by kernel_rfl) h4
    obtain rfl := b4.length
    refine ⟨⟨z0, z1, z2, z3, l4⟩, ⟨⟨p4, c4, ?_, b4⟩, i64_bd w0, i64_bd w1, i64_bd w2, i64_bd w3⟩, x0.1, x1.1, x2.1, x3.1, x4.1, rfl, dl4⟩
    have hs := split5 hl'
    have e0' : (cs.drop 0).take 1 = [.int .i64 z0] := e0
    have e1' : (cs.drop 1).take 1 = [.int .i64 z1] := e1
    have e2' : (cs.drop 2).take 1 = [.int .i64 z2] := e2
    have e3' : (cs.drop 3).take 1 = [.int .i64 z3] := e3
    have e4' : (cs.drop 4).take 1 = [.slice p4 l4.length c4] := e4
    rw [e0', e1', e2', e3', e4'] at hs
    rw [hs]
    rfl
/-- what an op holds, and how long -/
def VopR (W : World) {H : Type} (o : VOp) (cs : List Value) (d : DataW H) : Prop := VOpAt W cs o ∧ ∃ d0 d1 d2 d3 d4, d = .agg [d0, d1, d2, d3, d4] ∧ dlen d4 = o.b.length
theorem vbulk_le {H : Type} (W : World) : ∀ (L : List (List Value × VOp)) (elems : List (DataW H)), elems.length = L.length → (∀ i (h1 : i < elems.length) (h2 : i < L.length), VopR W L[i].2 L[i].1 elems[i]) → L.length + bsum (L.map (·.2)) ≤ Rows.uptoBulkAll elems
  | [], elems, _, _ => by simp [bsum]
  | x :: L, [], h, _ => by simp at h
  | x :: L, d :: elems, h, hR => by
    obtain ⟨_, d0, d1, d2, d3, d4, hd, h3⟩ := hR 0 (by simp) (by simp)
    have ih := vbulk_le W L elems (by simpa using h) (fun i h1 h2 => hR (i + 1) (by simpa using h1) (by simpa using h2))
    have hd' : d = .agg [d0, d1, d2, d3, d4] := hd
    have h3' : dlen d4 = x.2.b.length := h3
    have b3 := bulks.dlen_le d4
    have b0 := bulks.one_le d0
    rw [bulks.bulkAll_cons, hd', bulks.agg_eq, List.length_cons]
    simp only [bulks.bulkAll_cons, bulks.bulkAll_nil, List.map_cons, bsum]
    omega
set_option maxRecDepth 100000 in
theorem trod_vops {W : World} {H : Type} {enc : TypeId × Value → H} {base fuel : Nat} {held : Bool} {cs : List Value} {x : DataW H × List MemPlace}
    (h : DataW.trod enc Tryz.prog W base (fun _ => true) held fuel 42 cs = some x) :
    ∃ p c os rows, cs = [.slice p os.length c] ∧ VOps W p os.length c os rows ∧ os.length + bsum os ≤ Rows.uptoBulk x.1 := by
  obtain ⟨p, n, c, L, hcs, hr, hdl, hL⟩ := trod_rows (size := 5) (R := fun (o : VOp) cs' d => VopR W o cs' d) Tryz.underlying42 (by kernel_rfl) (by omega) (fun m cs' y hy => by
    obtain ⟨o, ho, x0, x1, x2, x3, x4, hy1, hy2⟩ := trod_vop hy
    exact ⟨o, ho, x0, x1, x2, x3, x4, hy1, hy2⟩) h
  have hc : (L.map (·.2)).length = n := by
    have := hr.count
    simpa using this
  refine ⟨p, c, L.map (·.2), L.map (·.1), by rw [hc]; exact hcs, ⟨by rw [hc]; exact hr, rfl, fun i r o h1 h2 => ?_⟩, ?_⟩
  · simp only [List.getElem?_map, Option.map_eq_some_iff] at h1 h2
    obtain ⟨x1, hx1, rfl⟩ := h1
    obtain ⟨x2, hx2, rfl⟩ := h2
    rw [hx1] at hx2
    cases hx2
    have hlt := (List.getElem?_eq_some_iff.1 hx1).1
    rcases hL with ⟨_, hL⟩ | ⟨elems, spare, hd, hlen, hall⟩
    · subst hL; simp at hlt
    · have := hall i (by omega) hlt
      rw [List.getElem?_eq_getElem hlt] at hx1
      cases hx1
      exact this.1
  · rcases hL with ⟨_, hL⟩ | ⟨elems, spare, hd, hlen, hall⟩
    · subst hL; simp [bsum]
    · have h1 := vbulk_le W L elems hlen hall
      rw [hd, bulks.slice_eq, List.length_map]
      omega
set_option maxRecDepth 100000 in
theorem open_vops {W : World} {H : Type} {enc : TypeId × Value → H} {base : Nat} {v : Value} {d : DataW H} {ps : List MemPlace} (hval : Value.okWide Tryz.prog W .any base 42 v) (h : DataW.Trod enc Tryz.prog W 0 (fun _ => true) true 42 v d ps) :
    ∃ p c os rows, v = .slice p os.length c ∧ VOps W p os.length c os rows ∧ os.length + bsum os ≤ Rows.uptoBulk d := by
  obtain ⟨a, n, c, rfl⟩ := okWide_slice Tryz.underlying42 hval
  obtain ⟨fuel, hf⟩ := h
  obtain ⟨p, c', os, rows, e, hO, hb⟩ := trod_vops hf
  simp only [Value.cells, List.cons.injEq, and_true] at e
  exact ⟨p, c', os, rows, e, hO, hb⟩
end Go.Proofs.YtnejjfglkindjaaGreatDoor.Vlt
