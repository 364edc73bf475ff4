/- PROVED: WriterWrites: whatever is written, with any room, is as the document says. Conditions: none beyond the row's own. -/
import Derived.Test.YthgaadnbmiekkaaRows
import Derived.Test.YthgaadnbmiekkaaW10Writes
import Derived.Test.YthgaadnbmiekkaaOpen
import Derived.Test.YthgaadnbmiekkaaBulk
namespace Go.Proofs.Ythgaadnbmiekkaa.writerWrites
open Go.ChangeShapes Go.WideShapes Go.ChangeAt Go.RowKit Go.Mir

theorem own : ownKnob Try.prog.godebug = none := by kernel_rfl
theorem laidOut : laidOutB Try.prog = true := by kernel_rfl
def R10 {H : Type} (W : World) (o : W10.OpD) (cs : List Value) (d : DataW H) : Prop := W10.OpAt W cs o ∧ ∃ d0 d1 d2 d3 d4 d5, d = .agg [d0, d1, d2, d3, d4, d5] ∧ dlen d3 = o.b.length ∧ dlen d5 = o.ids.length
theorem bulk_le {H : Type} (W : World) : ∀ (L : List (List Value × W10.OpD)) (elems : List (DataW H)), elems.length = L.length → (∀ i (h1 : i < elems.length) (h2 : i < L.length), R10 W L[i].2 L[i].1 elems[i]) → L.length + W10.weights L ≤ 33 * Rows.uptoBulkAll elems
  | [], elems, _, _ => by simp [W10.weights]
  | x :: L, [], h, _ => by simp at h
  | x :: L, d :: elems, h, hR => by
    obtain ⟨_, d0, d1, d2, d3, d4, d5, hd, h3, h5⟩ := hR 0 (by simp) (by simp)
    have ih := bulk_le W L elems (by simpa using h) (fun i h1 h2 => hR (i + 1) (by simpa using h1) (by simpa using h2))
    have hd' : d = .agg [d0, d1, d2, d3, d4, d5] := hd
    have hw : W10.weights (x :: L) = x.2.weight + W10.weights L := rfl
    have hxw : x.2.weight = dlen d3 + 32 * dlen d5 := by rw [h3, h5]; rfl
    have b3 := bulks.dlen_le d3
    have b5 := bulks.dlen_le d5
    rw [bulks.bulkAll_cons, hd', bulks.agg_eq, hw, hxw, List.length_cons]
    simp only [bulks.bulkAll_cons, bulks.bulkAll_nil]
    omega

set_option maxRecDepth 100000 in
theorem lifted (os : Os) (started : os.Started) (H : Type) (enc : TypeId × Value → H) (F : Stop.Interp) :
    ReturnsInHanded {} Try.checked os 4 .any ((Rows.OpenSpec.upto Rows.writerWritesSpec).pre6 enc Try.prog Try.f4 Rows.writerWritesUptoRow.domain false) (((Rows.OpenSpec.upto Rows.writerWritesSpec).at F).post enc Try.prog Try.f4 false true false false) := by
  refine law_upto (C := Try.checked) (s := Rows.OpenSpec.upto Rows.writerWritesSpec) (k := Rows.uptoSmall) rfl own started (by kernel_rfl) Try.func4
    (OpenSpec.witness (enc := enc) (C := Try.checked) (s := Rows.OpenSpec.upto Rows.writerWritesSpec) (k := Rows.uptoSmall) rfl false ⟨#[], #[.int .i64 0, .slice none 0 0], []⟩ 8 (by kernel_rfl) (by kernel_rfl) (by kernel_rfl)
      (x := ([.lit (.int .i64 0), .nil], [], [])) (by kernel_rfl) rfl (by kernel_rfl))
    laidOut (by kernel_rfl) (by kernel_rfl) Try.underlying4 rfl ?_
  intro W base args ds p hval0 hA hsmall
  have hval : ∀ (j : Nat) t v, Try.f4.params[j]? = some t → args[j]? = some v → Value.okWide Try.prog W .any base t v := hval0
  clear hval0
  change DataW.TrodAll enc Try.prog W 0 (fun _ => true) true Try.f4.params.toList args.toList ds p at hA
  rw [Try.params4] at hA hval
  obtain ⟨v0, vs0, d0, ds0, p0, q0, hargs, rfl, rfl, h0, r0⟩ := trodAll_cons hA
  obtain ⟨v1, vs1, d1, ds1, p1, q1, rfl, rfl, rfl, h1, r1⟩ := trodAll_cons r0
  obtain ⟨rfl, rfl, rfl⟩ := trodAll_nil r1
  obtain rfl : args = #[v0, v1] := by cases args; simp_all
  obtain ⟨a0, rfl, rfl, rfl, w0⟩ := open_int Try.underlying3 (hval 0 _ v0 rfl rfl) h0
  refine ⟨rfl, ?_⟩
  obtain ⟨a1, n1, c1, rfl⟩ := okWide_slice Try.underlying44 (hval 1 _ v1 rfl rfl)
  obtain ⟨fuel, hf⟩ := h1
  obtain ⟨q, m, e, L, hcs, hrs, _, hL⟩ := trod_rows (size := 37) (R10 W) Try.underlying44 (by kernel_rfl) (by decide) (fun m cs' y hy => by
    obtain ⟨o, ho, x0, x1, x2, x3, x4, x5, hy1, hy2, hy3⟩ := W10.trod_op hy
    exact ⟨o, ho, x0, x1, x2, x3, x4, x5, hy1, hy2, hy3⟩) hf
  simp [Value.cells] at hcs
  obtain ⟨rfl, rfl, rfl⟩ := hcs
  have hO : W10.OpsAt W a1 n1 c1 L := ⟨hrs, fun x hx => by
    obtain ⟨i, hi, rfl⟩ := List.mem_iff_getElem.1 hx
    rcases hL with ⟨_, rfl⟩ | ⟨elems, spare, _, hel, hR⟩
    · simp at hi
    · exact (hR i (by omega) hi).1⟩
  have hbk := bulks.bound hsmall
  have hn : L.length = n1 := by simpa using hrs.count
  have hsum : n1 + W10.weights L ≤ 4611686018427387904 := by
    rcases hL with ⟨_, rfl⟩ | ⟨elems, spare, hd, hel, hR⟩
    · simp [W10.weights] at *; omega
    · have hd' : d1 = .slice elems spare := hd
      have h1 := bulk_le W L elems hel hR
      rw [bulks.bulkAll_cons, bulks.bulkAll_cons, hd', bulks.slice_eq] at hbk
      omega
  by_cases hc : n1 + W10.weights L ≤ 5000
  · exact W10.writes_in a0 a1 n1 c1 L W hO hc (i64_bd w0).2
  · exact W10.writes_out a0 a1 n1 c1 L W hO hsum (by omega)

theorem over : Rows.writerWritesUptoRow.holds Try.pinned (Rows.OpenSpec.upto Rows.writerWritesSpec) :=
  OpenClaim.holds_of_cond 4 Try.f4 rfl rfl rfl rfl rfl rfl rfl ⟨rfl, rfl, rfl, rfl, rfl⟩ rfl rfl rfl rfl rfl (by kernel_rfl) Try.func4 (by kernel_rfl)
    (of_decide_eq_true (by kernel_rfl)) (by unfold Func.isWrapper; first | (rw [if_pos (by decide +kernel)]; kernel_rfl) | (rw [if_neg (by decide +kernel)]; exact ⟨rfl, rfl⟩))
    (fun os started H enc _ F => lifted os started H enc F)

theorem proved : Rows.WriterWritesUptoSaid := over
end Go.Proofs.Ythgaadnbmiekkaa.writerWrites
