/- PROVED: BlockAsks: which transactions stand in any block, which have a hint, and whether it stands on another one; a copy is the same, and apart, for every input. Conditions: none beyond the row's own. -/
import Derived.Test.YtepemfgiigceoaaRows
import Derived.Test.YtepemfgiigceoaaBlkLaw2
import Derived.Test.YtepemfgiigceoaaBlkOpen
import Derived.Test.YtepemfgiigceoaaOpen
namespace Go.Proofs.Ytepemfgiigceoaa.blockAsks
open Go.ChangeShapes Go.WideShapes Go.ChangeAt Go.RowKit Go.Mir

theorem own : ownKnob Try.prog.godebug = none := by kernel_rfl
theorem laidOut : laidOutB Try.prog = true := by kernel_rfl

set_option maxRecDepth 100000 in
theorem lifted (os : Os) (started : os.Started) (H : Type) (enc : TypeId × Value → H) :
    ReturnsInHanded {} Try.checked os 4 .any (Rows.blockAsksSpec.pre6 enc Try.prog Try.f4 Rows.blockAsksRow.domain false) (Rows.blockAsksSpec.post enc Try.prog Try.f4 false true false false) := by
  refine law_said (C := Try.checked) own started (by kernel_rfl) Try.func4
    (ChangeSpec.witness6 (enc := enc) (C := Try.checked) false ⟨#[], #[.agg (Array.replicate 64 (.int .u8 0) ++ #[.slice none 0 0]), .agg (Array.replicate 64 (.int .u8 0) ++ #[.slice none 0 0]), .int .u8 0], []⟩ 8 (by kernel_rfl) (by kernel_rfl) (by kernel_rfl) (by kernel_rfl))
    laidOut (by kernel_rfl) (by kernel_rfl) Try.underlying4 rfl ?_
  intro W base args ds p hval0 hA
  have hval : ∀ (j : Nat) t v, Try.f4.params[j]? = some t → args[j]? = some v → Value.okWide Try.prog W .any base t v := hval0
  clear hval0
  change DataW.TrodAll enc Try.prog W 0 (fun _ => true) true Try.f4.params.toList args.toList ds p at hA
  rw [Try.params4] at hA hval
  obtain ⟨v0, vs0, d0, ds0, p0, q0, hargs, rfl, rfl, h0, r0⟩ := trodAll_cons hA
  obtain ⟨v1, vs1, d1, ds1, p1, q1, rfl, rfl, rfl, h1, r1⟩ := trodAll_cons r0
  obtain ⟨v2, vs2, d2, ds2, p2, q2, rfl, rfl, rfl, h2, r2⟩ := trodAll_cons r1
  obtain ⟨rfl, rfl, rfl⟩ := trodAll_nil r2
  obtain rfl : args = #[v0, v1, v2] := by cases args; simp_all
  obtain ⟨M0, b0, q0, n0, c0, rfl, hM0⟩ := Blk.open_blk (hval 0 _ v0 rfl rfl) h0
  obtain ⟨M1, b1, q1, n1, c1, rfl, hM1⟩ := Blk.open_blk (hval 1 _ v1 rfl rfl) h1
  obtain ⟨a2, rfl, rfl, rfl, w2⟩ := open_int Try.underlying5 (hval 2 _ v2 rfl rfl) h2
  refine ⟨rfl, ?_⟩
  obtain ⟨k2, rfl, hk2⟩ : ∃ k : Nat, a2 = (k : Int) ∧ k < 256 := by
    have hb : 0 ≤ a2 ∧ a2 ≤ 255 := by simpa [Lit.wf, IntKind.min, IntKind.max, IntKind.signed, IntKind.bits] using w2
    exact ⟨a2.toNat, by omega, by omega⟩
  by_cases hin : n0 ≤ 100 ∧ n1 ≤ 100
  · exact Blk.asks_in M0 M1 b0 b1 q0 q1 n0 c0 n1 c1 k2 W hM0 hM1 hin.1 hin.2 hk2
  · exact Blk.asks_out M0 M1 b0 b1 q0 q1 n0 c0 n1 c1 k2 W hM0 hM1 (by omega)

theorem over : Rows.blockAsksRow.holds Try.pinned (OpenSpec.ofChange Rows.blockAsksSpec) :=
  OpenClaim.holds_of_wide 4 Try.f4 rfl rfl rfl rfl rfl rfl rfl ⟨rfl, rfl, rfl, rfl, rfl⟩ rfl rfl rfl rfl rfl (by kernel_rfl) Try.func4 (by kernel_rfl)
    (of_decide_eq_true (by kernel_rfl)) (by unfold Func.isWrapper; first | (rw [if_pos (by decide +kernel)]; kernel_rfl) | (rw [if_neg (by decide +kernel)]; exact ⟨rfl, rfl⟩))
    (fun os started H enc _ => lifted os started H enc)

theorem proved : Rows.BlockAsksSaid := over
end Go.Proofs.Ytepemfgiigceoaa.blockAsks
