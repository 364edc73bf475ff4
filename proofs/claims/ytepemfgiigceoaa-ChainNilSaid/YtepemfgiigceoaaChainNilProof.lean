/- PROVED: ChainNil: a nil chain, and one that no call made, has nothing, for every input. Conditions: none beyond the row's own. -/
import Derived.Test.YtepemfgiigceoaaRows
import Derived.Test.YtepemfgiigceoaaChainNil
import Derived.Test.YtepemfgiigceoaaBlkOpen
import Derived.Test.YtepemfgiigceoaaOpen
namespace Go.Proofs.Ytepemfgiigceoaa.chainNil
open Go.ChangeShapes Go.WideShapes Go.ChangeAt Go.RowKit Go.Mir

theorem own : ownKnob Try.prog.godebug = none := by kernel_rfl
theorem laidOut : laidOutB Try.prog = true := by kernel_rfl

set_option maxRecDepth 100000 in
theorem lifted (os : Os) (started : os.Started) (H : Type) (enc : TypeId × Value → H) :
    ReturnsInHanded {} Try.checked os 7 .any (Rows.chainNilSpec.pre6 enc Try.prog Try.f7 Rows.chainNilRow.domain false) (Rows.chainNilSpec.post enc Try.prog Try.f7 false true false false) := by
  refine law_said (C := Try.checked) own started (by kernel_rfl) Try.func7
    (ChangeSpec.witness6 (enc := enc) (C := Try.checked) false ⟨#[], #[.agg (Array.replicate 64 (.int .u8 0) ++ #[.slice none 0 0])], []⟩ 8 (by kernel_rfl) (by kernel_rfl) (by kernel_rfl) (by kernel_rfl))
    laidOut (by kernel_rfl) (by kernel_rfl) Try.underlying4 rfl ?_
  intro W base args ds p hval0 hA
  have hval : ∀ (j : Nat) t v, Try.f7.params[j]? = some t → args[j]? = some v → Value.okWide Try.prog W .any base t v := hval0
  clear hval0
  change DataW.TrodAll enc Try.prog W 0 (fun _ => true) true Try.f7.params.toList args.toList ds p at hA
  rw [Try.params7] at hA hval
  obtain ⟨v0, vs0, d0, ds0, p0, q0, hargs, rfl, rfl, h0, r0⟩ := trodAll_cons hA
  obtain ⟨rfl, rfl, rfl⟩ := trodAll_nil r0
  obtain rfl : args = #[v0] := by cases args; simp_all
  obtain ⟨M0, b0, q0, n0, c0, rfl, hM0⟩ := Blk.open_blk (hval 0 _ v0 rfl rfl) h0
  refine ⟨rfl, ?_⟩
  exact Chn.law_nil M0 b0 q0 n0 c0 W hM0

theorem over : Rows.chainNilRow.holds Try.pinned (OpenSpec.ofChange Rows.chainNilSpec) :=
  OpenClaim.holds_of_wide 7 Try.f7 rfl rfl rfl rfl rfl rfl rfl ⟨rfl, rfl, rfl, rfl, rfl⟩ rfl rfl rfl rfl rfl (by kernel_rfl) Try.func7 (by kernel_rfl)
    (of_decide_eq_true (by kernel_rfl)) (by unfold Func.isWrapper; first | (rw [if_pos (by decide +kernel)]; kernel_rfl) | (rw [if_neg (by decide +kernel)]; exact ⟨rfl, rfl⟩))
    (fun os started H enc _ => lifted os started H enc)

theorem proved : Rows.ChainNilSaid := over
end Go.Proofs.Ytepemfgiigceoaa.chainNil
