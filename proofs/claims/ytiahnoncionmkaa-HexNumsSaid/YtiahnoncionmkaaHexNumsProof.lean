/- PROVED: HexNums: any number is told as the document says and read as it was, any text is read as a number up to any bound or is none's, for every input. Conditions: none beyond the row's own. -/
import Derived.Test.YtiahnoncionmkaaRows
import Derived.Test.YtiahnoncionmkaaHexLaw3
import Derived.Test.YtiahnoncionmkaaOpen
namespace Go.Proofs.Ytiahnoncionmkaa.hexNums
open Go.ChangeShapes Go.WideShapes Go.ChangeAt Go.RowKit Go.Mir

theorem own : ownKnob Try.prog.godebug = none := by kernel_rfl
theorem laidOut : laidOutB Try.prog = true := by kernel_rfl

set_option maxRecDepth 100000 in
theorem lifted (os : Os) (started : os.Started) (H : Type) (enc : TypeId × Value → H) :
    ReturnsInHanded {} Try.checked os 5 .any (Rows.hexNumsSpec.pre6 enc Try.prog Try.f5 Rows.hexNumsRow.domain false) (Rows.hexNumsSpec.post enc Try.prog Try.f5 false true false false) := by
  refine law_said (C := Try.checked) own started (by kernel_rfl) Try.func5
    (ChangeSpec.witness6 (enc := enc) (C := Try.checked) false ⟨#[], #[.int .u64 0, .int .u64 0, .string ⟨#[]⟩], []⟩ 8 (by kernel_rfl) (by kernel_rfl) (by kernel_rfl) (by kernel_rfl))
    laidOut (by kernel_rfl) (by kernel_rfl) Try.underlying4 rfl ?_
  intro W base args ds p hval0 hA
  have hval : ∀ (j : Nat) t v, Try.f5.params[j]? = some t → args[j]? = some v → Value.okWide Try.prog W .any base t v := hval0
  clear hval0
  change DataW.TrodAll enc Try.prog W 0 (fun _ => true) true Try.f5.params.toList args.toList ds p at hA
  rw [Try.params5] at hA hval
  obtain ⟨v0, vs0, d0, ds0, p0, q0, hargs, rfl, rfl, h0, r0⟩ := trodAll_cons hA
  obtain ⟨v1, vs1, d1, ds1, p1, q1, rfl, rfl, rfl, h1, r1⟩ := trodAll_cons r0
  obtain ⟨v2, vs2, d2, ds2, p2, q2, rfl, rfl, rfl, h2, r2⟩ := trodAll_cons r1
  obtain ⟨rfl, rfl, rfl⟩ := trodAll_nil r2
  obtain rfl : args = #[v0, v1, v2] := by cases args; simp_all
  obtain ⟨a0, rfl, rfl, rfl, w0⟩ := open_int Try.underlying35 (hval 0 _ v0 rfl rfl) h0
  obtain ⟨a1, rfl, rfl, rfl, w1⟩ := open_int Try.underlying35 (hval 1 _ v1 rfl rfl) h1
  obtain ⟨s2, rfl, rfl, rfl, hs2⟩ := Go.ChangeMaps.open_string Try.underlying9 (hval 2 _ v2 rfl rfl) h2
  obtain ⟨l2, rfl⟩ : ∃ l, s2 = S l := ⟨_, S_of s2⟩
  have hl2 : l2.length ≤ 9223372036854775807 := by rw [S_size] at hs2; unfold maxLen at hs2; omega
  refine ⟨rfl, ?_⟩
  obtain ⟨k0, rfl, hk0⟩ := u64_nat w0
  obtain ⟨k1, rfl, hk1⟩ := u64_nat w1
  by_cases hin : l2.length ≤ 1000
  · exact HexW.hexNums_in k0 k1 l2 W hk0 hk1 hin
  · exact HexW.hexNums_out k0 k1 l2 W hl2 (by omega)

theorem over : Rows.hexNumsRow.holds Try.pinned (OpenSpec.ofChange Rows.hexNumsSpec) :=
  OpenClaim.holds_of_wide 5 Try.f5 rfl rfl rfl rfl rfl rfl rfl ⟨rfl, rfl, rfl, rfl, rfl⟩ rfl rfl rfl rfl rfl (by kernel_rfl) Try.func5 (by kernel_rfl)
    (of_decide_eq_true (by kernel_rfl)) (by unfold Func.isWrapper; first | (rw [if_pos (by decide +kernel)]; kernel_rfl) | (rw [if_neg (by decide +kernel)]; exact ⟨rfl, rfl⟩))
    (fun os started H enc _ => lifted os started H enc)

theorem proved : Rows.HexNumsSaid := over
end Go.Proofs.Ytiahnoncionmkaa.hexNums
