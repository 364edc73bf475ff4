/- PROVED: HexIds: any id is told as the document says and read as it was, any text is read as an id or is none's, for every input. Conditions: none beyond the row's own. -/
import Derived.Test.YtiahnoncionmkaaRows
import Derived.Test.YtiahnoncionmkaaHexLaw2
import Derived.Test.YtiahnoncionmkaaOpen
namespace Go.Proofs.Ytiahnoncionmkaa.hexIds
open Go.ChangeShapes Go.WideShapes Go.ChangeAt Go.RowKit Go.Mir

theorem own : ownKnob Try.prog.godebug = none := by kernel_rfl
theorem laidOut : laidOutB Try.prog = true := by kernel_rfl

set_option maxRecDepth 100000 in
theorem lifted (os : Os) (started : os.Started) (H : Type) (enc : TypeId × Value → H) :
    ReturnsInHanded {} Try.checked os 3 .any (Rows.hexIdsSpec.pre6 enc Try.prog Try.f3 Rows.hexIdsRow.domain false) (Rows.hexIdsSpec.post enc Try.prog Try.f3 false true false false) := by
  refine law_said (C := Try.checked) own started (by kernel_rfl) Try.func3
    (ChangeSpec.witness6 (enc := enc) (C := Try.checked) false ⟨#[], #[.agg (Array.replicate 32 (.int .u8 0)), .string ⟨#[]⟩], []⟩ 8 (by kernel_rfl) (by kernel_rfl) (by kernel_rfl) (by kernel_rfl))
    laidOut (by kernel_rfl) (by kernel_rfl) Try.underlying4 rfl ?_
  intro W base args ds p hval0 hA
  have hval : ∀ (j : Nat) t v, Try.f3.params[j]? = some t → args[j]? = some v → Value.okWide Try.prog W .any base t v := hval0
  clear hval0
  change DataW.TrodAll enc Try.prog W 0 (fun _ => true) true Try.f3.params.toList args.toList ds p at hA
  rw [Try.params3] at hA hval
  obtain ⟨v0, vs0, d0, ds0, p0, q0, hargs, rfl, rfl, h0, r0⟩ := trodAll_cons hA
  obtain ⟨v1, vs1, d1, ds1, p1, q1, rfl, rfl, rfl, h1, r1⟩ := trodAll_cons r0
  obtain ⟨rfl, rfl, rfl⟩ := trodAll_nil r1
  obtain rfl : args = #[v0, v1] := by cases args; simp_all
  obtain ⟨zs0, rfl, hzl0, hzw0⟩ := open_nums Try.underlying23 Try.underlying5 (by kernel_rfl) (by kernel_rfl) (hval 0 _ v0 rfl rfl) h0
  obtain ⟨x0, rfl⟩ := u8_of_list zs0 hzw0
  have hx0 : x0.length = 32 := by simpa using hzl0
  obtain ⟨s1, rfl, rfl, rfl, hs1⟩ := Go.ChangeMaps.open_string Try.underlying9 (hval 1 _ v1 rfl rfl) h1
  obtain ⟨l1, rfl⟩ : ∃ l, s1 = S l := ⟨_, S_of s1⟩
  have hl1 : l1.length ≤ 9223372036854775807 := by rw [S_size] at hs1; unfold maxLen at hs1; omega
  refine ⟨rfl, ?_⟩
  by_cases hin : l1.length ≤ 1000
  · exact HexW.hexIds_in _ x0 l1 W (by simp [bytesV]) hx0 hin
  · exact HexW.hexIds_out _ l1 W hl1 (by omega)

theorem over : Rows.hexIdsRow.holds Try.pinned (OpenSpec.ofChange Rows.hexIdsSpec) :=
  OpenClaim.holds_of_wide 3 Try.f3 rfl rfl rfl rfl rfl rfl rfl ⟨rfl, rfl, rfl, rfl, rfl⟩ rfl rfl rfl rfl rfl (by kernel_rfl) Try.func3 (by kernel_rfl)
    (of_decide_eq_true (by kernel_rfl)) (by unfold Func.isWrapper; first | (rw [if_pos (by decide +kernel)]; kernel_rfl) | (rw [if_neg (by decide +kernel)]; exact ⟨rfl, rfl⟩))
    (fun os started H enc _ => lifted os started H enc)

theorem proved : Rows.HexIdsSaid := over
end Go.Proofs.Ytiahnoncionmkaa.hexIds
