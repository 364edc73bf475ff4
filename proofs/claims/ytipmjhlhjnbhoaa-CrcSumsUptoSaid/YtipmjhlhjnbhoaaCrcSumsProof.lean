/- PROVED: CrcSums: the sum of any parts, and what goes on with any sum, is as the reference says, where what comes in is of bulk at most 1048576. Conditions: none beyond the row's own. -/
import Derived.Test.YtipmjhlhjnbhoaaRows
import Derived.Test.YtipmjhlhjnbhoaaCrcSumsW
import Derived.Test.YtipmjhlhjnbhoaaOpen
import Derived.Test.YtipmjhlhjnbhoaaBulk
namespace Go.Proofs.Ytipmjhlhjnbhoaa.crcSums
open Go.ChangeShapes Go.WideShapes Go.ChangeAt Go.RowKit Go.Mir

theorem own : ownKnob Try.prog.godebug = none := by kernel_rfl
theorem laidOut : laidOutB Try.prog = true := by kernel_rfl

set_option maxRecDepth 100000 in
theorem lifted (os : Os) (started : os.Started) (H : Type) (enc : TypeId × Value → H) (F : Stop.Interp) :
    ReturnsInHanded {} Try.checked os 4 .any ((Rows.OpenSpec.upto Rows.crcSumsSpec).pre6 enc Try.prog Try.f4 Rows.crcSumsUptoRow.domain false) (((Rows.OpenSpec.upto Rows.crcSumsSpec).at F).post enc Try.prog Try.f4 false true false false) := by
  refine law_upto (C := Try.checked) (s := Rows.OpenSpec.upto Rows.crcSumsSpec) (k := Rows.uptoSmall) rfl own started (by kernel_rfl) Try.func4
    (OpenSpec.witness (enc := enc) (C := Try.checked) (s := Rows.OpenSpec.upto Rows.crcSumsSpec) (k := Rows.uptoSmall) rfl false ⟨#[], #[.slice none 0 0, .int .u32 0], []⟩ 8 (by kernel_rfl) (by kernel_rfl) (by kernel_rfl)
      (x := ([.nil, .lit (.int .u32 0)], [], [])) (by kernel_rfl) rfl (by kernel_rfl))
    laidOut (by kernel_rfl) (by kernel_rfl) Try.underlying4 rfl ?_
  intro W base args ds p hval0 hA hsmall
  have hval : ∀ (j : Nat) t v, Try.f4.params[j]? = some t → args[j]? = some v → Value.okWide Try.prog W .any base t v := hval0
  clear hval0
  change DataW.TrodAll enc Try.prog W 0 (fun _ => true) true Try.f4.params.toList args.toList ds p at hA
  rw [Try.params4] at hA hval
  obtain ⟨v0, vs0, d0, ds0, p0, q0, hargs, rfl, rfl, h0, r0⟩ := trodAll_cons hA
  obtain ⟨v1, vs1, d1, ds1, p1, q1, rfl, rfl, rfl, h1, r1⟩ := trodAll_cons r0
  obtain ⟨rfl, rfl, rfl⟩ := trodAll_nil r1
  obtain rfl : args = #[v0, v1] := by cases args; simp_all
  obtain ⟨a1, rfl, rfl, rfl, w1⟩ := open_int Try.underlying24 (hval 1 _ v1 rfl rfl) h1
  refine ⟨rfl, ?_⟩
  obtain ⟨x1, rfl⟩ := u32_word w1
  obtain ⟨a, n, c, ls, rfl, hP, hd⟩ := open_pts Try.underlying29 Try.underlying22 Try.underlying5 (by kernel_rfl) (by kernel_rfl) (hval 0 _ v0 rfl rfl) h0
  have hbk := bulks.bound hsmall
  have hsum : n + R02.total ls ≤ 4611686018427387904 := by
    rcases hd with ⟨_, rfl⟩ | ⟨elems, spare, rfl, hel⟩
    · have := hP.len; simp [R02.total] at *; omega
    · have h1 := bulks.dlens_le elems
      have h2 := congrArg List.sum hel
      have h3 := congrArg List.length hel
      have h4 := hP.len
      rw [bulks.bulkAll_cons, bulks.slice_eq] at hbk
      simp only [List.length_map] at h3
      unfold R02.total
      omega
  by_cases hc : n + R02.total ls ≤ 2000
  · exact CrcW.sums_any a n c ls x1 W hP hc
  · exact CrcW.sums_out a n c ls x1 W hP (by omega) hsum

theorem over : Rows.crcSumsUptoRow.holds Try.pinned (Rows.OpenSpec.upto Rows.crcSumsSpec) :=
  OpenClaim.holds_of_cond 4 Try.f4 rfl rfl rfl rfl rfl rfl rfl ⟨rfl, rfl, rfl, rfl, rfl⟩ rfl rfl rfl rfl rfl (by kernel_rfl) Try.func4 (by kernel_rfl)
    (of_decide_eq_true (by kernel_rfl)) (by unfold Func.isWrapper; first | (rw [if_pos (by decide +kernel)]; kernel_rfl) | (rw [if_neg (by decide +kernel)]; exact ⟨rfl, rfl⟩))
    (fun os started H enc _ F => lifted os started H enc F)

theorem proved : Rows.CrcSumsUptoSaid := over
end Go.Proofs.Ytipmjhlhjnbhoaa.crcSums
