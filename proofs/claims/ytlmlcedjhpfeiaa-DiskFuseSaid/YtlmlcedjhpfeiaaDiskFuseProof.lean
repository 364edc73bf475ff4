/- PROVED: DiskFuse: a disk with a fuse goes down at just that call, and answers nothing but that, till it crashes, for every input. Conditions: none beyond the row's own. -/
import Derived.Test.YtlmlcedjhpfeiaaRows
import Derived.Test.YtlmlcedjhpfeiaaDk12
import Derived.Test.YtlmlcedjhpfeiaaOpen
namespace Go.Proofs.Ytlmlcedjhpfeiaa.diskFuse
open Go.ChangeShapes Go.WideShapes Go.ChangeAt Go.RowKit Go.Mir

theorem own : ownKnob Try.prog.godebug = none := by kernel_rfl
theorem laidOut : laidOutB Try.prog = true := by kernel_rfl

set_option maxRecDepth 100000 in
theorem lifted (os : Os) (started : os.Started) (H : Type) (enc : TypeId × Value → H) :
    ReturnsInHanded {} Try.checked os 3 .any (Rows.diskFuseSpec.pre6 enc Try.prog Try.f3 Rows.diskFuseRow.domain false) (Rows.diskFuseSpec.post enc Try.prog Try.f3 false true false false) := by
  refine law_said (C := Try.checked) own started (by kernel_rfl) Try.func3
    (ChangeSpec.witness6 (enc := enc) (C := Try.checked) false ⟨#[], #[.int .u8 0, .int .u8 0, .slice none 0 0], []⟩ 8 (by kernel_rfl) (by kernel_rfl) (by kernel_rfl) (by kernel_rfl))
    laidOut (by kernel_rfl) (by kernel_rfl) Try.underlying4 rfl ?_
  intro W base args ds p hval0 hA
  have hval : ∀ (j : Nat) t v, Try.f3.params[j]? = some t → args[j]? = some v → Value.okWide Try.prog W .any base t v := hval0
  clear hval0
  change DataW.TrodAll enc Try.prog W 0 (fun _ => true) true Try.f3.params.toList args.toList ds p at hA
  rw [Try.params3] at hA hval
  obtain ⟨v0, vs0, d0, ds0, p0, q0, hargs, rfl, rfl, h0, r0⟩ := trodAll_cons hA
  obtain ⟨v1, vs1, d1, ds1, p1, q1, rfl, rfl, rfl, h1, r1⟩ := trodAll_cons r0
  obtain ⟨v2, vs2, d2, ds2, p2, q2, rfl, rfl, rfl, h2, r2⟩ := trodAll_cons r1
  obtain ⟨rfl, rfl, rfl⟩ := trodAll_nil r2
  obtain rfl : args = #[v0, v1, v2] := by cases args; simp_all
  obtain ⟨a0, rfl, rfl, rfl, w0⟩ := open_int Try.underlying5 (hval 0 _ v0 rfl rfl) h0
  obtain ⟨a1, rfl, rfl, rfl, w1⟩ := open_int Try.underlying5 (hval 1 _ v1 rfl rfl) h1
  obtain ⟨a2, n2, c2, l2, rfl, hB2⟩ := open_bs Try.underlying22 Try.underlying5 (by kernel_rfl) (hval 2 _ v2 rfl rfl) h2
  refine ⟨rfl, ?_⟩
  obtain ⟨k0, rfl, hk0⟩ : ∃ k : Nat, a0 = (k : Int) ∧ k < 256 := by
    have hb : 0 ≤ a0 ∧ a0 ≤ 255 := by simpa [Lit.wf, IntKind.min, IntKind.max, IntKind.signed, IntKind.bits] using w0
    exact ⟨a0.toNat, by omega, by omega⟩
  obtain ⟨k1, rfl, hk1⟩ : ∃ k : Nat, a1 = (k : Int) ∧ k < 256 := by
    have hb : 0 ≤ a1 ∧ a1 ≤ 255 := by simpa [Lit.wf, IntKind.min, IntKind.max, IntKind.signed, IntKind.bits] using w1
    exact ⟨a1.toNat, by omega, by omega⟩
  obtain rfl := hB2.length
  exact Dk.law_fuse k0 k1 hk0 hk1 a2 c2 l2 W hB2

theorem over : Rows.diskFuseRow.holds Try.pinned (OpenSpec.ofChange Rows.diskFuseSpec) :=
  OpenClaim.holds_of_wide 3 Try.f3 rfl rfl rfl rfl rfl rfl rfl ⟨rfl, rfl, rfl, rfl, rfl⟩ rfl rfl rfl rfl rfl (by kernel_rfl) Try.func3 (by kernel_rfl)
    (of_decide_eq_true (by kernel_rfl)) (by unfold Func.isWrapper; first | (rw [if_pos (by decide +kernel)]; kernel_rfl) | (rw [if_neg (by decide +kernel)]; exact ⟨rfl, rfl⟩))
    (fun os started H enc _ => lifted os started H enc)

theorem proved : Rows.DiskFuseSaid := over
end Go.Proofs.Ytlmlcedjhpfeiaa.diskFuse
