/- PROVED: DiskDoes: whatever is done to a disk, wherever it goes down, and whatever crashes: each answer, and what it holds, is as the document says. Conditions: none beyond the row's own. -/
import Derived.Test.YtbkkcejpkfbcjaaDd1
import Derived.Test.YtbkkcejpkfbcjaaDd2
import Derived.Test.YtbkkcejpkfbcjaaDd3
import Derived.Test.YtbkkcejpkfbcjaaDd4
import Derived.Test.YtbkkcejpkfbcjaaDd5
import Derived.Test.YtbkkcejpkfbcjaaDd6
import Derived.Test.YtbkkcejpkfbcjaaDd7
import Derived.Test.YtbkkcejpkfbcjaaDd8
import Derived.Test.YtbkkcejpkfbcjaaRows
import Derived.SizedLaws
namespace Go.Proofs.Ytbkkcejpkfbcjaa.diskDoes
open Go.ChangeShapes Go.WideShapes Go.ChangeAt Go.RowKit Go.Mir

theorem own : ownKnob Try.prog.godebug = none := by kernel_rfl
theorem laidOut : laidOutB Try.prog = true := by kernel_rfl

set_option maxRecDepth 100000 in
theorem lifted (os : Os) (started : os.Started) (H : Type) (enc : TypeId × Value → H) (F : Stop.Interp) :
    ReturnsInHanded {} Try.checked os 3 .any ((Rows.OpenSpec.upto Rows.diskDoesSpec).pre6 enc Try.prog Try.f3 Rows.diskDoesUptoRow.domain false) (((Rows.OpenSpec.upto Rows.diskDoesSpec).at F).post enc Try.prog Try.f3 false true false false) := by
  refine law_upto (C := Try.checked) (s := Rows.OpenSpec.upto Rows.diskDoesSpec) (k := Rows.uptoSmall) rfl own started (by kernel_rfl) Try.func3
    (OpenSpec.witness (enc := enc) (C := Try.checked) (s := Rows.OpenSpec.upto Rows.diskDoesSpec) (k := Rows.uptoSmall) rfl false ⟨#[], #[.agg #[.int .i64 0, .slice none 0 0]], []⟩ 8 (by kernel_rfl) (by kernel_rfl) (by kernel_rfl)
      (x := ([.agg [.lit (.int .i64 0), .nil]], [], [])) (by kernel_rfl) rfl (by kernel_rfl))
    laidOut (by kernel_rfl) (by kernel_rfl) Try.underlying4 rfl ?_
  intro W base args ds p hval0 hA hsmall
  have hval : ∀ (j : Nat) t v, Try.f3.params[j]? = some t → args[j]? = some v → Value.okWide Try.prog W .any base t v := hval0
  clear hval0
  change DataW.TrodAll enc Try.prog W 0 (fun _ => true) true Try.f3.params.toList args.toList ds p at hA
  rw [Try.params3] at hA hval
  obtain ⟨v0, vs0, d0, ds0, p0, q0, hargs, rfl, rfl, h0, r0⟩ := trodAll_cons hA
  obtain ⟨rfl, rfl, rfl⟩ := trodAll_nil r0
  obtain rfl : args = #[v0] := by cases args; simp_all
  refine ⟨rfl, ?_⟩
  obtain ⟨room, p, c, os, rows, rfl, _, hO, hb⟩ := Dk.open_case18 (hval 0 _ v0 rfl rfl) h0
  have hbk := bulks.bound hsmall
  rw [bulks.bulkAll_cons] at hbk
  exact Rk.law_does18 room p c os rows W hO (by omega)

theorem over : Rows.diskDoesUptoRow.holds Try.pinned (Rows.OpenSpec.upto Rows.diskDoesSpec) :=
  OpenClaim.holds_of_cond 3 Try.f3 rfl rfl rfl rfl rfl rfl rfl ⟨rfl, rfl, rfl, rfl, rfl⟩ rfl rfl rfl rfl rfl (by kernel_rfl) Try.func3 (by kernel_rfl)
    (of_decide_eq_true (by kernel_rfl)) (by unfold Func.isWrapper; first | (rw [if_pos (by decide +kernel)]; kernel_rfl) | (rw [if_neg (by decide +kernel)]; exact ⟨rfl, rfl⟩))
    (fun os started H enc _ F => lifted os started H enc F)

theorem proved : Rows.DiskDoesUptoSaid := over
end Go.Proofs.Ytbkkcejpkfbcjaa.diskDoes
