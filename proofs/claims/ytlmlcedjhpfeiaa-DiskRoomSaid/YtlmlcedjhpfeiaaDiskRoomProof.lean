/- PROVED: DiskRoom: whatever is done to a disk, its needs are never above the room, its files hold no more than that, and a crash leaves no more. Conditions: none beyond the row's own (the reach is the form's). -/
import Derived.Test.YtlmlcedjhpfeiaaRows
import Derived.Test.YtlmlcedjhpfeiaaDkRoom
import Derived.Test.YtlmlcedjhpfeiaaOpen
import Derived.SizedLaws
namespace Go.Proofs.Ytlmlcedjhpfeiaa.diskRoom
open Go.ChangeShapes Go.WideShapes Go.ChangeAt Go.RowKit Go.Mir

theorem own : ownKnob Try.prog.godebug = none := by kernel_rfl
theorem laidOut : laidOutB Try.prog = true := by kernel_rfl

set_option maxRecDepth 100000 in
theorem lifted (os : Os) (started : os.Started) (H : Type) (enc : TypeId × Value → H) :
    ReturnsInHanded {} Try.checked os 5 .any (Rows.diskRoomSpec.pre6 enc Try.prog Try.f5 Rows.diskRoomRow.domain false) (Rows.diskRoomSpec.post enc Try.prog Try.f5 false true false false) := by
  refine law_said_sized (C := Try.checked) own started (by kernel_rfl) Try.func5
    (ChangeSpec.witness6 (enc := enc) (C := Try.checked) false ⟨#[], #[.agg #[.int .i64 0, .slice none 0 0], .agg #[.int .i64 0, .int .i64 0, .int .i64 0]], []⟩ 8 (by kernel_rfl) (by kernel_rfl) (by kernel_rfl) (by kernel_rfl))
    laidOut (by kernel_rfl) (by kernel_rfl) Try.underlying4 rfl (by kernel_rfl) ?_
  intro W base args ds p hval0 hA hwt0
  have hval : ∀ (j : Nat) t v, Try.f5.params[j]? = some t → args[j]? = some v → Value.okWide Try.prog W .any base t v := hval0
  clear hval0
  change DataW.TrodAll enc Try.prog W 0 (fun _ => true) true Try.f5.params.toList args.toList ds p at hA
  rw [Try.params5] at hA hval
  have hwt : (DataW.weightsEach Try.prog Try.f5.params.toList ds).all (· ≤ reachBytes) = true := hwt0
  clear hwt0
  rw [Try.params5] at hwt
  obtain ⟨v0, vs0, d0, ds0, p0, q0, hargs, rfl, rfl, h0, r0⟩ := trodAll_cons hA
  obtain ⟨v1, vs1, d1, ds1, p1, q1, rfl, rfl, rfl, h1, r1⟩ := trodAll_cons r0
  obtain ⟨rfl, rfl, rfl⟩ := trodAll_nil r1
  obtain rfl : args = #[v0, v1] := by cases args; simp_all
  obtain ⟨room, p, c, os, rows, rfl, hroom, hO, hbl⟩ := Dk.open_case (hval 0 _ v0 rfl rfl) h0
  obtain ⟨zs, rfl, hzl, hzw⟩ := open_nums Try.underlying42 Try.underlying3 (by kernel_rfl) (by kernel_rfl) (hval 1 _ v1 rfl rfl) h1
  refine ⟨rfl, ?_⟩
  obtain ⟨hos, hbl⟩ := hbl (Dk.wEach_mem hwt (j := 0) rfl rfl)
  obtain ⟨x, y, z, rfl⟩ : ∃ x y z, zs = [x, y, z] := by
    match zs, hzl with
    | [x, y, z], _ => exact ⟨x, y, z, rfl⟩
  exact Dk.law_room room hroom p c os rows W hO hos hbl x y z (fun u hu => i64_bd (hzw u hu))

theorem over : Rows.diskRoomRow.holds Try.pinned (OpenSpec.ofChange Rows.diskRoomSpec) :=
  OpenClaim.holds_of_wide 5 Try.f5 rfl rfl rfl rfl rfl rfl rfl ⟨rfl, rfl, rfl, rfl, rfl⟩ rfl rfl rfl rfl rfl (by kernel_rfl) Try.func5 (by kernel_rfl)
    (of_decide_eq_true (by kernel_rfl)) (by unfold Func.isWrapper; first | (rw [if_pos (by decide +kernel)]; kernel_rfl) | (rw [if_neg (by decide +kernel)]; exact ⟨rfl, rfl⟩))
    (fun os started H enc _ => lifted os started H enc)

theorem proved : Rows.DiskRoomSaid := over
end Go.Proofs.Ytlmlcedjhpfeiaa.diskRoom
