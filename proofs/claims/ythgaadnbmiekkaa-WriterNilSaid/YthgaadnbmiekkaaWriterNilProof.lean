/- PROVED: WriterNil: a writer that is nil, or that no call made, writes nothing, whatever is asked of it. Conditions: none beyond the row's own (the reach is the form's). -/
import Derived.Test.YthgaadnbmiekkaaRows
import Derived.Test.YthgaadnbmiekkaaW10Nil
import Derived.Test.YthgaadnbmiekkaaOpen
namespace Go.Proofs.Ythgaadnbmiekkaa.writerNil
open Go.ChangeShapes Go.WideShapes Go.ChangeAt Go.RowKit Go.Mir

theorem own : ownKnob Try.prog.godebug = none := by kernel_rfl
theorem laidOut : laidOutB Try.prog = true := by kernel_rfl

set_option maxRecDepth 100000 in
theorem lifted (os : Os) (started : os.Started) (H : Type) (enc : TypeId × Value → H) :
    ReturnsInHanded {} Try.checked os 3 .any (Rows.writerNilSpec.pre6 enc Try.prog Try.f3 Rows.writerNilRow.domain false) (Rows.writerNilSpec.post enc Try.prog Try.f3 false true false false) := by
  refine law_said_sized (C := Try.checked) own started (by kernel_rfl) Try.func3
    (ChangeSpec.witness6 (enc := enc) (C := Try.checked) false ⟨#[], #[(.agg (#[.int .i64 0, .int .i64 0, .int .u64 0, .slice none 0 0] ++ (List.replicate 32 (Value.int .u8 0)).toArray ++ #[.slice none 0 0]))], []⟩ 8 (by kernel_rfl) (by kernel_rfl) (by kernel_rfl) (by kernel_rfl))
    laidOut (by kernel_rfl) (by kernel_rfl) Try.underlying4 rfl (by kernel_rfl) ?_
  intro W base args ds p hval0 hA hwt0
  have hval : ∀ (j : Nat) t v, Try.f3.params[j]? = some t → args[j]? = some v → Value.okWide Try.prog W .any base t v := hval0
  clear hval0
  change DataW.TrodAll enc Try.prog W 0 (fun _ => true) true Try.f3.params.toList args.toList ds p at hA
  rw [Try.params3] at hA hval
  have hwt : (DataW.weightsEach Try.prog Try.f3.params.toList ds).all (· ≤ reachBytes) = true := hwt0
  clear hwt0
  rw [Try.params3] at hwt
  obtain ⟨v0, vs0, d0, ds0, p0, q0, hargs, rfl, rfl, h0, r0⟩ := trodAll_cons hA
  obtain ⟨rfl, rfl, rfl⟩ := trodAll_nil r0
  obtain rfl : args = #[v0] := by cases args; simp_all
  obtain ⟨cs, rfl, hcs⟩ := okWide_struct Try.underlying28 (hval 0 _ v0 rfl rfl)
  obtain ⟨fuel, hf⟩ := h0
  obtain ⟨o, ho, e0, e1, e2, e3, e4, e5, hd, hl3, hl5⟩ := W10.trod_op hf
  refine ⟨rfl, ?_⟩
  have hs : o.ids.length ≤ 4398046511104 := by
    have hd' : d0 = .agg [e0, e1, e2, e3, e4, e5] := hd
    subst hd'
    rw [← hl5]
    cases e5 with
    | slice elems spare =>
      have h1 := List.all_eq_true.1 hwt ((elems.length + spare.length) * 32) (by
        refine DataW.weights_mem_each (j := 0) rfl rfl _ ?_
        rw [DataW.weights, Try.underlying28]
        refine DataW.weights_mem_each (j := 5) rfl rfl _ ?_
        rw [DataW.weights, show Try.prog.underlying _ = _ from Try.underlying26]
        exact List.mem_cons_self)
      have h2 : (elems.length + spare.length) * 32 ≤ 140737488351232 := of_decide_eq_true h1
      show elems.length ≤ _
      omega
    | _ => simp [dlen]
  have hc : cs = cs.toList.toArray := by simp
  rw [hc]
  exact W10.nil_any _ o W ho hs

theorem over : Rows.writerNilRow.holds Try.pinned (OpenSpec.ofChange Rows.writerNilSpec) :=
  OpenClaim.holds_of_wide 3 Try.f3 rfl rfl rfl rfl rfl rfl rfl ⟨rfl, rfl, rfl, rfl, rfl⟩ rfl rfl rfl rfl rfl (by kernel_rfl) Try.func3 (by kernel_rfl)
    (of_decide_eq_true (by kernel_rfl)) (by unfold Func.isWrapper; first | (rw [if_pos (by decide +kernel)]; kernel_rfl) | (rw [if_neg (by decide +kernel)]; exact ⟨rfl, rfl⟩))
    (fun os started H enc _ => lifted os started H enc)

theorem proved : Rows.WriterNilSaid := over
end Go.Proofs.Ythgaadnbmiekkaa.writerNil
