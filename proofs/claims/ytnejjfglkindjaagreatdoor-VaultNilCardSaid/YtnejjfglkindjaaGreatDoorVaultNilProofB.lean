/- PROVED: VaultNil: of a nil disk there is no vault; a nil vault, and one that no call made, keeps nothing. Conditions: none beyond the row's own. -/
import Derived.Test.YtnejjfglkindjaaGreatDoorVa1
import Derived.Test.YtnejjfglkindjaaGreatDoorVa2
import Derived.Test.YtnejjfglkindjaaGreatDoorVa3
import Derived.Test.YtnejjfglkindjaaGreatDoorVa4
import Derived.Test.YtnejjfglkindjaaGreatDoorVa5
import Derived.Test.YtnejjfglkindjaaGreatDoorVa6
import Derived.Test.YtnejjfglkindjaaGreatDoorVa7
import Derived.Test.YtnejjfglkindjaaGreatDoorVa8
import Derived.Test.YtnejjfglkindjaaGreatDoorVa9
import Derived.Test.YtnejjfglkindjaaGreatDoorVa10
import Derived.Test.YtnejjfglkindjaaGreatDoorVa11
import Derived.Test.YtnejjfglkindjaaGreatDoorVa12
import Derived.Test.YtnejjfglkindjaaGreatDoorRows
import Derived.Test.YtnejjfglkindjaaGreatDoorCards
import Derived.Test.YtnejjfglkindjaaGreatDoorTie
import Derived.SevenTiedAt
namespace Go.Proofs.YtnejjfglkindjaaGreatDoor.vaultNil
open Go.ChangeShapes Go.WideShapes Go.ChangeAt Go.RowKit Go.Mir


set_option maxRecDepth 100000 in
theorem lifted (os : Os) (started : os.Started) (H : Type) (enc : TypeId × Value → H) (F : Stop.Interp) :
    ReturnsInHanded {} Tryz.checked os 3 .any ((OpenSpec.ofChange Rows.vaultNilSpec).preRow enc Tryz.prog Tryz.f3 Rows.vaultNilRow.domain false Rows.vaultNilRow.laid) (((OpenSpec.ofChange Rows.vaultNilSpec).at F).post enc Tryz.prog Tryz.f3 false true false false) := by
  obtain ⟨places, hx⟩ : ∃ places, DataW.whole enc Tryz.prog ((Rdr.laidWorld os).forCall (fun _ _ => 0) ⟨#[], #[.slice none 0 0], []⟩).memory Tryz.f3.params.toList Rows.vaultNilSpec.vars false (#[.slice none 0 0] : Array Value).toList 8 = some ([.nil], [], places) := ⟨[], by kernel_rfl⟩
  refine law_row (C := Tryz.checked) (s := Rows.vaultNilSpec) Rdr.own started (by kernel_rfl) Tryz.func3
    (witness_row_at (enc := enc) (C := Tryz.checked) false (Rdr.laidWorld os) #[.slice none 0 0] rfl (by kernel_rfl) (by kernel_rfl) (by kernel_rfl)
      (OpenSpec.preRow_of_cond 8 hx (by kernel_rfl) (fun k hk => by cases hk) (by kernel_rfl) (Rdr.laidWorld_met os _)))
    Rdr.laidOut (by kernel_rfl) (by kernel_rfl) Tryz.underlying4 rfl ?_
  intro W base args ds p hval0 hA hL
  have hE : Rdr.EType W := Rdr.etype_of_laid hL
  have hval : ∀ (j : Nat) t v, Tryz.f3.params[j]? = some t → args[j]? = some v → Value.okWide Tryz.prog W .any base t v := hval0
  clear hval0
  change DataW.TrodAll enc Tryz.prog W 0 (fun _ => true) true Tryz.f3.params.toList args.toList ds p at hA
  rw [Tryz.params3] at hA hval
  obtain ⟨v0, vs0, d0, ds0, p0, q0, hargs, rfl, rfl, h0, r0⟩ := trodAll_cons hA
  obtain ⟨rfl, rfl, rfl⟩ := trodAll_nil r0
  obtain rfl : args = #[v0] := by cases args; simp_all
  obtain ⟨a0, n0, c0, l0, rfl, hB0⟩ := open_bs Tryz.underlying22 Tryz.underlying5 (by kernel_rfl) (hval 0 _ v0 rfl rfl) h0
  refine ⟨rfl, ?_⟩
  exact Vlt.law_nil _ _ _ W hE

theorem over : Rows.vaultNilRow.holds Tryz.pinned (OpenSpec.ofChange Rows.vaultNilSpec) :=
  OpenClaim.holds_of_cond 3 Tryz.f3 rfl rfl rfl rfl rfl rfl rfl ⟨rfl, rfl, rfl, rfl, rfl⟩ rfl rfl rfl rfl rfl (by kernel_rfl) Tryz.func3 (by kernel_rfl)
    (of_decide_eq_true (by kernel_rfl)) (by unfold Func.isWrapper; first | (rw [if_pos (by decide +kernel)]; kernel_rfl) | (rw [if_neg (by decide +kernel)]; exact ⟨rfl, rfl⟩))
    (fun os started H enc _ F => by rw [OpenClaim.pre_eq_preRow]; exact lifted os started H enc F)

theorem plain (f : FuncId) (fn : Func) (hf : Tryz.pinned.checked.prog.funcNamed "mirador/miradorlaw22.VaultNil" = some f) (hfn : Tryz.pinned.checked.prog.funcs[f]? = some fn) :
    true = Tryz.pinned.checked.prog.looks [] ∧ ∀ (j : Nat) t, fn.params[j]? = some t → Tryz.pinned.checked.prog.wantsStandIn t = false := by
  obtain rfl : f = 3 := Option.some.inj ((show Tryz.prog.funcNamed "mirador/miradorlaw22.VaultNil" = some 3 by kernel_rfl).symm.trans hf) |>.symm
  obtain rfl : fn = Tryz.f3 := (Option.some.inj (Tryz.func3.symm.trans hfn)).symm
  refine ⟨by kernel_rfl, fun j t ht => ?_⟩
  have hall : Tryz.f3.params.toList.all (fun t => !Tryz.prog.wantsStandIn t) = true := by kernel_rfl
  have hm : t ∈ Tryz.f3.params.toList := Array.mem_toList_iff.2 (Array.mem_of_getElem? ht)
  have := List.all_eq_true.1 hall t hm
  show Tryz.prog.wantsStandIn t = false
  simpa using this
theorem proved : Rows.VaultNilCardSaid :=
  Claim7.holds_tied_plain_at .later [] _ _ _ _ over (fun _ h => by cases h) (by kernel_rfl) (fun _ h => by cases h) vaultNil_row_tie rfl ⟨rfl, rfl⟩ (by kernel_rfl) rfl plain (by kernel_rfl)
end Go.Proofs.YtnejjfglkindjaaGreatDoor.vaultNil
