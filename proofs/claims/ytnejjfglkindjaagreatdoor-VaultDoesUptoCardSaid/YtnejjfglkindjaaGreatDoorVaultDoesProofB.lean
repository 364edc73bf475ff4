/- PROVED: VaultDoes: whatever is kept and compacted, and wherever the disk goes down: each answer, the snapshot, the records, and what the disk holds, are as the document says. Conditions: none beyond the row's own. -/
import Derived.Test.YtnejjfglkindjaaGreatDoorVc1
import Derived.Test.YtnejjfglkindjaaGreatDoorVc2
import Derived.Test.YtnejjfglkindjaaGreatDoorVc3
import Derived.Test.YtnejjfglkindjaaGreatDoorVc4
import Derived.Test.YtnejjfglkindjaaGreatDoorVc5
import Derived.Test.YtnejjfglkindjaaGreatDoorVc6
import Derived.Test.YtnejjfglkindjaaGreatDoorVc7
import Derived.Test.YtnejjfglkindjaaGreatDoorVc8
import Derived.Test.YtnejjfglkindjaaGreatDoorVc9
import Derived.Test.YtnejjfglkindjaaGreatDoorVc10
import Derived.Test.YtnejjfglkindjaaGreatDoorVc11
import Derived.Test.YtnejjfglkindjaaGreatDoorVc12
import Derived.Test.YtnejjfglkindjaaGreatDoorVc13
import Derived.Test.YtnejjfglkindjaaGreatDoorRows
import Derived.Test.YtnejjfglkindjaaGreatDoorCards
import Derived.Test.YtnejjfglkindjaaGreatDoorTie
import Derived.SevenTiedAt
namespace Go.Proofs.YtnejjfglkindjaaGreatDoor.vaultDoes
open Go.ChangeShapes Go.WideShapes Go.ChangeAt Go.RowKit Go.Mir
set_option maxRecDepth 100000 in
theorem lifted (os : Os) (started : os.Started) (H : Type) (enc : TypeId × Value → H) (F : Stop.Interp) :
  ReturnsInHanded {} Tryz.checked os 6 .any ((Rows.OpenSpec.upto Rows.vaultDoesSpec).preRow enc Tryz.prog Tryz.f6 Rows.vaultDoesUptoRow.domain false Rows.vaultDoesUptoRow.laid) (((Rows.OpenSpec.upto Rows.vaultDoesSpec).at F).post enc Tryz.prog Tryz.f6 false true false false) := by
 obtain ⟨places, hx⟩ : ∃ places, DataW.whole enc Tryz.prog ((Rdr.laidWorld os).forCall (fun _ _ => 0) ⟨#[], #[.agg #[.int .i64 0, .slice none 0 0]], []⟩).memory Tryz.f6.params.toList (Rows.OpenSpec.upto Rows.vaultDoesSpec).vars false (#[.agg #[.int .i64 0, .slice none 0 0]] : Array Value).toList 8 = some ([.agg [.lit (.int .i64 0), .nil]], [], places) := ⟨[], by kernel_rfl⟩
 refine law_row_upto (C := Tryz.checked) (s := Rows.OpenSpec.upto Rows.vaultDoesSpec) (k := Rows.uptoSmall) rfl Rdr.own started (by kernel_rfl) Tryz.func6
  (witness_row_at (enc := enc) (C := Tryz.checked) false (Rdr.laidWorld os) #[.agg #[.int .i64 0, .slice none 0 0]] rfl (by kernel_rfl) (by kernel_rfl) (by kernel_rfl)
   (OpenSpec.preRow_of_cond 8 hx (by kernel_rfl) (fun k hk => by cases hk; kernel_rfl) (by kernel_rfl) (Rdr.laidWorld_met os _)))
  Rdr.laidOut (by kernel_rfl) (by kernel_rfl) Tryz.underlying4 rfl ?_
 intro W base args ds p hval0 hA hL hsmall
 have hE : Rdr.EType W := Rdr.etype_of_laid hL
 have hval : ∀ (j : Nat) t v, Tryz.f6.params[j]? = some t → args[j]? = some v → Value.okWide Tryz.prog W .any base t v := hval0
 clear hval0
 change DataW.TrodAll enc Tryz.prog W 0 (fun _ => true) true Tryz.f6.params.toList args.toList ds p at hA
 rw [Tryz.params6] at hA hval
 obtain ⟨v0, vs0, d0, ds0, p0, q0, hargs, rfl, rfl, h0, r0⟩ := trodAll_cons hA
 obtain ⟨rfl, rfl, rfl⟩ := trodAll_nil r0
 obtain rfl : args = #[v0] := by cases args; simp_all
 refine ⟨rfl, ?_⟩
 obtain ⟨room, p, c, os, rows, rfl, _, hO, hb⟩ := Vlt.open_case22 (hval 0 _ v0 rfl rfl) h0
 have hbk := bulks.bound hsmall
 rw [bulks.bulkAll_cons] at hbk
 exact Vlt.law_does22 room p c os rows W hE hO (by omega)
theorem over : Rows.vaultDoesUptoRow.holds Tryz.pinned (Rows.OpenSpec.upto Rows.vaultDoesSpec) :=
 OpenClaim.holds_of_cond 6 Tryz.f6 rfl rfl rfl rfl rfl rfl rfl ⟨rfl, rfl, rfl, rfl, rfl⟩ rfl rfl rfl rfl rfl (by kernel_rfl) Tryz.func6 (by kernel_rfl)
  (of_decide_eq_true (by kernel_rfl)) (by unfold Func.isWrapper; first | (rw [if_pos (by decide +kernel)]; kernel_rfl) | (rw [if_neg (by decide +kernel)]; exact ⟨rfl, rfl⟩))
  (fun os started H enc _ F => by rw [OpenClaim.pre_eq_preRow]; exact lifted os started H enc F)
theorem plain (f : FuncId) (fn : Func) (hf : Tryz.pinned.checked.prog.funcNamed "mirador/miradorlaw22.VaultDoes" = some f) (hfn : Tryz.pinned.checked.prog.funcs[f]? = some fn) :
  true = Tryz.pinned.checked.prog.looks [] ∧ ∀ (j : Nat) t, fn.params[j]? = some t → Tryz.pinned.checked.prog.wantsStandIn t = false := by
 obtain rfl : f = 6 := Option.some.inj ((show Tryz.prog.funcNamed "mirador/miradorlaw22.VaultDoes" = some 6 by kernel_rfl).symm.trans hf) |>.symm
 obtain rfl : fn = Tryz.f6 := (Option.some.inj (Tryz.func6.symm.trans hfn)).symm
 refine ⟨by kernel_rfl, fun j t ht => ?_⟩
 have hall : Tryz.f6.params.toList.all (fun t => !Tryz.prog.wantsStandIn t) = true := by kernel_rfl
 have hm : t ∈ Tryz.f6.params.toList := Array.mem_toList_iff.2 (Array.mem_of_getElem? ht)
 have := List.all_eq_true.1 hall t hm
 show Tryz.prog.wantsStandIn t = false
 simpa using this
theorem proved : Rows.VaultDoesUptoCardSaid :=
 Claim7.holds_tied_plain_at .later [] _ _ _ _ over (fun _ h => by cases h) (by kernel_rfl) (fun _ h => by cases h) vaultDoesUpto_row_tie rfl ⟨rfl, rfl⟩ (by kernel_rfl) rfl plain (by kernel_rfl)
end Go.Proofs.YtnejjfglkindjaaGreatDoor.vaultDoes
