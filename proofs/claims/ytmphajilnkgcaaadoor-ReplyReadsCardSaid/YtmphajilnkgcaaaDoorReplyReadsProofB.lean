/- PROVED: ReplyReads: bytes read as the reference reads them; what is no reply is an empty one; a reply that was read is written again as it was. Conditions: none beyond the row's own. -/
import Derived.Test.YtmphajilnkgcaaaDoorRp1
import Derived.Test.YtmphajilnkgcaaaDoorRp2
import Derived.Test.YtmphajilnkgcaaaDoorRp3
import Derived.Test.YtmphajilnkgcaaaDoorRp4
import Derived.Test.YtmphajilnkgcaaaDoorRp5
import Derived.Test.YtmphajilnkgcaaaDoorRp6
import Derived.Test.YtmphajilnkgcaaaDoorRp7
import Derived.Test.YtmphajilnkgcaaaDoorRows
import Derived.Test.YtmphajilnkgcaaaDoorCards
import Derived.Test.YtmphajilnkgcaaaDoorTie
import Derived.SevenTiedAt
namespace Go.Proofs.YtmphajilnkgcaaaDoor.replyReads
open Go.ChangeShapes Go.WideShapes Go.ChangeAt Go.RowKit Go.Mir


set_option maxRecDepth 100000 in
theorem lifted (os : Os) (started : os.Started) (H : Type) (enc : TypeId × Value → H) (F : Stop.Interp) :
    ReturnsInHanded {} Tryd.checked os 5 .any ((OpenSpec.ofChange Rows.replyReadsSpec).preRow enc Tryd.prog Tryd.f5 Rows.replyReadsRow.domain false Rows.replyReadsRow.laid) (((OpenSpec.ofChange Rows.replyReadsSpec).at F).post enc Tryd.prog Tryd.f5 false true false false) := by
  obtain ⟨places, hx⟩ : ∃ places, DataW.whole enc Tryd.prog ((Rpl.laidWorldR os).forCall (fun _ _ => 0) ⟨#[], #[.slice none 0 0], []⟩).memory Tryd.f5.params.toList Rows.replyReadsSpec.vars false (#[.slice none 0 0] : Array Value).toList 8 = some ([.nil], [], places) := ⟨[], by kernel_rfl⟩
  refine law_row_m (C := Tryd.checked) (s := Rows.replyReadsSpec) Rpl.own started (by kernel_rfl) Tryd.func5
    (witness_row_at (enc := enc) (C := Tryd.checked) false (Rpl.laidWorldR os) #[.slice none 0 0] rfl (by kernel_rfl) (by kernel_rfl) (by kernel_rfl)
      (OpenSpec.preRow_of_cond 8 hx (by kernel_rfl) (fun k hk => by cases hk) (by kernel_rfl) (Rpl.laidWorldR_met os _)))
    Rpl.laidOut (by kernel_rfl) (by kernel_rfl) Tryd.underlying4 rfl ?_
  intro W base args ds p hval0 hA hL hSh
  have hm : Rpl.MaxL W := Rpl.maxL_shaped hSh
  have hval : ∀ (j : Nat) t v, Tryd.f5.params[j]? = some t → args[j]? = some v → Value.okWide Tryd.prog W .any base t v := hval0
  clear hval0
  change DataW.TrodAll enc Tryd.prog W 0 (fun _ => true) true Tryd.f5.params.toList args.toList ds p at hA
  rw [Tryd.params5] at hA hval
  obtain ⟨v0, vs0, d0, ds0, p0, q0, hargs, rfl, rfl, h0, r0⟩ := trodAll_cons hA
  obtain ⟨rfl, rfl, rfl⟩ := trodAll_nil r0
  obtain rfl : args = #[v0] := by cases args; simp_all
  obtain ⟨a0, n0, c0, l0, rfl, hB0⟩ := open_bs Tryd.underlying44 Tryd.underlying5 (by kernel_rfl) (hval 0 _ v0 rfl rfl) h0
  refine ⟨rfl, ?_⟩
  have hE : Rdr.EType W := Rpl.etype_of_laidR hL
  exact Rpl.law_reads _ _ _ _ W hm hE hB0

theorem over : Rows.replyReadsRow.holds Tryd.pinned (OpenSpec.ofChange Rows.replyReadsSpec) :=
  OpenClaim.holds_of_cond 5 Tryd.f5 rfl rfl rfl rfl rfl rfl rfl ⟨rfl, rfl, rfl, rfl, rfl⟩ rfl rfl rfl rfl rfl (by kernel_rfl) Tryd.func5 (by kernel_rfl)
    (of_decide_eq_true (by kernel_rfl)) (by unfold Func.isWrapper; first | (rw [if_pos (by decide +kernel)]; kernel_rfl) | (rw [if_neg (by decide +kernel)]; exact ⟨rfl, rfl⟩))
    (fun os started H enc _ F => by rw [OpenClaim.pre_eq_preRow]; exact lifted os started H enc F)

theorem plain (f : FuncId) (fn : Func) (hf : Tryd.pinned.checked.prog.funcNamed "mirador/miradorlaw15.ReplyReads" = some f) (hfn : Tryd.pinned.checked.prog.funcs[f]? = some fn) :
    true = Tryd.pinned.checked.prog.looks [] ∧ ∀ (j : Nat) t, fn.params[j]? = some t → Tryd.pinned.checked.prog.wantsStandIn t = false := by
  obtain rfl : f = 5 := Option.some.inj ((show Tryd.prog.funcNamed "mirador/miradorlaw15.ReplyReads" = some 5 by kernel_rfl).symm.trans hf) |>.symm
  obtain rfl : fn = Tryd.f5 := (Option.some.inj (Tryd.func5.symm.trans hfn)).symm
  refine ⟨by kernel_rfl, fun j t ht => ?_⟩
  have hall : Tryd.f5.params.toList.all (fun t => !Tryd.prog.wantsStandIn t) = true := by kernel_rfl
  have hm : t ∈ Tryd.f5.params.toList := Array.mem_toList_iff.2 (Array.mem_of_getElem? ht)
  have := List.all_eq_true.1 hall t hm
  show Tryd.prog.wantsStandIn t = false
  simpa using this
theorem proved : Rows.ReplyReadsCardSaid :=
  Claim7.holds_tied_plain_at .later [] _ _ _ _ over (fun _ h => by cases h) (by kernel_rfl) (fun _ h => by cases h) replyReads_row_tie rfl ⟨rfl, rfl⟩ (by kernel_rfl) rfl plain (by kernel_rfl)
end Go.Proofs.YtmphajilnkgcaaaDoor.replyReads
