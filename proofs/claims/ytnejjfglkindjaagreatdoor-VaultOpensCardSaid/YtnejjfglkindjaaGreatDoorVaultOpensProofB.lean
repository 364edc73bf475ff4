/- PROVED: VaultOpens: what any files hold: a vault, or the error, as the document says. Conditions: none beyond the row's own. -/
import Derived.Test.YtnejjfglkindjaaGreatDoorVo1
import Derived.Test.YtnejjfglkindjaaGreatDoorVo2
import Derived.Test.YtnejjfglkindjaaGreatDoorVo3
import Derived.Test.YtnejjfglkindjaaGreatDoorVo4
import Derived.Test.YtnejjfglkindjaaGreatDoorVo5
import Derived.Test.YtnejjfglkindjaaGreatDoorVo6
import Derived.Test.YtnejjfglkindjaaGreatDoorVo7
import Derived.Test.YtnejjfglkindjaaGreatDoorVo8
import Derived.Test.YtnejjfglkindjaaGreatDoorVo9
import Derived.Test.YtnejjfglkindjaaGreatDoorVo10
import Derived.Test.YtnejjfglkindjaaGreatDoorVo11
import Derived.Test.YtnejjfglkindjaaGreatDoorRows
import Derived.Test.YtnejjfglkindjaaGreatDoorCards
import Derived.Test.YtnejjfglkindjaaGreatDoorTie
import Derived.SevenTiedAt
namespace Go.Proofs.YtnejjfglkindjaaGreatDoor.vaultOpens
open Go.ChangeShapes Go.WideShapes Go.ChangeAt Go.RowKit Go.Mir
set_option maxRecDepth 100000 in
theorem lifted (os : Os) (started : os.Started) (H : Type) (enc : TypeId × Value → H) (F : Stop.Interp) :
  ReturnsInHanded {} Tryz.checked os 5 .any ((OpenSpec.ofChange Rows.vaultOpensSpec).preRow enc Tryz.prog Tryz.f5 Rows.vaultOpensRow.domain false Rows.vaultOpensRow.laid) (((OpenSpec.ofChange Rows.vaultOpensSpec).at F).post enc Tryz.prog Tryz.f5 false true false false) := by
 obtain ⟨places, hx⟩ : ∃ places, DataW.whole enc Tryz.prog ((Rdr.laidWorld os).forCall (fun _ _ => 0) ⟨#[], #[.slice none 0 0, .slice none 0 0, .slice none 0 0], []⟩).memory Tryz.f5.params.toList Rows.vaultOpensSpec.vars false (#[.slice none 0 0, .slice none 0 0, .slice none 0 0] : Array Value).toList 8 = some ([.nil, .nil, .nil], [], places) := ⟨[], by kernel_rfl⟩
 refine law_row (C := Tryz.checked) (s := Rows.vaultOpensSpec) Rdr.own started (by kernel_rfl) Tryz.func5
  (witness_row_at (enc := enc) (C := Tryz.checked) false (Rdr.laidWorld os) #[.slice none 0 0, .slice none 0 0, .slice none 0 0] rfl (by kernel_rfl) (by kernel_rfl) (by kernel_rfl)
   (OpenSpec.preRow_of_cond 8 hx (by kernel_rfl) (fun k hk => by cases hk) (by kernel_rfl) (Rdr.laidWorld_met os _)))
  Rdr.laidOut (by kernel_rfl) (by kernel_rfl) Tryz.underlying4 rfl ?_
 intro W base args ds p hval0 hA hL
 have hE : Rdr.EType W := Rdr.etype_of_laid hL
 have hval : ∀ (j : Nat) t v, Tryz.f5.params[j]? = some t → args[j]? = some v → Value.okWide Tryz.prog W .any base t v := hval0
 clear hval0
 change DataW.TrodAll enc Tryz.prog W 0 (fun _ => true) true Tryz.f5.params.toList args.toList ds p at hA
 rw [Tryz.params5] at hA hval
 obtain ⟨v0, vs0, d0, ds0, p0, q0, hargs, rfl, rfl, h0, r0⟩ := trodAll_cons hA
 obtain ⟨v1, vs1, d1, ds1, p1, q1, rfl, rfl, rfl, h1, r1⟩ := trodAll_cons r0
 obtain ⟨v2, vs2, d2, ds2, p2, q2, rfl, rfl, rfl, h2, r2⟩ := trodAll_cons r1
 obtain ⟨rfl, rfl, rfl⟩ := trodAll_nil r2
 obtain rfl : args = #[v0, v1, v2] := by cases args; simp_all
 obtain ⟨a2, n2, c2, l2, rfl, hB2⟩ := open_bs Tryz.underlying22 Tryz.underlying5 (by kernel_rfl) (hval 2 _ v2 rfl rfl) h2
 refine ⟨rfl, ?_⟩
 obtain ⟨pu, cu, us, rfl, hU⟩ := Vlt.open_us Tryz.underlying59 Tryz.underlying30 (by kernel_rfl) (hval 0 _ v0 rfl rfl) h0
 obtain ⟨a, n, c, ls, rfl, hP, _⟩ := open_pts Tryz.underlying31 Tryz.underlying22 Tryz.underlying5 (by kernel_rfl) (by kernel_rfl) (hval 1 _ v1 rfl rfl) h1
 obtain rfl : ls.length = n := hP.len
 obtain rfl : l2.length = n2 := hB2.length
 exact Vlt.law_opens22 pu cu us a c ls a2 c2 l2 W hE hU hP hB2
theorem over : Rows.vaultOpensRow.holds Tryz.pinned (OpenSpec.ofChange Rows.vaultOpensSpec) :=
 OpenClaim.holds_of_cond 5 Tryz.f5 rfl rfl rfl rfl rfl rfl rfl ⟨rfl, rfl, rfl, rfl, rfl⟩ rfl rfl rfl rfl rfl (by kernel_rfl) Tryz.func5 (by kernel_rfl)
  (of_decide_eq_true (by kernel_rfl)) (by unfold Func.isWrapper; first | (rw [if_pos (by decide +kernel)]; kernel_rfl) | (rw [if_neg (by decide +kernel)]; exact ⟨rfl, rfl⟩))
  (fun os started H enc _ F => by rw [OpenClaim.pre_eq_preRow]; exact lifted os started H enc F)
theorem plain (f : FuncId) (fn : Func) (hf : Tryz.pinned.checked.prog.funcNamed "mirador/miradorlaw22.VaultOpens" = some f) (hfn : Tryz.pinned.checked.prog.funcs[f]? = some fn) :
  true = Tryz.pinned.checked.prog.looks [] ∧ ∀ (j : Nat) t, fn.params[j]? = some t → Tryz.pinned.checked.prog.wantsStandIn t = false := by
 obtain rfl : f = 5 := Option.some.inj ((show Tryz.prog.funcNamed "mirador/miradorlaw22.VaultOpens" = some 5 by kernel_rfl).symm.trans hf) |>.symm
 obtain rfl : fn = Tryz.f5 := (Option.some.inj (Tryz.func5.symm.trans hfn)).symm
 refine ⟨by kernel_rfl, fun j t ht => ?_⟩
 have hall : Tryz.f5.params.toList.all (fun t => !Tryz.prog.wantsStandIn t) = true := by kernel_rfl
 have hm : t ∈ Tryz.f5.params.toList := Array.mem_toList_iff.2 (Array.mem_of_getElem? ht)
 have := List.all_eq_true.1 hall t hm
 show Tryz.prog.wantsStandIn t = false
 simpa using this
theorem proved : Rows.VaultOpensCardSaid :=
 Claim7.holds_tied_plain_at .later [] _ _ _ _ over (fun _ h => by cases h) (by kernel_rfl) (fun _ h => by cases h) vaultOpens_row_tie rfl ⟨rfl, rfl⟩ (by kernel_rfl) rfl plain (by kernel_rfl)
end Go.Proofs.YtnejjfglkindjaaGreatDoor.vaultOpens
