/- PROVED: RecordCopies: whether any two records are the same; a copy is the same, and apart. Conditions: none beyond the row's own. -/
import Derived.Test.YtdaigkcbmdcbcaaDoorRc1
import Derived.Test.YtdaigkcbmdcbcaaDoorRc2
import Derived.Test.YtdaigkcbmdcbcaaDoorRc3
import Derived.Test.YtdaigkcbmdcbcaaDoorRc4
import Derived.Test.YtdaigkcbmdcbcaaDoorRc5
import Derived.Test.YtdaigkcbmdcbcaaDoorRc6
import Derived.Test.YtdaigkcbmdcbcaaDoorRc7
import Derived.Test.YtdaigkcbmdcbcaaDoorRc8
import Derived.Test.YtdaigkcbmdcbcaaDoorRows
import Derived.Test.YtdaigkcbmdcbcaaDoorCards
import Derived.Test.YtdaigkcbmdcbcaaDoorTie
import Derived.SevenTiedAt
namespace Go.Proofs.YtdaigkcbmdcbcaaDoor.recordCopies
open Go.ChangeShapes Go.WideShapes Go.ChangeAt Go.RowKit Go.Mir

def wit : Value := .agg (#[.int .i64 0, .int .u32 0, .int .u32 0, .int .u32 0] ++ Array.replicate 16 (.int .u8 0) ++ #[.slice none 0 0] ++ Array.replicate 64 (.int .u8 0) ++ #[.slice none 0 0])
def witD {H : Type} : DataW H := .agg [.lit (.int .i64 0), .lit (.int .u32 0), .lit (.int .u32 0), .lit (.int .u32 0), .agg [.lit (.int .u8 0), .lit (.int .u8 0), .lit (.int .u8 0), .lit (.int .u8 0), .lit (.int .u8 0), .lit (.int .u8 0), .lit (.int .u8 0), .lit (.int .u8 0), .lit (.int .u8 0), .lit (.int .u8 0), .lit (.int .u8 0), .lit (.int .u8 0), .lit (.int .u8 0), .lit (.int .u8 0), .lit (.int .u8 0), .lit (.int .u8 0)], .nil, .agg [.agg [.lit (.int .u8 0), .lit (.int .u8 0), .lit (.int .u8 0), .lit (.int .u8 0), .lit (.int .u8 0), .lit (.int .u8 0), .lit (.int .u8 0), .lit (.int .u8 0), .lit (.int .u8 0), .lit (.int .u8 0), .lit (.int .u8 0), .lit (.int .u8 0), .lit (.int .u8 0), .lit (.int .u8 0), .lit (.int .u8 0), .lit (.int .u8 0), .lit (.int .u8 0), .lit (.int .u8 0), .lit (.int .u8 0), .lit (.int .u8 0), .lit (.int .u8 0), .lit (.int .u8 0), .lit (.int .u8 0), .lit (.int .u8 0), .lit (.int .u8 0), .lit (.int .u8 0), .lit (.int .u8 0), .lit (.int .u8 0), .lit (.int .u8 0), .lit (.int .u8 0), .lit (.int .u8 0), .lit (.int .u8 0)], .agg [.lit (.int .u8 0), .lit (.int .u8 0), .lit (.int .u8 0), .lit (.int .u8 0), .lit (.int .u8 0), .lit (.int .u8 0), .lit (.int .u8 0), .lit (.int .u8 0), .lit (.int .u8 0), .lit (.int .u8 0), .lit (.int .u8 0), .lit (.int .u8 0), .lit (.int .u8 0), .lit (.int .u8 0), .lit (.int .u8 0), .lit (.int .u8 0), .lit (.int .u8 0), .lit (.int .u8 0), .lit (.int .u8 0), .lit (.int .u8 0), .lit (.int .u8 0), .lit (.int .u8 0), .lit (.int .u8 0), .lit (.int .u8 0), .lit (.int .u8 0), .lit (.int .u8 0), .lit (.int .u8 0), .lit (.int .u8 0), .lit (.int .u8 0), .lit (.int .u8 0), .lit (.int .u8 0), .lit (.int .u8 0)], .nil]]

set_option maxRecDepth 100000 in
theorem lifted (os : Os) (started : os.Started) (H : Type) (enc : TypeId × Value → H) (F : Stop.Interp) :
    ReturnsInHanded {} Tryd.checked os 7 .any ((OpenSpec.ofChange Rows.recordCopiesSpec).preRow enc Tryd.prog Tryd.f7 Rows.recordCopiesRow.domain false Rows.recordCopiesRow.laid) (((OpenSpec.ofChange Rows.recordCopiesSpec).at F).post enc Tryd.prog Tryd.f7 false true false false) := by
  obtain ⟨places, hx⟩ : ∃ places, DataW.whole enc Tryd.prog ((Rdr.laidWorld os).forCall (fun _ _ => 0) ⟨#[], #[wit, wit], []⟩).memory Tryd.f7.params.toList Rows.recordCopiesSpec.vars false (#[wit, wit] : Array Value).toList 8 = some ([witD, witD], [], places) := ⟨[], by kernel_rfl⟩
  refine law_row (C := Tryd.checked) (s := Rows.recordCopiesSpec) Rdr.own started (by kernel_rfl) Tryd.func7
    (witness_row_at (enc := enc) (C := Tryd.checked) false (Rdr.laidWorld os) #[wit, wit] rfl (by kernel_rfl) (by kernel_rfl) (by kernel_rfl)
      (OpenSpec.preRow_of_cond 8 hx (by kernel_rfl) (fun k hk => by cases hk) (by kernel_rfl) (Rdr.laidWorld_met os _)))
    Rdr.laidOut (by kernel_rfl) (by kernel_rfl) Tryd.underlying4 rfl ?_
  intro W base args ds p hval0 hA hL
  have hE : Rdr.EType W := Rdr.etype_of_laid hL
  have hval : ∀ (j : Nat) t v, Tryd.f7.params[j]? = some t → args[j]? = some v → Value.okWide Tryd.prog W .any base t v := hval0
  clear hval0
  change DataW.TrodAll enc Tryd.prog W 0 (fun _ => true) true Tryd.f7.params.toList args.toList ds p at hA
  rw [Tryd.params7] at hA hval
  obtain ⟨v0, vs0, d0, ds0, p0, q0, hargs, rfl, rfl, h0, r0⟩ := trodAll_cons hA
  obtain ⟨v1, vs1, d1, ds1, p1, q1, rfl, rfl, rfl, h1, r1⟩ := trodAll_cons r0
  obtain ⟨rfl, rfl, rfl⟩ := trodAll_nil r1
  obtain rfl : args = #[v0, v1] := by cases args; simp_all
  refine ⟨rfl, ?_⟩
  obtain ⟨a, s, rfl, hRA⟩ := Rec.open_rec (hval 0 _ v0 rfl rfl) h0
  obtain ⟨b, s2, rfl, hRB⟩ := Rec.open_rec (hval 1 _ v1 rfl rfl) h1
  exact Rec.law_copies a b s s2 W hE hRA hRB

theorem over : Rows.recordCopiesRow.holds Tryd.pinned (OpenSpec.ofChange Rows.recordCopiesSpec) :=
  OpenClaim.holds_of_cond 7 Tryd.f7 rfl rfl rfl rfl rfl rfl rfl ⟨rfl, rfl, rfl, rfl, rfl⟩ rfl rfl rfl rfl rfl (by kernel_rfl) Tryd.func7 (by kernel_rfl)
    (of_decide_eq_true (by kernel_rfl)) (by unfold Func.isWrapper; first | (rw [if_pos (by decide +kernel)]; kernel_rfl) | (rw [if_neg (by decide +kernel)]; exact ⟨rfl, rfl⟩))
    (fun os started H enc _ F => by rw [OpenClaim.pre_eq_preRow]; exact lifted os started H enc F)

theorem plain (f : FuncId) (fn : Func) (hf : Tryd.pinned.checked.prog.funcNamed "mirador/miradorlaw17.RecordCopies" = some f) (hfn : Tryd.pinned.checked.prog.funcs[f]? = some fn) :
    true = Tryd.pinned.checked.prog.looks [] ∧ ∀ (j : Nat) t, fn.params[j]? = some t → Tryd.pinned.checked.prog.wantsStandIn t = false := by
  obtain rfl : f = 7 := Option.some.inj ((show Tryd.prog.funcNamed "mirador/miradorlaw17.RecordCopies" = some 7 by kernel_rfl).symm.trans hf) |>.symm
  obtain rfl : fn = Tryd.f7 := (Option.some.inj (Tryd.func7.symm.trans hfn)).symm
  refine ⟨by kernel_rfl, fun j t ht => ?_⟩
  have hall : Tryd.f7.params.toList.all (fun t => !Tryd.prog.wantsStandIn t) = true := by kernel_rfl
  have hm : t ∈ Tryd.f7.params.toList := Array.mem_toList_iff.2 (Array.mem_of_getElem? ht)
  have := List.all_eq_true.1 hall t hm
  show Tryd.prog.wantsStandIn t = false
  simpa using this
theorem proved : Rows.RecordCopiesCardSaid :=
  Claim7.holds_tied_plain_at .later [] _ _ _ _ over (fun _ h => by cases h) (by kernel_rfl) (fun _ h => by cases h) recordCopies_row_tie rfl ⟨rfl, rfl⟩ (by kernel_rfl) rfl plain (by kernel_rfl)
end Go.Proofs.YtdaigkcbmdcbcaaDoor.recordCopies
