/- PROVED: SlotTurns: turns go up by one, files take turns, and a snapshot that is told is one's own. Conditions: none beyond the row's own. -/
import Derived.Test.YtgmahahhkaofbaaDoorSb1
import Derived.Test.YtgmahahhkaofbaaDoorSb2
import Derived.Test.YtgmahahhkaofbaaDoorSb3
import Derived.Test.YtgmahahhkaofbaaDoorSb4
import Derived.Test.YtgmahahhkaofbaaDoorSb5
import Derived.Test.YtgmahahhkaofbaaDoorSb6
import Derived.Test.YtgmahahhkaofbaaDoorSb7
import Derived.Test.YtgmahahhkaofbaaDoorSb8
import Derived.Test.YtgmahahhkaofbaaDoorSb9
import Derived.Test.YtgmahahhkaofbaaDoorRows
import Derived.Test.YtgmahahhkaofbaaDoorCards
import Derived.Test.YtgmahahhkaofbaaDoorTie
import Derived.SevenTiedAt
namespace Go.Proofs.YtgmahahhkaofbaaDoor.slotTurns
open Go.ChangeShapes Go.WideShapes Go.ChangeAt Go.RowKit Go.Mir


set_option maxRecDepth 100000 in
theorem lifted (os : Os) (started : os.Started) (H : Type) (enc : TypeId × Value → H) (F : Stop.Interp) :
    ReturnsInHanded {} Tryd.checked os 3 .any ((Rows.OpenSpec.upto Rows.slotTurnsSpec).preRow enc Tryd.prog Tryd.f3 Rows.slotTurnsUptoRow.domain false Rows.slotTurnsUptoRow.laid) (((Rows.OpenSpec.upto Rows.slotTurnsSpec).at F).post enc Tryd.prog Tryd.f3 false true false false) := by
  obtain ⟨places, hx⟩ : ∃ places, DataW.whole enc Tryd.prog ((Rdr.laidWorld os).forCall (fun _ _ => 0) ⟨#[], #[.slice none 0 0, .int .u64 0], []⟩).memory Tryd.f3.params.toList (Rows.OpenSpec.upto Rows.slotTurnsSpec).vars false (#[.slice none 0 0, .int .u64 0] : Array Value).toList 8 = some ([.nil, .lit (.int .u64 0)], [], places) := ⟨[], by kernel_rfl⟩
  refine law_row_upto (C := Tryd.checked) (s := Rows.OpenSpec.upto Rows.slotTurnsSpec) (k := Rows.uptoSmall) rfl Rdr.own started (by kernel_rfl) Tryd.func3
    (witness_row_at (enc := enc) (C := Tryd.checked) false (Rdr.laidWorld os) #[.slice none 0 0, .int .u64 0] rfl (by kernel_rfl) (by kernel_rfl) (by kernel_rfl)
      (OpenSpec.preRow_of_cond 8 hx (by kernel_rfl) (fun k hk => by cases hk; kernel_rfl) (by kernel_rfl) (Rdr.laidWorld_met os _)))
    Rdr.laidOut (by kernel_rfl) (by kernel_rfl) Tryd.underlying4 rfl ?_
  intro W base args ds p hval0 hA hL hsmall
  have hE : Rdr.EType W := Rdr.etype_of_laid hL
  have hval : ∀ (j : Nat) t v, Tryd.f3.params[j]? = some t → args[j]? = some v → Value.okWide Tryd.prog W .any base t v := hval0
  clear hval0
  change DataW.TrodAll enc Tryd.prog W 0 (fun _ => true) true Tryd.f3.params.toList args.toList ds p at hA
  rw [Tryd.params3] at hA hval
  obtain ⟨v0, vs0, d0, ds0, p0, q0, hargs, rfl, rfl, h0, r0⟩ := trodAll_cons hA
  obtain ⟨v1, vs1, d1, ds1, p1, q1, rfl, rfl, rfl, h1, r1⟩ := trodAll_cons r0
  obtain ⟨rfl, rfl, rfl⟩ := trodAll_nil r1
  obtain rfl : args = #[v0, v1] := by cases args; simp_all
  obtain ⟨a1, rfl, rfl, rfl, w1⟩ := open_int Tryd.underlying23 (hval 1 _ v1 rfl rfl) h1
  refine ⟨rfl, ?_⟩
  obtain ⟨k1, rfl, hk1⟩ := u64_nat w1
  obtain ⟨a, n, c, ls, rfl, hP, hd⟩ := open_pts Tryd.underlying22 Tryd.underlying31 Tryd.underlying5 (by kernel_rfl) (by kernel_rfl) (hval 0 _ v0 rfl rfl) h0
  have hbk := bulks.bound hsmall
  have hsum : n + R02.total ls ≤ 4611686018427387904 := by
    rcases hd with ⟨_, rfl⟩ | ⟨elems, spare, rfl, hel⟩
    · have := hP.len; simp [R02.total] at *; omega
    · have h1 := bulks.dlens_le elems
      have h2 := congrArg List.sum hel
      have h3 := congrArg List.length hel
      have h4 := hP.len
      rw [bulks.bulkAll_cons, bulks.slice_eq] at hbk
      simp only [List.length_map] at h3
      unfold R02.total
      omega
  exact Slt.law_turns _ _ _ ls k1 hk1 W hE hP hsum

theorem over : Rows.slotTurnsUptoRow.holds Tryd.pinned (Rows.OpenSpec.upto Rows.slotTurnsSpec) :=
  OpenClaim.holds_of_cond 3 Tryd.f3 rfl rfl rfl rfl rfl rfl rfl ⟨rfl, rfl, rfl, rfl, rfl⟩ rfl rfl rfl rfl rfl (by kernel_rfl) Tryd.func3 (by kernel_rfl)
    (of_decide_eq_true (by kernel_rfl)) (by unfold Func.isWrapper; first | (rw [if_pos (by decide +kernel)]; kernel_rfl) | (rw [if_neg (by decide +kernel)]; exact ⟨rfl, rfl⟩))
    (fun os started H enc _ F => by rw [OpenClaim.pre_eq_preRow]; exact lifted os started H enc F)

theorem plain (f : FuncId) (fn : Func) (hf : Tryd.pinned.checked.prog.funcNamed "mirador/miradorlaw21.SlotTurns" = some f) (hfn : Tryd.pinned.checked.prog.funcs[f]? = some fn) :
    true = Tryd.pinned.checked.prog.looks [] ∧ ∀ (j : Nat) t, fn.params[j]? = some t → Tryd.pinned.checked.prog.wantsStandIn t = false := by
  obtain rfl : f = 3 := Option.some.inj ((show Tryd.prog.funcNamed "mirador/miradorlaw21.SlotTurns" = some 3 by kernel_rfl).symm.trans hf) |>.symm
  obtain rfl : fn = Tryd.f3 := (Option.some.inj (Tryd.func3.symm.trans hfn)).symm
  refine ⟨by kernel_rfl, fun j t ht => ?_⟩
  have hall : Tryd.f3.params.toList.all (fun t => !Tryd.prog.wantsStandIn t) = true := by kernel_rfl
  have hm : t ∈ Tryd.f3.params.toList := Array.mem_toList_iff.2 (Array.mem_of_getElem? ht)
  have := List.all_eq_true.1 hall t hm
  show Tryd.prog.wantsStandIn t = false
  simpa using this
theorem proved : Rows.SlotTurnsUptoCardSaid :=
  Claim7.holds_tied_plain_at .later [] _ _ _ _ over (fun _ h => by cases h) (by kernel_rfl) (fun _ h => by cases h) slotTurnsUpto_row_tie rfl ⟨rfl, rfl⟩ (by kernel_rfl) rfl plain (by kernel_rfl)
end Go.Proofs.YtgmahahhkaofbaaDoor.slotTurns
