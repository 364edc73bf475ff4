/- PROVED: VaultKeeps: whatever crashes, and whenever, even while it is compacted, or opened: a vault opened again has what it had, but that the one record, or the one snapshot, in which the disk went down is there as a whole, or not at all. Conditions: none beyond the row's own. -/
import Derived.Test.YtnejjfglkindjaaGreatDoorVb1
import Derived.Test.YtnejjfglkindjaaGreatDoorVb2
import Derived.Test.YtnejjfglkindjaaGreatDoorVb3
import Derived.Test.YtnejjfglkindjaaGreatDoorVb4
import Derived.Test.YtnejjfglkindjaaGreatDoorVb5
import Derived.Test.YtnejjfglkindjaaGreatDoorVb6
import Derived.Test.YtnejjfglkindjaaGreatDoorVb7
import Derived.Test.YtnejjfglkindjaaGreatDoorVb8
import Derived.Test.YtnejjfglkindjaaGreatDoorVb9
import Derived.Test.YtnejjfglkindjaaGreatDoorVb10
import Derived.Test.YtnejjfglkindjaaGreatDoorVb11
import Derived.Test.YtnejjfglkindjaaGreatDoorVb12
import Derived.Test.YtnejjfglkindjaaGreatDoorVb13
import Derived.Test.YtnejjfglkindjaaGreatDoorVb14
import Derived.Test.YtnejjfglkindjaaGreatDoorRows
import Derived.Test.YtnejjfglkindjaaGreatDoorCards
import Derived.Test.YtnejjfglkindjaaGreatDoorTie
import Derived.SevenTiedAt
namespace Go.Proofs.YtnejjfglkindjaaGreatDoor.vaultKeeps
open Go.ChangeShapes Go.WideShapes Go.ChangeAt Go.RowKit Go.Mir


set_option maxRecDepth 100000 in
theorem lifted (os : Os) (started : os.Started) (H : Type) (enc : TypeId × Value → H) (F : Stop.Interp) :
    ReturnsInHanded {} Tryz.checked os 4 .any ((Rows.OpenSpec.upto Rows.vaultKeepsSpec).preRow enc Tryz.prog Tryz.f4 Rows.vaultKeepsUptoRow.domain false Rows.vaultKeepsUptoRow.laid) (((Rows.OpenSpec.upto Rows.vaultKeepsSpec).at F).post enc Tryz.prog Tryz.f4 false true false false) := by
  obtain ⟨places, hx⟩ : ∃ places, DataW.whole enc Tryz.prog ((Rdr.laidWorld os).forCall (fun _ _ => 0) ⟨#[], #[.slice none 0 0, .agg #[.int .u8 0, .int .u8 0], .agg #[.int .i64 0, .int .i64 0, .int .i64 0, .int .i64 0, .int .i64 0, .int .i64 0]], []⟩).memory Tryz.f4.params.toList (Rows.OpenSpec.upto Rows.vaultKeepsSpec).vars false (#[.slice none 0 0, .agg #[.int .u8 0, .int .u8 0], .agg #[.int .i64 0, .int .i64 0, .int .i64 0, .int .i64 0, .int .i64 0, .int .i64 0]] : Array Value).toList 8 = some ([.nil, .agg [.lit (.int .u8 0), .lit (.int .u8 0)], .agg [.lit (.int .i64 0), .lit (.int .i64 0), .lit (.int .i64 0), .lit (.int .i64 0), .lit (.int .i64 0), .lit (.int .i64 0)]], [], places) := ⟨[], by kernel_rfl⟩
  refine law_row_upto (C := Tryz.checked) (s := Rows.OpenSpec.upto Rows.vaultKeepsSpec) (k := Rows.uptoSmall) rfl Rdr.own started (by kernel_rfl) Tryz.func4
    (witness_row_at (enc := enc) (C := Tryz.checked) false (Rdr.laidWorld os) #[.slice none 0 0, .agg #[.int .u8 0, .int .u8 0], .agg #[.int .i64 0, .int .i64 0, .int .i64 0, .int .i64 0, .int .i64 0, .int .i64 0]] rfl (by kernel_rfl) (by kernel_rfl) (by kernel_rfl)
      (OpenSpec.preRow_of_cond 8 hx (by kernel_rfl) (fun k hk => by cases hk; kernel_rfl) (by kernel_rfl) (Rdr.laidWorld_met os _)))
    Rdr.laidOut (by kernel_rfl) (by kernel_rfl) Tryz.underlying4 rfl ?_
  intro W base args ds p hval0 hA hL hsmall
  have hE : Rdr.EType W := Rdr.etype_of_laid hL
  have hval : ∀ (j : Nat) t v, Tryz.f4.params[j]? = some t → args[j]? = some v → Value.okWide Tryz.prog W .any base t v := hval0
  clear hval0
  change DataW.TrodAll enc Tryz.prog W 0 (fun _ => true) true Tryz.f4.params.toList args.toList ds p at hA
  rw [Tryz.params4] at hA hval
  obtain ⟨v0, vs0, d0, ds0, p0, q0, hargs, rfl, rfl, h0, r0⟩ := trodAll_cons hA
  obtain ⟨v1, vs1, d1, ds1, p1, q1, rfl, rfl, rfl, h1, r1⟩ := trodAll_cons r0
  obtain ⟨v2, vs2, d2, ds2, p2, q2, rfl, rfl, rfl, h2, r2⟩ := trodAll_cons r1
  obtain ⟨rfl, rfl, rfl⟩ := trodAll_nil r2
  obtain rfl : args = #[v0, v1, v2] := by cases args; simp_all
  refine ⟨rfl, ?_⟩
  obtain ⟨p, c, os, rows, rfl, hO, hb⟩ := Vlt.open_vops (hval 0 _ v0 rfl rfl) h0
  obtain ⟨fs, rfl, hfl, hfw⟩ := open_nums Tryz.underlying43 Tryz.underlying5 (by kernel_rfl) (by kernel_rfl) (hval 1 _ v1 rfl rfl) h1
  obtain ⟨zs, rfl, hzl, hzw⟩ := open_nums Tryz.underlying44 Tryz.underlying3 (by kernel_rfl) (by kernel_rfl) (hval 2 _ v2 rfl rfl) h2
  have hbk := bulks.bound hsmall
  rw [bulks.bulkAll_cons] at hbk
  obtain ⟨x, y, rfl⟩ : ∃ x y, fs = [x, y] := by
    match fs, hfl with
    | [x, y], _ => exact ⟨x, y, rfl⟩
  obtain ⟨z0, z1, z2, z3, z4, z5, rfl⟩ : ∃ a b c d e f, zs = [a, b, c, d, e, f] := by
    match zs, hzl with
    | [a, b, c, d, e, f], _ => exact ⟨a, b, c, d, e, f, rfl⟩
  have hx := hfw x (by simp)
  have hy := hfw y (by simp)
  obtain ⟨k1, rfl, hk1⟩ : ∃ k1 : Nat, x = (k1 : Int) ∧ k1 < 256 := by
    simp [Lit.wf, IntKind.min, IntKind.max, IntKind.signed, IntKind.bits] at hx
    exact ⟨x.toNat, by omega, by omega⟩
  obtain ⟨k2, rfl, hk2⟩ : ∃ k2 : Nat, y = (k2 : Int) ∧ k2 < 256 := by
    simp [Lit.wf, IntKind.min, IntKind.max, IntKind.signed, IntKind.bits] at hy
    exact ⟨y.toNat, by omega, by omega⟩
  exact Vlt.law_keeps p c os rows k1 k2 hk1 hk2 z0 z1 z2 z3 z4 z5 (fun u hu => by
    have := hzw u hu
    simp [Lit.wf, IntKind.min, IntKind.max, IntKind.signed, IntKind.bits] at this
    omega) W hE hO (by omega)

theorem over : Rows.vaultKeepsUptoRow.holds Tryz.pinned (Rows.OpenSpec.upto Rows.vaultKeepsSpec) :=
  OpenClaim.holds_of_cond 4 Tryz.f4 rfl rfl rfl rfl rfl rfl rfl ⟨rfl, rfl, rfl, rfl, rfl⟩ rfl rfl rfl rfl rfl (by kernel_rfl) Tryz.func4 (by kernel_rfl)
    (of_decide_eq_true (by kernel_rfl)) (by unfold Func.isWrapper; first | (rw [if_pos (by decide +kernel)]; kernel_rfl) | (rw [if_neg (by decide +kernel)]; exact ⟨rfl, rfl⟩))
    (fun os started H enc _ F => by rw [OpenClaim.pre_eq_preRow]; exact lifted os started H enc F)

theorem plain (f : FuncId) (fn : Func) (hf : Tryz.pinned.checked.prog.funcNamed "mirador/miradorlaw22.VaultKeeps" = some f) (hfn : Tryz.pinned.checked.prog.funcs[f]? = some fn) :
    true = Tryz.pinned.checked.prog.looks [] ∧ ∀ (j : Nat) t, fn.params[j]? = some t → Tryz.pinned.checked.prog.wantsStandIn t = false := by
  obtain rfl : f = 4 := Option.some.inj ((show Tryz.prog.funcNamed "mirador/miradorlaw22.VaultKeeps" = some 4 by kernel_rfl).symm.trans hf) |>.symm
  obtain rfl : fn = Tryz.f4 := (Option.some.inj (Tryz.func4.symm.trans hfn)).symm
  refine ⟨by kernel_rfl, fun j t ht => ?_⟩
  have hall : Tryz.f4.params.toList.all (fun t => !Tryz.prog.wantsStandIn t) = true := by kernel_rfl
  have hm : t ∈ Tryz.f4.params.toList := Array.mem_toList_iff.2 (Array.mem_of_getElem? ht)
  have := List.all_eq_true.1 hall t hm
  show Tryz.prog.wantsStandIn t = false
  simpa using this
theorem proved : Rows.VaultKeepsUptoCardSaid :=
  Claim7.holds_tied_plain_at .later [] _ _ _ _ over (fun _ h => by cases h) (by kernel_rfl) (fun _ h => by cases h) vaultKeepsUpto_row_tie rfl ⟨rfl, rfl⟩ (by kernel_rfl) rfl plain (by kernel_rfl)
end Go.Proofs.YtnejjfglkindjaaGreatDoor.vaultKeeps
