/- PROVED: WriterRead: numbers, ids and bytes that were written are read as they were. Conditions: none beyond the row's own. -/
import Derived.Test.YtbfddfmglkhimaaDoorRows
import Derived.Test.YtbfddfmglkhimaaDoorCards
import Derived.Test.YtbfddfmglkhimaaDoorTie
import Derived.Test.YtbfddfmglkhimaaDoorLawRow
import Derived.Test.YtbfddfmglkhimaaDoorRdCard
import Derived.Test.YtbfddfmglkhimaaDoorW10ReadW
import Derived.SevenTiedAt
import Derived.Test.YtbfddfmglkhimaaDoorOpen
import Derived.Test.YtbfddfmglkhimaaDoorBulk
namespace Go.Proofs.YtbfddfmglkhimaaDoor.writerRead
open Go.ChangeShapes Go.WideShapes Go.ChangeAt Go.RowKit Go.Mir

def R10 {H : Type} (W : World) (o : W10.OpD) (cs : List Value) (d : DataW H) : Prop := W10.OpAt W cs o ∧ ∃ d0 d1 d2 d3 d4 d5, d = .agg [d0, d1, d2, d3, d4, d5] ∧ dlen d3 = o.b.length ∧ dlen d5 = o.ids.length
theorem bulk_le {H : Type} (W : World) : ∀ (L : List (List Value × W10.OpD)) (elems : List (DataW H)), elems.length = L.length → (∀ i (h1 : i < elems.length) (h2 : i < L.length), R10 W L[i].2 L[i].1 elems[i]) → L.length + W10.weights L ≤ 33 * Rows.uptoBulkAll elems
  | [], elems, _, _ => by simp [W10.weights]
  | x :: L, [], h, _ => by simp at h
  | x :: L, d :: elems, h, hR => by
    obtain ⟨_, d0, d1, d2, d3, d4, d5, hd, h3, h5⟩ := hR 0 (by simp) (by simp)
    have ih := bulk_le W L elems (by simpa using h) (fun i h1 h2 => hR (i + 1) (by simpa using h1) (by simpa using h2))
    have hd' : d = .agg [d0, d1, d2, d3, d4, d5] := hd
    have hw : W10.weights (x :: L) = x.2.weight + W10.weights L := rfl
    have hxw : x.2.weight = dlen d3 + 32 * dlen d5 := by rw [h3, h5]; rfl
    have b3 := bulks.dlen_le d3
    have b5 := bulks.dlen_le d5
    rw [bulks.bulkAll_cons, hd', bulks.agg_eq, hw, hxw, List.length_cons]
    simp only [bulks.bulkAll_cons, bulks.bulkAll_nil]
    omega

set_option maxRecDepth 100000 in
theorem lifted (os : Os) (started : os.Started) (H : Type) (enc : TypeId × Value → H) (F : Stop.Interp) :
    ReturnsInHanded {} Tryd.checked os 7 .any ((Rows.OpenSpec.upto Rows.writerReadSpec).preRow enc Tryd.prog Tryd.f7 Rows.writerReadUptoRow.domain false Rows.writerReadUptoRow.laid) (((Rows.OpenSpec.upto Rows.writerReadSpec).at F).post enc Tryd.prog Tryd.f7 false true false false) := by
  obtain ⟨places, hx⟩ : ∃ places, DataW.whole enc Tryd.prog ((Rdr.laidWorld os).forCall (fun _ _ => 0) ⟨#[], #[.slice none 0 0], []⟩).memory Tryd.f7.params.toList (Rows.OpenSpec.upto Rows.writerReadSpec).vars false (#[.slice none 0 0] : Array Value).toList 8 = some ([.nil], [], places) := ⟨[], by kernel_rfl⟩
  refine law_row_upto (C := Tryd.checked) (s := Rows.OpenSpec.upto Rows.writerReadSpec) (k := Rows.uptoSmall) rfl Rdr.own started (by kernel_rfl) Tryd.func7
    (witness_row_at (enc := enc) (C := Tryd.checked) false (Rdr.laidWorld os) #[.slice none 0 0] rfl (by kernel_rfl) (by kernel_rfl) (by kernel_rfl)
      (OpenSpec.preRow_of_cond 8 hx (by kernel_rfl) (fun k hk => by cases hk; kernel_rfl) (by kernel_rfl) (Rdr.laidWorld_met os _)))
    Rdr.laidOut (by kernel_rfl) (by kernel_rfl) Tryd.underlying4 rfl ?_
  intro W base args ds p hval0 hA hL hsmall
  have hE : Rdr.EType W := Rdr.etype_of_laid hL
  have hval : ∀ (j : Nat) t v, Tryd.f7.params[j]? = some t → args[j]? = some v → Value.okWide Tryd.prog W .any base t v := hval0
  clear hval0
  change DataW.TrodAll enc Tryd.prog W 0 (fun _ => true) true Tryd.f7.params.toList args.toList ds p at hA
  rw [Tryd.params7] at hA hval
  obtain ⟨v0, vs0, d0, ds0, p0, q0, hargs, rfl, rfl, h0, r0⟩ := trodAll_cons hA
  obtain ⟨rfl, rfl, rfl⟩ := trodAll_nil r0
  obtain rfl : args = #[v0] := by cases args; simp_all
  refine ⟨rfl, ?_⟩
  obtain ⟨a1, n1, c1, rfl⟩ := okWide_slice Tryd.underlying61 (hval 0 _ v0 rfl rfl)
  obtain ⟨fuel, hf⟩ := h0
  obtain ⟨q, m, e, L, hcs, hrs, _, hL9⟩ := trod_rows (size := 37) (R10 W) Tryd.underlying61 (by kernel_rfl) (by decide) (fun m cs' y hy => by
    obtain ⟨o, ho, x0, x1, x2, x3, x4, x5, hy1, hy2, hy3⟩ := W10.trod_op hy
    exact ⟨o, ho, x0, x1, x2, x3, x4, x5, hy1, hy2, hy3⟩) hf
  simp [Value.cells] at hcs
  obtain ⟨rfl, rfl, rfl⟩ := hcs
  have hO : W10.OpsAt W a1 n1 c1 L := ⟨hrs, fun x hx => by
    obtain ⟨i, hi, rfl⟩ := List.mem_iff_getElem.1 hx
    rcases hL9 with ⟨_, rfl⟩ | ⟨elems, spare, _, hel, hR⟩
    · simp at hi
    · exact (hR i (by omega) hi).1⟩
  have hbk := bulks.bound hsmall
  have hn : L.length = n1 := by simpa using hrs.count
  have hsum : n1 + W10.weights L ≤ 4611686018427387904 := by
    rcases hL9 with ⟨_, rfl⟩ | ⟨elems, spare, hd, hel, hR⟩
    · simp [W10.weights] at *; omega
    · have hd' : d0 = .slice elems spare := hd
      have h1 := bulk_le W L elems hel hR
      rw [bulks.bulkAll_cons, hd', bulks.slice_eq] at hbk
      omega
  exact W10R.law_read W hE a1 n1 c1 L hO hsum

theorem over : Rows.writerReadUptoRow.holds Tryd.pinned (Rows.OpenSpec.upto Rows.writerReadSpec) :=
  OpenClaim.holds_of_cond 7 Tryd.f7 rfl rfl rfl rfl rfl rfl rfl ⟨rfl, rfl, rfl, rfl, rfl⟩ rfl rfl rfl rfl rfl (by kernel_rfl) Tryd.func7 (by kernel_rfl)
    (of_decide_eq_true (by kernel_rfl)) (by unfold Func.isWrapper; first | (rw [if_pos (by decide +kernel)]; kernel_rfl) | (rw [if_neg (by decide +kernel)]; exact ⟨rfl, rfl⟩))
    (fun os started H enc _ F => by rw [OpenClaim.pre_eq_preRow]; exact lifted os started H enc F)

theorem plain (f : FuncId) (fn : Func) (hf : Tryd.pinned.checked.prog.funcNamed "mirador/miradorlaw10.WriterRead" = some f) (hfn : Tryd.pinned.checked.prog.funcs[f]? = some fn) :
    true = Tryd.pinned.checked.prog.looks [] ∧ ∀ (j : Nat) t, fn.params[j]? = some t → Tryd.pinned.checked.prog.wantsStandIn t = false := by
  obtain rfl : f = 7 := Option.some.inj ((show Tryd.prog.funcNamed "mirador/miradorlaw10.WriterRead" = some 7 by kernel_rfl).symm.trans hf) |>.symm
  obtain rfl : fn = Tryd.f7 := (Option.some.inj (Tryd.func7.symm.trans hfn)).symm
  refine ⟨by kernel_rfl, fun j t ht => ?_⟩
  have hall : Tryd.f7.params.toList.all (fun t => !Tryd.prog.wantsStandIn t) = true := by kernel_rfl
  have hm : t ∈ Tryd.f7.params.toList := Array.mem_toList_iff.2 (Array.mem_of_getElem? ht)
  have := List.all_eq_true.1 hall t hm
  show Tryd.prog.wantsStandIn t = false
  simpa using this
theorem proved : Rows.WriterReadUptoCardSaid :=
  Claim7.holds_tied_plain_at .later [] _ _ _ _ over (fun _ h => by cases h) (by kernel_rfl) (fun _ h => by cases h) writerReadUpto_row_tie rfl ⟨rfl, rfl⟩ (by kernel_rfl) rfl plain (by kernel_rfl)
end Go.Proofs.YtbfddfmglkhimaaDoor.writerRead
