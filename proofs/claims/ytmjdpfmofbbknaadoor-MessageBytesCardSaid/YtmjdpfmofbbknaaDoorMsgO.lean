/- MESSAGES that came in. Conditions: none. -/
import Derived.Test.YtmjdpfmofbbknaaDoorRows
import Derived.Test.YtmjdpfmofbbknaaDoorOpen
import Derived.Test.YtmjdpfmofbbknaaDoorMsg
namespace Go.Proofs.YtmjdpfmofbbknaaDoor.Msg
open Go.ChangeShapes Go.WideShapes Go.ChangeAt Go.RowKit Go.Mir

theorem split6 (cs : List Value) (h : cs.length = 21) : cs = (cs.drop 0).take 1 ++ ((cs.drop 1).take 1 ++ ((cs.drop 2).take 1 ++ ((cs.drop 3).take 1 ++ ((cs.drop 4).take 16 ++ (cs.drop 20).take 1)))) := by
  have cut : ∀ k n : Nat, (cs.drop k).take n ++ cs.drop (k + n) = cs.drop k := fun k n => by rw [← List.drop_drop, List.take_append_drop]
  have h20 : (cs.drop 20).take 1 = cs.drop 20 := List.take_of_length_le (by simp [h])
  rw [h20, cut 4 16, cut 3 1, cut 2 1, cut 1 1, cut 0 1, List.drop_zero]
theorem u32_nat {a : Int} (h : (Lit.int .u32 a).wf = true) : ∃ x : Nat, a = (x : Int) ∧ x < 4294967296 := by
  simp [Lit.wf, IntKind.min, IntKind.max, IntKind.signed, IntKind.bits] at h
  exact ⟨a.toNat, by omega, by omega⟩
set_option maxRecDepth 100000 in
theorem trod_msg {W : World} {H : Type} {enc : TypeId × Value → H} {base fuel : Nat} {held : Bool} {cs : List Value} {x : DataW H × List MemPlace}
    (h : DataW.trod enc Tryd.prog W base (fun _ => true) held fuel 28 cs = some x) : ∃ (m : MsgD) (p : Option Addr) (c : Nat), cs = msgL m p c ∧ MsgAt W m p c := by
  obtain ⟨xs, m, rfl, rfl, hl, hxl, hx⟩ := DataW.trod_struct Tryd.underlying28 h
  have hl' : cs.length = 21 := by rw [hl]; kernel_rfl
  have hxl' : xs.length = 6 := by rw [hxl]; rfl
  match xs, hxl' with
  | [x0, x1, x2, x3, x4, x5], _ =>
    have h0 := hx 0 _ rfl
    have h1 := hx 1 _ rfl
    have h2 := hx 2 _ rfl
    have h3 := hx 3 _ rfl
    have h4 := hx 4 _ rfl
    have h5 := hx 5 _ rfl
    obtain ⟨z0, e0, _, w0⟩ := DataW.trod_int Tryd.underlying22 h0
    obtain ⟨z1, e1, _, w1⟩ := DataW.trod_int Tryd.underlying23 h1
    obtain ⟨z2, e2, _, w2⟩ := DataW.trod_int Tryd.underlying23 h2
    obtain ⟨z3, e3, _, w3⟩ := DataW.trod_int Tryd.underlying23 h3
    obtain ⟨z4, e4, hz4, w4⟩ := trod_nums Tryd.underlying25 Tryd.underlying5 rfl rfl h4
    obtain ⟨p5, n5, c5, l5, e5, b5, dl5⟩ := trod_bs Tryd.underlying26 Tryd.underlying5 rfl h5
    obtain ⟨y4, rfl⟩ := u8_of_list z4 w4
    obtain ⟨s, rfl, hs⟩ := u32_nat w1
    obtain ⟨q, rfl, hq⟩ := u32_nat w2
    obtain ⟨o, rfl, ho⟩ := u32_nat w3
    obtain rfl := b5.length
    have hy : y4.length = 16 := by simpa using hz4
    refine ⟨⟨z0, s, q, o, y4, l5⟩, p5, c5, ?_, ⟨⟨i64_bd w0, hs, hq, ho, hy⟩, b5⟩⟩
    have hs := split6 cs hl'
    have e0' : (cs.drop 0).take 1 = [.int .i64 z0] := e0
    have e1' : (cs.drop 1).take 1 = [.int .u32 (s : Int)] := e1
    have e2' : (cs.drop 2).take 1 = [.int .u32 (q : Int)] := e2
    have e3' : (cs.drop 3).take 1 = [.int .u32 (o : Int)] := e3
    have e4' : (cs.drop 4).take 16 = bytesV y4 := by
      refine Eq.trans (show _ = _ from e4) ?_
      simp [bytesV, List.map_map]
    have e5' : (cs.drop 20).take 1 = [.slice p5 l5.length c5] := e5
    rw [e0', e1', e2', e3', e4', e5'] at hs
    rw [hs]
    rfl
set_option maxRecDepth 100000 in
theorem open_msg {W : World} {H : Type} {enc : TypeId × Value → H} {base : Nat} {v : Value} {d : DataW H} {ps : List MemPlace} (hval : Value.okWide Tryd.prog W .any base 28 v) (h : DataW.Trod enc Tryd.prog W 0 (fun _ => true) true 28 v d ps) :
    ∃ m p c, v = .agg (msgA m p c) ∧ MsgAt W m p c := by
  obtain ⟨cs, rfl, hcs⟩ := okWide_struct Tryd.underlying28 hval
  obtain ⟨fuel, hf⟩ := h
  have hf' : DataW.trod enc Tryd.prog W 0 (fun _ => true) true fuel 28 cs.toList = some (d, ps) := hf
  obtain ⟨m, p, c, ho, hm⟩ := trod_msg hf'
  refine ⟨m, p, c, ?_, hm⟩
  have : cs = (msgL m p c).toArray := by rw [← Array.toArray_toList (xs := cs), ho]
  rw [this]
  rfl
end Go.Proofs.YtmjdpfmofbbknaaDoor.Msg
