/- BLOCKS: the reference's Bytes, Encode. Conditions: none. -/
import Derived.Test.YtdaigkcbmdcbcaaDoorBlkE
namespace Go.Proofs.YtdaigkcbmdcbcaaDoor.Blk
open Go.RowKit Go.Mir Go.Mir.Parts Wr Cod

theorem info8b : (Tryd.prog.info? 5).map (fun i => (i.zero, i.size, i.bytes)) = some (some (.int .u8 0), 1, 1) := by kernel_rfl
theorem bs_of_range {x : World} {g o : Nat} {y : List UInt8} (hy : y.length = 32) (h : x.rangeAt g o (idA y).toList) : Bs x (some ⟨g, o, none⟩) 32 32 y :=
  ⟨by rw [bytesV_length, hy], Nat.le_refl _, by omega, fun h => (by cases h), fun a ha j u hu => by
    obtain rfl := Option.some.inj ha
    rw [add_none]
    refine h j u ?_
    rw [idA_toList]; exact hu⟩
theorem own_one (w : World) (base : Nat) (b : UInt8) (t : TypeId) (hb : base ≤ w.heap.size) : (w.alloc (.cells #[.int .u8 (b.toNat : Int)] t)).ownsRow base t 1 (.slice (some ⟨w.heap.size, 0, none⟩) 1 1) 1 (bytesV [b]) :=
  ⟨rfl, .inr ⟨w.heap.size, 1, _, rfl, hb, heap_alloc_last _ _, Nat.le_refl _, by simp [maxLen], rfl, rfl⟩⟩
def BytP (d : BlkD) (w : World) (e : Ending) (w' : World) : Prop := ∃ p c, e = .returned (.slice p (encL d).length c) ∧ w'.ownsRow w.heap.size 5 1 (.slice p (encL d).length c) (encL d).length (bytesV (encL d)) ∧ Below w.heap.size w w'
/-- what is put, so far -/
structure Put (w1 : World) (acc : List UInt8) (v : Value) (n : Nat) (x : World) : Prop where
  own : x.ownsRow w1.heap.size 5 1 v n (bytesV acc)
  low : Below w1.heap.size w1 x
theorem Put.len {w1 x : World} {acc : List UInt8} {v : Value} {n : Nat} (h : Put w1 acc v n x) : n = acc.length := by
  obtain ⟨p, c, rfl, hs⟩ := own_sl h.own
  exact (Bs.length (show Bs x p n c acc from hs)).symm
theorem Put.more {w1 x y : World} {acc b : List UInt8} {v v' : Value} {n n' : Nat} (h : Put w1 acc v n x) (ho : y.ownsRow w1.heap.size 5 1 v' n' (bytesV acc ++ bytesV b)) (hg : x.grownBy y v.ownBlock) : Put w1 (acc ++ b) v' n' y :=
  ⟨by rw [bytesV_append]; exact ho, h.low.grown hg h.low.size (fun k hk => (h.own.lt k hk).1)⟩
theorem Put.below {w1 x y : World} {acc : List UInt8} {v : Value} {n : Nat} (h : Put w1 acc v n x) (hb : Below x.heap.size x y) : Put w1 acc v n y :=
  ⟨own_touch h.own (Turns.of_below (S := fun _ => False) hb) (fun _ _ h => h), h.low.trans (hb.mono h.low.size)⟩
set_option maxRecDepth 100000 in
set_option maxHeartbeats 1600000 in
theorem rbytes_any (M : Array Value) (d : BlkD) (q : Option Addr) (n c : Nat) (w : World) (hM : BlkAt w M d q n c) (hn : n ≤ 32) :
    Calls Tryd.prog 34 #[.agg M] w (BytP d w) := by
  have HM := Lib.hid hM
  have hcap := hM.ids.sl.le
  have hmax := hM.ids.sl.max
  have HC : Hid (d.txs.length = n) := hM.ids.count
  have HH : Hid (d.hash.length = 32 ∧ d.par.length = 32) := ⟨hM.hlen, hM.plen⟩
  have HR0 : Hid ((w.alloc (.cells M 26)).heap[w.heap.size]? = some (.cells M 26 (0, 0))) := heap_alloc_last _ _
  have HB0 : Hid (Below w.heap.size w (w.alloc (.cells M 26))) := Below.allocs _ _
  have HS0 : Hid ((w.alloc (.cells M 26)).heap.size = w.heap.size + 1) := by show _ = _; simp
  have hsl : ∀ w' g o, (Instr.sliceAt 23 (.pointer (some ⟨g, o, none⟩)) none none none).run Tryd.prog w' = .ok (.slice (some ⟨g, o, none⟩) 32 32) w' := fun w' g o => by kernel_rfl
  clear hM
  go_enter Tryd.func34, Tryd.ntmps34
  go_upto_region 1 with fail
  generalize w.alloc (.cells M 26) = w1 at *
  have HRX : Hid (∀ x, Below w1.heap.size w1 x → x.heap[w.heap.size]? = some (.cells M 26 (0, 0))) := fun x hb => Below.keepOld hb HR0.out
  have HPU : Hid (Put w1 [] (.slice (some ⟨w1.heap.size, 0, none⟩) 0 0) 0 (w1.alloc (.cells #[] 5))) := ⟨⟨rfl, .inr ⟨w1.heap.size, 0, _, rfl, Nat.le_refl _, heap_alloc_last _ _, Nat.le_refl _, by simp [maxLen], rfl, rfl⟩⟩, Below.allocs _ _⟩
  have HSX := Lib.hid (bs_of_range HH.out.1 (HM.out.parts (HRX.out _ HPU.out.low)).1)
  skip
  have hlx := HSX.out.le
  have hmx := HSX.out.max
  go_wp2_with (at_builtin; refine wpList_append_nx rfl _ _ 29 rfl (base := w1.heap.size) Tryd.underlying29 info8b rfl (by omega) rfl HPU.out.own rfl HSX.out (bytesV_one _) ⟨by omega, by omega⟩ HPU.out.low.size ?_)
  intro p9 c9 x9 ho9 hg9 _ _
  have hp9 := HPU.out.more ho9 hg9
  clear HPU HSX hg9 hlx hmx ho9
  have HPU := Lib.hid hp9
  clear hp9
  have HSX := Lib.hid (bs_of_range HH.out.2 (HM.out.parts (HRX.out _ HPU.out.low)).2.1)
  skip
  have hlx := HSX.out.le
  have hmx := HSX.out.max
  go_wp2_with (at_builtin; refine wpList_append_nx rfl _ _ 29 rfl (base := w1.heap.size) Tryd.underlying29 info8b rfl (by omega) rfl HPU.out.own rfl HSX.out (bytesV_one _) ⟨by omega, by omega⟩ HPU.out.low.size ?_)
  intro p9 c9 x9 ho9 hg9 _ _
  have hp9 := HPU.out.more ho9 hg9
  clear HPU HSX hg9 hlx hmx ho9
  have HPU := Lib.hid hp9
  clear hp9
  go_upto_region 3 with fail
  have hc64 := (HM.out.parts (HRX.out _ HPU.out.low)).2.2
  have hnw : IntKind.u8.wrap (n : Int) = ((UInt8.ofNat n).toNat : Int) := by
    rw [UInt8.toNat_ofNat', IntKind.wrap_u8]
    omega
  obtain ⟨nb, hnb⟩ : ∃ nb, UInt8.ofNat n = nb := ⟨_, rfl⟩
  rw [hnb] at hnw
  have HNB : Hid (nb = UInt8.ofNat n) := hnb.symm
  clear hnb
  have hp3 := HPU.out.below (Below.allocs x9 (.cells #[.int .u8 (nb.toNat : Int)] 5))
  have HSX : Hid (Bs (x9.alloc (.cells #[.int .u8 (nb.toNat : Int)] 5)) (some ⟨x9.heap.size, 0, none⟩) 1 1 [nb]) := Bs.made _ _ _ _ _ _ rfl rfl (by omega)
  clear HPU
  have HPU := Lib.hid hp3
  clear hp3
  have hlx := HSX.out.le
  have hmx := HSX.out.max
  go_wp2_with (at_builtin; refine wpList_append_nx rfl _ _ 29 rfl (base := w1.heap.size) Tryd.underlying29 info8b rfl (by omega) rfl HPU.out.own rfl HSX.out (bytesV_one _) ⟨by omega, by omega⟩ HPU.out.low.size ?_)
  intro p9 c9 x9 ho9 hg9 _ _
  have hp9 := HPU.out.more ho9 hg9
  clear HPU HSX hg9 hlx hmx ho9
  have HPU := Lib.hid hp9
  clear hp9
  go_upto_region 4 with fail
  clear hc64 hnw
  have HAC : Hid ([] ++ d.hash ++ d.par ++ [nb] = d.hash ++ d.par ++ [nb]) := by show _ = _; simp
  rw [HAC.out] at HPU
  clear HAC
  have HFU : Hid ((d.hash ++ d.par ++ [nb]) ++ (d.txs.take n).flatten = encL d) := by
    show _ = _
    rw [List.take_of_length_le (by rw [HC.out]; omega), HNB.out, ← HC.out]; rfl
  have HAL : Hid ((d.hash ++ d.par ++ [nb]).length = 65) := by show _ = _; simp [HH.out.1, HH.out.2]
  generalize d.hash ++ d.par ++ [nb] = acc at *
  go_wp2_with fail
  go_loopw [3, 4] (fun v j wr => ∃ (k m : Nat) (p' : Option Addr) (c' : Nat), k ≤ n ∧ j = .int .i64 k ∧ v = .slice p' m c' ∧ m = 65 + 32 * k ∧ Put w1 (acc ++ (d.txs.take k).flatten) (.slice p' m c') m wr) (fun _ j _ => n - (intOf j).toNat)
  case atStart => exact ⟨0, _, _, _, by omega, rfl, rfl, rfl, by simpa using HPU.out⟩
  case round =>
    clear HPU
    obtain ⟨k, m, p', c', hk, rfl, rfl, hm, hpu⟩ := hrel
    have HPU := Lib.hid hpu
    have hc64 := (HM.out.parts (HRX.out _ hpu.low)).2.2
    clear hpu
    by_cases hlt : k < n
    · have hd : decide ((k : Int) < (n : Int)) = true := decide_eq_true (by omega)
      obtain ⟨b, o, hq⟩ := HM.out.ids.sl.addr (by omega) (by omega)
      have hlk : k < d.txs.length := by rw [HC.out]; exact hlt
      have HYL : Hid ((d.txs[k]'hlk).length = 32) := HM.out.ids.each _ (List.getElem_mem _)
      have hrg := (HM.out.ids.below (HB0.out.trans (HPU.out.low.mono (by have := HS0.out; omega))))
      have HTK : Hid ((d.txs.take (k + 1)).flatten = (d.txs.take k).flatten ++ d.txs[k]'hlk) := by
        show _ = _
        rw [take_snoc d.txs k hlk, List.flatten_append, List.flatten_cons, List.flatten_nil, List.append_nil]
      subst hq
      have HSX := Lib.hid (bs_of_range HYL.out (hrg.range (by omega) k hlk))
      clear hrg
      generalize d.txs[k]'hlk = y at *
      have HM2 : Hid (m = 65 + 32 * k) := hm
      clear hm
      go_wp2_with (at_builtin; refine wpList_append_nx rfl _ _ 29 rfl (base := w1.heap.size) Tryd.underlying29 info8b rfl (by omega) rfl HPU.out.own rfl HSX.out (bytesV_one _) ⟨by have := HM2.out; omega, by have := HM2.out; omega⟩ HPU.out.low.size ?_)
      intro p9 c9 x9 ho9 hg9 _ _
      have hp9 := HPU.out.more ho9 hg9
      clear HPU HSX hg9 ho9
      have HPU := Lib.hid hp9
      clear hp9
      go_wp2_with fail
      go_roundw
      case rel =>
        refine ⟨k + 1, m + 32, p9, c9, by omega, by go_num, rfl, by have := HM2.out; omega, ?_⟩
        rw [HTK.out, ← List.append_assoc]; exact HPU.out
      case measure => simp [intOf]; omega
    · have hd : decide ((k : Int) < (n : Int)) = false := decide_eq_false (by omega)
      obtain rfl : k = n := by omega
      rw [HFU.out] at HPU
      have HME : Hid (m = (encL d).length) := HPU.out.len
      clear hm
      go_wp2_with fail
      go_ret
      have h1 := HPU.out.own
      have h2 := HPU.out.low
      have hm := HME.out
      subst hm
      exact ⟨p', c', rfl, own_base h1 (fun i hi => by have := (h1.lt i hi).1; have := HS0.out; omega), HB0.out.trans (h2.mono (by have := HS0.out; omega))⟩
set_option maxRecDepth 100000 in
theorem rencode_any (M : Array Value) (d : BlkD) (q : Option Addr) (n c : Nat) (w : World) (hM : BlkAt w M d q n c) :
    Calls Tryd.prog 11 #[.agg M] w (EncP d w) := by
  have HM := Lib.hid hM
  have HMS := Lib.hid hM.size
  have H0 : Hid ((w.alloc (.cells M 26)).heap[w.heap.size]? = some (.cells M 26 (0, 0))) := heap_alloc_last _ _
  have HB0 := Lib.hid (Below.allocs w (.cells M 26))
  have HR := Lib.hid (rRight_any M d q n c _ (hM.below HB0.out))
  have HC : Hid (d.txs.length = n) := hM.ids.count
  clear hM
  by_cases hr : rightB d = true
  · have he : d.enc = (encL d, 0) := by unfold BlkD.enc; rw [if_pos hr]
    have HEE : Hid (∀ p c w', w'.ownsRow w.heap.size 5 1 (.slice p (encL d).length c) (encL d).length (bytesV (encL d)) → Below w.heap.size w w' → EncP d w (.returned (.tuple #[.slice p (encL d).length c, .int .i64 0])) w') := fun p c w' ho hb => by
      unfold EncP
      rw [he]
      obtain ⟨p', c', e9, hs⟩ := own_sl ho
      cases e9
      exact ⟨p, c, rfl, ho, hs, hb⟩
    have HN : Hid (n ≤ 32) := by have := right_le hr; have := HC.out; show _ ≤ _; omega
    rw [hr] at HR
    clear hr he
    go_enter Tryd.func11, Tryd.ntmps11
    go_wp2_with ((with_reducible refine wpAt 4 ?_); refine wpList_load_row rfl 26 _ rfl w.heap.size rfl 26 M (0, 0) _ H0.out Tryd.underlying26 rfl (infoBlk _ HMS.out) ?_)
    generalize w.alloc (.cells M 26) = w0 at *
    refine HR.out.mono ?_
    rintro e w1 ⟨rfl, hb1⟩
    have HR1 := Lib.hid (Below.keepOld hb1 H0.out)
    have HB1 := Lib.hid (HB0.out.trans (hb1.mono HB0.out.size))
    clear hb1
    go_wp2_with ((with_reducible refine wpAt 7 ?_); refine wpList_load_row rfl 26 _ rfl w.heap.size rfl 26 M (0, 0) _ HR1.out Tryd.underlying26 rfl (infoBlk _ HMS.out) ?_)
    refine (rbytes_any M d q n c _ (HM.out.below HB1.out) HN.out).mono ?_
    rintro e w2 ⟨p2, c2, rfl, ho2, hb2⟩
    have HO2 := Lib.hid (own_base (base' := w.heap.size) ho2 (fun k hk => by have := (ho2.lt k hk).1; have := HB1.out.size; omega))
    have HB2 := Lib.hid (HB1.out.trans (hb2.mono HB1.out.size))
    clear ho2 hb2
    go_wp2_with fail
    go_ret2
    exact HEE.out _ _ _ HO2.out HB2.out
  · have hf : rightB d = false := by cases h : rightB d; rfl; exact absurd h hr
    have he : d.enc = ([], 1) := by unfold BlkD.enc; rw [if_neg hr]
    have HEE : Hid (∀ w', Below w.heap.size w w' → EncP d w (.returned (.tuple #[.slice none 0 0, .int .i64 1])) w') := fun w' hb => by
      unfold EncP
      rw [he]
      exact ⟨none, 0, rfl, ⟨rfl, .inl ⟨rfl, rfl⟩⟩, Sl.nil _ _, hb⟩
    rw [hf] at HR
    clear hr he hf
    go_enter Tryd.func11, Tryd.ntmps11
    go_wp2_with ((with_reducible refine wpAt 4 ?_); refine wpList_load_row rfl 26 _ rfl w.heap.size rfl 26 M (0, 0) _ H0.out Tryd.underlying26 rfl (infoBlk _ HMS.out) ?_)
    generalize w.alloc (.cells M 26) = w0 at *
    refine HR.out.mono ?_
    rintro e w1 ⟨rfl, hb1⟩
    have HB1 := Lib.hid (HB0.out.trans (hb1.mono HB0.out.size))
    clear hb1
    go_wp2_with fail
    go_ret2
    exact HEE.out _ HB1.out
end Go.Proofs.YtdaigkcbmdcbcaaDoor.Blk
