/- PARTS, JOINED: THE WALKS OF BLOCKS, on: the document's example; a copy. Conditions: as in the first part. MAPS FROM AN ID, MADE BY THE CALL: what they hold, as a function; a look-up, a store. No program is named. Conditions: none. THE WALKS OF BLOCKS, on: may a block be (with the map that the call makes). Conditions: none. THE WALKS OF BLOCKS, on: a copy. Conditions: as in the first part. THE WALKS OF BLOCKS, on: the reference's ids with a hint. Conditions: as in the first part. THE WALKS OF BLOCKS, on: the reference's word whether a block may be. Conditions: none. THE WALKS OF A CHAIN: what it is in memory; none, at, Height. Conditions: none. THE WALKS OF A CHAIN, on: the tip. Conditions: none. THE WALKS OF A CHAIN, on: the tip of an empty one; a block found. Conditions: none. THE WALKS OF A CHAIN, on: may a block be connected. Conditions: none. -/
import Derived.Test.YtepemfgiigceoaaChP1
import Derived.Test.YtepemfgiigceoaaChP2
import Derived.WalkMore
import Derived.Maps.OwnSet
import Derived.DeepKeys5
import Derived.Test.YtepemfgiigceoaaRows
import Derived.Deep.Cut
namespace Go.Proofs.Ytepemfgiigceoaa.Blk
open Go.RowKit Go.Mir Go.Mir.Parts

set_option maxRecDepth 100000 in
theorem right_none (M : Array Value) (h p : List UInt8) (q : Option Addr) (c : Nat) (w : World) (hM : BlkAt w M ⟨h, p, []⟩ q 0 c) (hne : ¬ h = p) :
    Calls Try.prog 54 #[.agg M] w fun e w' => e = .returned (.bool true) ∧ Below w.heap.size w w' := by
  have HP := Lib.hid (hM.parts (heap_alloc_last w (.cells M 33)))
  have hq : ∀ w, (Op.equalIn 10000 30 (.agg (idA h)) (.agg (idA p))).run Try.prog w = .ok (h == p) w := fun w => eqI w _ _ hM.hlen hM.plen
  have HH : Hid (h.length = 32 ∧ p.length = 32) := ⟨hM.hlen, hM.plen⟩
  have hb : (h == p) = false := by rw [beq_eq_false_iff_ne]; exact hne
  have hmm := @run_makeMap Try.prog
  have HW : Hid (Below w.heap.size w ((w.alloc (.cells M 33)).alloc (.map #[] 0))) := (Below.allocs _ _).alloc (by simp) _
  have HK := Lib.hid (Below.keepOld (Below.allocs (w.alloc (.cells M 33)) (.map #[] 0)) (heap_alloc_last w (.cells M 33)))
  have hc := (hM.parts HK.out).2.2
  have HR := Lib.hid (hM.parts HK.out)
  clear hM hne
  go_enter Try.func54, Try.ntmps54
  go_wp2_with fail
  go_step3
  go_wp2_with (first
    | ((with_reducible refine wpAt 14 ?_); refine wpList_unguard rfl (wpList_load_mid rfl 30 _ rfl w.heap.size 0 rfl (idA h).toList _ HR.out.1 Try.underlying30 rfl (infoI _ (by rw [Array.length_toList, idA_size, HH.out.1])) ?_))
    | ((with_reducible refine wpAt 16 ?_); refine wpList_unguard rfl (wpList_load_mid rfl 30 _ rfl w.heap.size 32 rfl (idA p).toList _ HR.out.2.1 Try.underlying30 rfl (infoI _ (by rw [Array.length_toList, idA_size, HH.out.2])) ?_)))
  generalize (w.alloc (.cells M 33)).alloc (.map #[] 0) = w2 at *
  clear hq
  go_step3
  go_wp2_with fail
  go_loopw [4, 22] (fun f j wr => f = .bool true ∧ j = .int .i64 0 ∧ wr = w2) (fun _ _ _ => 0)
  case atStart => exact ⟨rfl, rfl, rfl⟩
  case round =>
    obtain ⟨rfl, rfl, rfl⟩ := hrel
    go_wp2_with fail
    rw [Exit.noGoto_ret]
    go_ret
    exact ⟨rfl, HW.out⟩

/-! ### a writer, call by call -/
structure WI (w0 wr : World) (wb : Nat) (v : Value) (room : Nat) (l : List UInt8) (bad : Int) : Prop where
  wat : Wr.WAt wr wb v room l bad
  below : Below w0.heap.size w0 wr
  own : ∀ k, Wr.foot wb v k → w0.heap.size ≤ k
theorem WI.next {w0 wr w' : World} {wb : Nat} {v : Value} {room : Nat} {l : List UInt8} {bad : Int} {r : List UInt8 × Int} (h : WI w0 wr wb v room l bad) (hl : Wr.Left wb v room r wr w') : ∃ v', WI w0 w' wb v' room r.1 r.2 := by
  obtain ⟨v', hw, ht, hn⟩ := hl
  refine ⟨v', hw, h.below.trans (ht.below h.below.size h.own), fun k hk => ?_⟩
  rcases hk with rfl | hk
  · exact h.own _ (.inl rfl)
  · by_cases hlt : k < wr.heap.size
    · exact h.own k (.inr (hn k hk hlt))
    · have := h.below.size; omega
theorem putS_fit {room : Nat} {l : List UInt8} {ps : List (List UInt8)} (h : l.length + ps.flatten.length ≤ room) : Wr.putS room l 0 true ps = (l ++ ps.flatten, 0) := by
  rw [total_flatten] at h
  unfold Wr.putS
  rw [if_pos rfl, if_pos rfl, if_pos (by omega)]
theorem be1 (n : Nat) (h : n < 256) : Wr.be n 1 = [UInt8.ofNat n] := by
  unfold Wr.be Wr.nb
  simp
def encL (d : BlkD) : List UInt8 := d.hash ++ d.par ++ [UInt8.ofNat d.txs.length] ++ d.txs.flatten
theorem flat_len (txs : List (List UInt8)) (h : ∀ x ∈ txs, x.length = 32) : txs.flatten.length = 32 * txs.length := by
  rw [total_flatten]; exact Wr.total_ids txs h

set_option maxRecDepth 100000 in
set_option maxHeartbeats 400000 in
theorem encode_ok (M : Array Value) (d : BlkD) (q : Option Addr) (n c : Nat) (w : World) (hM : BlkAt w M d q n c) (hn : n ≤ 32)
    (hR : ∀ w', BlkAt w' M d q n c → Calls Try.prog 54 #[.agg M] w' fun e w'' => e = .returned (.bool true) ∧ Below w'.heap.size w' w'') :
    Calls Try.prog 44 #[.agg M] w fun e w' => (∃ p m cc, e = .returned (.tuple #[.slice p m cc, .int .i64 0]) ∧ w'.ownsRow w.heap.size 5 1 (.slice p m cc) m (bytesV (encL d))) ∧ Below w.heap.size w w' := by
  have HM := Lib.hid hM
  have HR := Lib.hid hR
  have HMS := Lib.hid hM.size
  have HA : Hid (d.hash.length = 32 ∧ d.par.length = 32) := ⟨hM.hlen, hM.plen⟩
  have hcap := hM.ids.sl.le
  have hmax := hM.ids.sl.max
  obtain rfl : d.txs.length = n := hM.ids.count
  have HFL := Lib.hid (flat_len d.txs hM.ids.each)
  have H0 : Hid ((w.alloc (.cells M 33)).heap[w.heap.size]? = some (.cells M 33 (0, 0))) := heap_alloc_last _ _
  have HB0 := Lib.hid (Below.allocs w (.cells M 33))
  clear hM hR
  go_enter Try.func44, Try.ntmps44
  go_wp2_with ((with_reducible refine wpAt 5 ?_); refine wpList_load_row rfl 33 _ rfl w.heap.size rfl 33 M (0, 0) _ H0.out Try.underlying33 rfl (infoBlk _ HMS.out) ?_)
  generalize w.alloc (.cells M 33) = w0 at *
  refine (HR.out _ (HM.out.below HB0.out)).mono ?_
  rintro e w1 ⟨rfl, hb1⟩
  have HR1 := Lib.hid (Below.keepOld hb1 H0.out)
  have HB1 := Lib.hid (HB0.out.trans (hb1.mono HB0.out.size))
  clear hb1
  go_wp2_with fail
  refine (Wr.new_any 1089 _ (by omega)).mono ?_
  rintro e w2 ⟨rfl, hw2, hb2⟩
  have HI2 : Hid (WI w1 w2 w1.heap.size (.slice none 0 0) 1089 [] 0) := ⟨hw2, hb2, fun k hk => by
    rcases hk with rfl | hk
    · exact Nat.le_refl _
    · simp [Value.ownBlock] at hk⟩
  have HR2 := Lib.hid (HM.out.parts (Below.keepOld hb2 HR1.out))
  clear hw2 hb2
  go_wp2_with ((with_reducible refine wpAt 11 ?_); refine wpList_load_mid rfl 30 _ rfl w.heap.size 0 rfl (idA d.hash).toList _ HR2.out.1 Try.underlying30 rfl (infoI _ (by rw [Array.length_toList, idA_size, HA.out.1])) ?_)
  rw [Array.toArray_toList]
  refine (Wr.id_any (idA d.hash) d.hash (idA_toList _) HA.out.1 _ _ _ _ _ _ HI2.out.wat (by simp)).mono ?_
  rintro e w3 ⟨rfl, hl3⟩
  rw [putS_fit (by simp [HA.out.1])] at hl3
  obtain ⟨v3, hi3⟩ := HI2.out.next hl3
  have HI3 := Lib.hid hi3
  have HR3 := Lib.hid (HM.out.parts (Below.keepOld hi3.below HR1.out))
  clear hl3 hi3
  go_wp2_with ((with_reducible refine wpAt 15 ?_); refine wpList_load_mid rfl 30 _ rfl w.heap.size 32 rfl (idA d.par).toList _ HR3.out.2.1 Try.underlying30 rfl (infoI _ (by rw [Array.length_toList, idA_size, HA.out.2])) ?_)
  rw [Array.toArray_toList]
  refine (Wr.id_any (idA d.par) d.par (idA_toList _) HA.out.2 _ _ _ _ _ _ HI3.out.wat (by simp [HA.out.1])).mono ?_
  rintro e w4 ⟨rfl, hl4⟩
  rw [putS_fit (by simp [HA.out.1, HA.out.2])] at hl4
  obtain ⟨v4, hi4⟩ := HI3.out.next hl4
  have HI4 := Lib.hid hi4
  have HR4 := Lib.hid (HM.out.parts (Below.keepOld hi4.below HR1.out))
  have hc4 := HR4.out.2.2
  clear hl4 hi4
  go_wp2_with fail
  refine (Wr.num_any d.txs.length 1 _ _ _ _ _ _ HI4.out.wat (by omega) (by omega) (by omega) (by simp [HA.out.1, HA.out.2])).mono ?_
  rintro e w5 ⟨rfl, hl5⟩
  have hnum : Wr.numS 1089 ([] ++ [d.hash].flatten ++ [d.par].flatten) 0 d.txs.length 1 = ([] ++ [d.hash].flatten ++ [d.par].flatten ++ [[UInt8.ofNat d.txs.length]].flatten, 0) := by
    unfold Wr.numS
    rw [if_pos ⟨by omega, by omega, .inr (by simp; omega)⟩, show (1 : Int).toNat = 1 from rfl, be1 _ (by omega), putS_fit (by simp [HA.out.1, HA.out.2])]
  rw [hnum] at hl5
  obtain ⟨v5, hi5⟩ := HI4.out.next hl5
  have HI5 := Lib.hid hi5
  have hc5 := (HM.out.parts (Below.keepOld hi5.below HR1.out)).2.2
  clear hl5 hi5 hc4 hnum
  go_wp2_with fail
  refine (Wr.ids_any q d.txs.length c d.txs _ _ _ _ _ _ HI5.out.wat (fun w' ht => HM.out.ids.below (HB1.out.trans (((HI5.out.below.trans (ht.below HI5.out.below.size HI5.out.own)).mono HB1.out.size)))) (by omega) (by simp [HA.out.1, HA.out.2])).mono ?_
  rintro e w6 ⟨rfl, hl6⟩
  rw [putS_fit (by simp [HA.out.1, HA.out.2, HFL.out]; omega)] at hl6
  obtain ⟨v6, hi6⟩ := HI5.out.next hl6
  have HI6 := Lib.hid hi6
  have HE : Hid ([] ++ [d.hash].flatten ++ [d.par].flatten ++ [[UInt8.ofNat d.txs.length]].flatten ++ d.txs.flatten = encL d) := by show _ = _; simp [encL]
  clear hl6 hi6 hc5
  go_wp2_with fail
  refine (Wr.done_any _ _ _ _ _ _ HI6.out.wat (by simp [HA.out.1, HA.out.2, HFL.out]; omega)).mono ?_
  rintro e w7 ⟨⟨p7, n7, c7, rfl, ho7⟩, hb7⟩
  have HB7 := Lib.hid (HB1.out.trans ((HI6.out.below.trans (hb7.mono HI6.out.below.size)).mono HB1.out.size))
  have HO7 := Lib.hid ho7
  have HBX : Hid (w.heap.size ≤ w6.heap.size) := (HB1.out.trans (HI6.out.below.mono HB1.out.size)).size
  clear ho7 hb7
  go_wp2_with fail
  go_ret2
  refine ⟨⟨p7, n7, c7, rfl, ?_⟩, HB7.out⟩
  have h1 := HO7.out
  rw [if_pos trivial, HE.out] at h1
  exact own_base h1 (fun k hk => Nat.le_trans HBX.out (h1.lt k hk).1)

/-! ### the example -/
def id1 (b : UInt8) : List UInt8 := b :: List.replicate 31 0
theorem zc_blk (p : Option Addr) (n c : Nat) : Try.zeroCells33.setIfInBounds 64 (.slice p n c) = blkA zeros zeros p n c := by kernel_rfl
theorem lit5 : idA (id1 5) = #[.int .u8 5, .int .u8 0, .int .u8 0, .int .u8 0, .int .u8 0, .int .u8 0, .int .u8 0, .int .u8 0, .int .u8 0, .int .u8 0, .int .u8 0, .int .u8 0, .int .u8 0, .int .u8 0, .int .u8 0, .int .u8 0, .int .u8 0, .int .u8 0, .int .u8 0, .int .u8 0, .int .u8 0, .int .u8 0, .int .u8 0, .int .u8 0, .int .u8 0, .int .u8 0, .int .u8 0, .int .u8 0, .int .u8 0, .int .u8 0, .int .u8 0, .int .u8 0] := by kernel_rfl
theorem build1 : Try.prog.built 30 [(0, .int .u8 1)] = some (idA (id1 1)) := by kernel_rfl
theorem build5 : Try.prog.built 30 [(0, .int .u8 5)] = some (idA (id1 5)) := by kernel_rfl
theorem buildB1 : Try.prog.built 33 [(0, .agg (idA (id1 1)))] = some (blkA (id1 1) zeros none 0 0) := by kernel_rfl
theorem buildB5 (p : Option Addr) (n c : Nat) : Try.prog.built 33 [(2, .slice p n c)] = some (blkA zeros zeros p n c) := by kernel_rfl
set_option maxRecDepth 100000 in
set_option maxHeartbeats 400000 in
theorem alive_any (w : World) : Calls Try.prog 20 #[] w fun e w' => e = .returned (.bool true) ∧ Below w.heap.size w w' := by
  have b1 := fun w0 => run_build (P := Try.prog) w0 30 #[(0, .int .u8 1)] _ build1
  have b2 := fun w0 => run_build (P := Try.prog) w0 33 #[(0, .agg (idA (id1 1)))] _ buildB1
  have b3 := fun w0 => run_build (P := Try.prog) w0 30 #[(0, .int .u8 5)] _ build5
  have b4 := fun w0 p n c => run_build (P := Try.prog) w0 33 #[(2, .slice p n c)] _ (buildB5 p n c)
  go_enter Try.func20, Try.ntmps20
  go_wp2_with fail
  have HM : Hid (∀ w', BlkAt w' (blkA (id1 1) zeros none 0 0) ⟨id1 1, zeros, []⟩ none 0 0) := fun w' => ⟨rfl, rfl, rfl, Is.nil _ _⟩
  refine (encode_ok _ ⟨id1 1, zeros, []⟩ none 0 0 w (HM.out w) (by omega) (fun w' hw' => right_none _ _ _ _ _ w' hw' (by decide))).mono ?_
  rintro e w1 ⟨⟨p, m, cc, rfl, ho⟩, hb1⟩
  obtain ⟨p', c', hv, hs⟩ := own_sl ho
  cases hv
  have hl : (encL ⟨id1 1, zeros, []⟩).length = m := Bs.length hs
  have h65 : m = 65 := by rw [← hl]; rfl
  subst h65
  have hm := hs.le
  have hx := hs.max
  obtain ⟨b, o, rfl⟩ := hs.addr (by omega) (by omega)
  have hc := Bs.byte hs (j := 0) (by decide)
  rw [Nat.add_zero] at hc
  have hc1 : w1.cell? ⟨b, o, none⟩ = some (.int .u8 1) := hc
  have HB1 := Lib.hid hb1
  clear hb1 ho hs hl hc
  go_wp2_with fail
  rw [zc_blk, ← lit5]
  have HMX : Hid (BlkAt (w1.alloc (.cells (idA (id1 5)) 30)) (blkA zeros zeros (some ⟨w1.heap.size, 0, none⟩) 1 1) ⟨zeros, zeros, [id1 5]⟩ (some ⟨w1.heap.size, 0, none⟩) 1 1) :=
    ⟨rfl, rfl, rfl, ⟨by simpa using made_id w1 (id1 5) _ 30 (idA_toList _) rfl, fun x hx => by simp at hx; subst hx; rfl, rfl⟩⟩
  refine (has_any _ ⟨zeros, zeros, [id1 5]⟩ _ 1 1 (id1 5) _ HMX.out rfl (by omega)).mono ?_
  rintro e w2 ⟨rfl, hb2⟩
  have HB2 := Lib.hid ((HB1.out.alloc HB1.out.size _).trans (hb2.mono (by have := HB1.out.size; simp; omega)))
  clear hb2
  go_wp2_with fail
  go_ret
  exact ⟨rfl, HB2.out⟩
end Go.Proofs.Ytepemfgiigceoaa.Blk

namespace Go.Mir
open Go.RowKit Go.WideMaps Go.Maps Go.ChangeMaps

theorem idA_inj {x y : List UInt8} (h : idA x = idA y) : x = y := by
  have h1 : bytesV x = bytesV y := by rw [← idA_toList x, ← idA_toList y, h]
  refine List.map_inj_right (f := fun b : UInt8 => Value.int .u8 (b.toNat : Int)) ?_ |>.1 h1
  intro a b e
  have : (a.toNat : Int) = (b.toNat : Int) := by injection e
  exact UInt8.toNat_inj.1 (by omega)
/-- the key's laws -/
structure IdKeys (P : Program) (k : TypeId) : Prop where
  law : Keyed P k
  is : ∀ x : List UInt8, x.length = 32 → ∃ l, keyOf P k (.agg (idA x)) = some l
theorem mapM_some {α β : Type} (f : α → Option β) : ∀ (l : List α), (∀ x ∈ l, ∃ y, f x = some y) → ∃ ys, l.mapM f = some ys
  | [], _ => ⟨[], rfl⟩
  | x :: l, h => by
    obtain ⟨y, hy⟩ := h x (by simp)
    obtain ⟨ys, hys⟩ := mapM_some f l (fun z hz => h z (by simp [hz]))
    exact ⟨y :: ys, by simp [List.mapM_cons, hy, hys]⟩
theorem idKeys_of {P : Program} {k e : TypeId} (hk : P.underlying k = some (.array 32 e)) (he : P.underlying e = some (.int .u8)) (hc : P.cellsOf e = 1) (hck : P.cellsOf k = 32) (hkt : P.keyType k = true) (hp : 2 ≤ P.types.size + 1) (law : Keyed P k) : IdKeys P k := by
  refine ⟨law, fun x hx => ?_⟩
  unfold keyOf
  rw [hk]
  have hf : (Value.agg (idA x)).formed P k = true := by simp [Value.formed, hk, hck, idA_size, hx]
  simp only [hkt, hf, Bool.and_self, if_true]
  obtain ⟨d, hd⟩ : ∃ d, P.types.size + 1 = d + 1 + 1 := ⟨P.types.size - 1, by omega⟩
  have : ∃ ls, P.keyLits (P.types.size + 1) k (Value.agg (idA x)).cells.toList = some ls := by
    rw [hd]
    unfold Program.keyLits
    simp only [hk]
    rw [if_pos (by rw [hck, show (Value.agg (idA x)).cells = idA x from rfl, Array.length_toList, idA_size, hx])]
    obtain ⟨ys, hys⟩ := mapM_some (fun i => P.keyLits (d + 1) e (((Value.agg (idA x)).cells.toList.drop (i * P.cellsOf e)).take (P.cellsOf e))) (List.range 32) (fun i hi => by
      have hi' : i < x.length := by rw [hx]; exact List.mem_range.1 hi
      have h1 : ((Value.agg (idA x)).cells.toList.drop (i * P.cellsOf e)).take (P.cellsOf e) = [Value.int .u8 (x[i].toNat : Int)] := by
        rw [hc, Nat.mul_one, show (Value.agg (idA x)).cells = idA x from rfl, idA_toList, List.drop_eq_getElem_cons (by rw [bytesV_length]; exact hi'), List.take_succ_cons, List.take_zero]
        congr 1
        simp [bytesV]
      rw [h1]
      unfold Program.keyLits
      simp only [he]
      have hw : (Lit.int .u8 (x[i].toNat : Int)).wf = true := by
        have := UInt8.toNat_lt x[i]
        simp [Lit.wf, IntKind.min, IntKind.max, IntKind.signed, IntKind.bits]; omega
      exact ⟨[.int .u8 (x[i].toNat : Int)], by simp [hw]⟩)
    exact ⟨ys.flatten, by rw [hys]; rfl⟩
  obtain ⟨ls, hls⟩ := this
  exact ⟨_, by rw [hls]; rfl⟩
theorem modify_get {l : List MapEntry} {g : MapEntry → MapEntry} {j i : Nat} {e : MapEntry} (h : (l.modify j g)[i]? = some e) : ∃ e1, l[i]? = some e1 ∧ e = if j = i then g e1 else e1 := by
  rw [List.getElem?_modify] at h
  cases hl : l[i]? with
  | none => rw [hl] at h; simp at h
  | some e1 =>
    rw [hl] at h
    refine ⟨e1, rfl, ?_⟩
    have : (if j = i then g e1 else e1) = e := by simpa using h
    exact this.symm
/-- a map from ids, as a function -/
structure MapAt (w : World) (b : Nat) (f : List UInt8 → Option Value) (es : Array MapEntry) (clock : Nat) : Prop where
  heap : w.heap[b]? = some (.map es clock)
  reads : ∀ (i : Nat) e, es.toList[i]? = some e → ∃ x : List UInt8, x.length = 32 ∧ e.key = .agg (idA x) ∧ f x = some e.val
  has : ∀ (x : List UInt8) v, x.length = 32 → f x = some v → ∃ (i : Nat) (e : MapEntry), es.toList[i]? = some e ∧ e.key = .agg (idA x)
  one : ∀ (i j : Nat) (e e' : MapEntry), es.toList[i]? = some e → es.toList[j]? = some e' → e.key = e'.key → i = j
def MapIs (w : World) (b : Nat) (f : List UInt8 → Option Value) : Prop := ∃ es clock, MapAt w b f es clock
theorem MapIs.lt {w : World} {b : Nat} {f : List UInt8 → Option Value} (h : MapIs w b f) : b < w.heap.size := by
  obtain ⟨es, c, h⟩ := h
  exact (Array.getElem?_eq_some_iff.1 h.heap).1
theorem MapIs.keep {w w' : World} {b : Nat} {f : List UInt8 → Option Value} (h : MapIs w b f) (hk : w'.heap[b]? = w.heap[b]?) : MapIs w' b f := by
  obtain ⟨es, c, h⟩ := h
  exact ⟨es, c, by rw [hk]; exact h.heap, h.reads, h.has, h.one⟩
theorem MapIs.below {w w' : World} {b : Nat} {f : List UInt8 → Option Value} (h : MapIs w b f) (hb : Below w.heap.size w w') : MapIs w' b f := h.keep (hb.block b h.lt)
theorem MapIs.turned {S : Nat → Prop} {w w' : World} {b : Nat} {f : List UInt8 → Option Value} (h : MapIs w b f) (ht : Turns S w w') (hS : ¬ S b) : MapIs w' b f := h.keep (ht.block b h.lt hS)
theorem mapIs_made (w : World) : MapIs (w.alloc (.map #[] 0)) w.heap.size (fun _ => none) :=
  ⟨#[], 0, heap_alloc_last _ _, fun i e h => by simp at h, fun x v _ h => by simp at h, fun i j e e' h => by simp at h⟩
theorem MapIs.look {P : Program} {w : World} {b : Nat} {f : List UInt8 → Option Value} {t k e : TypeId} (h : MapIs w b f) (K : IdKeys P k) (ht : P.underlying t = some (.map k e)) {z : Value} (hz : (zeroValue e).run P w = .ok z w) (x : List UInt8) (hx : x.length = 32) :
    (Instr.lookup t (.map (some b)) (.agg (idA x)) false).run P w = .ok ((f x).getD z) w := by
  obtain ⟨es, c, h⟩ := h
  obtain ⟨l, hl⟩ := K.is x hx
  have hkeys : ∀ e ∈ es.toList, ∃ l, keyOf P k e.key = some l := fun e he => by
    obtain ⟨i, hi⟩ := List.mem_iff_getElem?.1 he
    obtain ⟨y, hy, e1, _⟩ := h.reads i e hi
    rw [e1]; exact K.is y hy
  rcases K.law.find w hl es.toList hkeys with ⟨h1, h2⟩ | ⟨j, e0, h1, h2, h3⟩
  · have : f x = none := by
      cases hf : f x with
      | none => rfl
      | some v =>
        obtain ⟨i, e, hi, he⟩ := h.has x v hx hf
        exact absurd he (h2 e (List.mem_of_getElem? hi))
    rw [this]
    simp [Instr.lookup, run_underlying ht, MapKept.run_getObj_map h.heap, K.law.check w _ hl, h1, hz, Result.andThen]
  · obtain ⟨y, hy, e1, e2⟩ := h.reads j e0 h2
    rw [e1] at h3
    have : y = x := idA_inj (by injection h3)
    subst this
    rw [e2]
    simp [Instr.lookup, run_underlying ht, MapKept.run_getObj_map h.heap, K.law.check w _ hl, h1, Result.andThen]
theorem MapIs.look_ok {P : Program} {w : World} {b : Nat} {f : List UInt8 → Option Value} {t k e : TypeId} (h : MapIs w b f) (K : IdKeys P k) (ht : P.underlying t = some (.map k e)) {z : Value} (hz : (zeroValue e).run P w = .ok z w) (x : List UInt8) (hx : x.length = 32) :
    (Instr.lookup t (.map (some b)) (.agg (idA x)) true).run P w = .ok (.tuple #[(f x).getD z, .bool (f x).isSome]) w := by
  obtain ⟨es, c, h⟩ := h
  obtain ⟨l, hl⟩ := K.is x hx
  have hkeys : ∀ e ∈ es.toList, ∃ l, keyOf P k e.key = some l := fun e he => by
    obtain ⟨i, hi⟩ := List.mem_iff_getElem?.1 he
    obtain ⟨y, hy, e1, _⟩ := h.reads i e hi
    rw [e1]; exact K.is y hy
  rcases K.law.find w hl es.toList hkeys with ⟨h1, h2⟩ | ⟨j, e0, h1, h2, h3⟩
  · have : f x = none := by
      cases hf : f x with
      | none => rfl
      | some v =>
        obtain ⟨i, e, hi, he⟩ := h.has x v hx hf
        exact absurd he (h2 e (List.mem_of_getElem? hi))
    rw [this]
    simp [Instr.lookup, run_underlying ht, MapKept.run_getObj_map h.heap, K.law.check w _ hl, h1, hz, Result.andThen]
  · obtain ⟨y, hy, e1, e2⟩ := h.reads j e0 h2
    rw [e1] at h3
    have : y = x := idA_inj (by injection h3)
    subst this
    rw [e2]
    simp [Instr.lookup, run_underlying ht, MapKept.run_getObj_map h.heap, K.law.check w _ hl, h1, Result.andThen]
theorem MapIs.store {P : Program} {w : World} {b : Nat} {f : List UInt8 → Option Value} {t k e : TypeId} (h : MapIs w b f) (K : IdKeys P k) (ht : P.underlying t = some (.map k e)) (x : List UInt8) (hx : x.length = 32) (v : Value) :
    ∃ w', (Instr.mapUpdate t (.map (some b)) (.agg (idA x)) v).run P w = .ok () w' ∧ MapIs w' b (fun y => if y = x then some v else f y) ∧ Turns (fun i => i = b) w w' := by
  obtain ⟨es, c, h⟩ := h
  obtain ⟨l, hl⟩ := K.is x hx
  have hkeys : ∀ e ∈ es.toList, ∃ l, keyOf P k e.key = some l := fun e he => by
    obtain ⟨i, hi⟩ := List.mem_iff_getElem?.1 he
    obtain ⟨y, hy, e1, _⟩ := h.reads i e hi
    rw [e1]; exact K.is y hy
  have hT : ∀ o, Turns (fun i => i = b) w (setBlock w b o) := fun o => ⟨rfl, rfl, rfl, by simp [setBlock], fun i _ hi => heap_setBlock_other h.heap _ hi⟩
  rcases K.law.find w hl es.toList hkeys with ⟨h1, h2⟩ | ⟨j, e0, h1, h2, h3⟩
  · refine ⟨setBlock w b (.map (es.push ⟨.agg (idA x), v, c⟩) (c + 1)), ?_, ⟨_, _, heap_setBlock_same h.heap _, ?_, ?_, ?_⟩, hT _⟩
    · simp [Instr.mapUpdate, run_underlying ht, MapKept.run_getObj_map h.heap, K.law.check w false hl, h1, MapKept.run_setObj_map _ h.heap, Result.andThen, setBlock]
    · intro i e hi
      rw [Array.toList_push, List.getElem?_append] at hi
      split at hi
      · obtain ⟨y, hy, e1, e2⟩ := h.reads i e hi
        refine ⟨y, hy, e1, ?_⟩
        rw [if_neg (fun q => h2 e (List.mem_of_getElem? hi) (by rw [e1, q]))]; exact e2
      · obtain ⟨rfl, _⟩ : e = ⟨.agg (idA x), v, c⟩ ∧ True := by
          have := List.mem_of_getElem? hi
          simp at this
          exact ⟨this, trivial⟩
        exact ⟨x, hx, rfl, by rw [if_pos rfl]⟩
    · intro y u hy hu
      by_cases hyx : y = x
      · refine ⟨es.toList.length, ⟨.agg (idA x), v, c⟩, ?_, by rw [hyx]⟩
        rw [Array.toList_push, List.getElem?_append_right (Nat.le_refl _), Nat.sub_self]; rfl
      · rw [if_neg hyx] at hu
        obtain ⟨i, e, hi, he⟩ := h.has y u hy hu
        refine ⟨i, e, ?_, he⟩
        rw [Array.toList_push, List.getElem?_append_left (List.getElem?_eq_some_iff.1 hi).1]; exact hi
    · intro i j e e' hi hj hk
      rw [Array.toList_push] at hi hj
      have key : ∀ (i : Nat) (e : MapEntry), (es.toList ++ [⟨.agg (idA x), v, c⟩])[i]? = some e → (es.toList[i]? = some e ∧ e.key ≠ .agg (idA x)) ∨ (i = es.toList.length ∧ e.key = .agg (idA x)) := fun i e hi => by
        rw [List.getElem?_append] at hi
        split at hi
        · exact .inl ⟨hi, h2 e (List.mem_of_getElem? hi)⟩
        · rename_i hge
          have hlt := (List.getElem?_eq_some_iff.1 hi).1
          simp at hlt hge
          refine .inr ⟨by rw [Array.length_toList]; omega, ?_⟩
          have := List.mem_of_getElem? hi
          simp at this
          rw [this]
      rcases key i e hi with ⟨a1, a2⟩ | ⟨a1, a2⟩ <;> rcases key j e' hj with ⟨b1, b2⟩ | ⟨b1, b2⟩
      · exact h.one i j e e' a1 b1 hk
      · exact absurd (hk.trans b2) a2
      · exact absurd (hk.symm.trans a2) b2
      · rw [a1, b1]
  · have hj : es[j]? = some e0 := by simpa using h2
    have hj2 : es.toList[j]? = some e0 := h2
    refine ⟨setBlock w b (.map (es.modify j (fun e' => { e' with key := .agg (idA x), val := v })) c), ?_, ⟨_, _, heap_setBlock_same h.heap _, ?_, ?_, ?_⟩, hT _⟩
    · simp [Instr.mapUpdate, run_underlying ht, MapKept.run_getObj_map h.heap, K.law.check w false hl, h1, hj, h3, K.law.stays w hl, MapKept.run_setObj_map _ h.heap, Result.andThen, setBlock]
    · intro i e hi
      rw [Array.toList_modify] at hi
      obtain ⟨e1, hei, rfl⟩ := modify_get hi
      by_cases hij : j = i
      · rw [if_pos hij]
        exact ⟨x, hx, rfl, by rw [if_pos rfl]⟩
      · rw [if_neg hij]
        obtain ⟨y, hy, q1, q2⟩ := h.reads i e1 hei
        refine ⟨y, hy, q1, ?_⟩
        rw [if_neg (fun q => hij (h.one j i e0 e1 hj2 hei (by rw [h3, q1, q])))]; exact q2
    · intro y u hy hu
      by_cases hyx : y = x
      · refine ⟨j, { e0 with key := .agg (idA x), val := v }, ?_, by rw [hyx]⟩
        rw [Array.toList_modify, List.getElem?_modify, hj2]; simp
      · rw [if_neg hyx] at hu
        obtain ⟨i, e, hi, he⟩ := h.has y u hy hu
        have hij : ¬ j = i := fun q => by
          subst q
          rw [hj2] at hi
          cases hi
          rw [h3] at he
          exact hyx (idA_inj (by injection he)).symm
        refine ⟨i, e, ?_, he⟩
        rw [Array.toList_modify, List.getElem?_modify, hi]; simp [hij]
    · intro i i' e e' hi hi' hk
      rw [Array.toList_modify] at hi hi'
      have key : ∀ (i : Nat) (e1 e : MapEntry), es.toList[i]? = some e1 → (e = if j = i then { e1 with key := .agg (idA x), val := v } else e1) → e1.key = e.key := fun i e1 e hi he => by
        by_cases hij : j = i
        · rw [if_pos hij] at he
          subst hij
          rw [hj2] at hi
          cases hi
          rw [he]; exact h3
        · rw [if_neg hij] at he
          rw [he]
      obtain ⟨a, ha, ha'⟩ := modify_get hi
      obtain ⟨a2, ha2, ha2'⟩ := modify_get hi'
      exact h.one i i' a a2 ha ha2 (by rw [key i a e ha ha', key i' a2 e' ha2 ha2', hk])
end Go.Mir

namespace Go.Proofs.Ytepemfgiigceoaa.Blk
open Go.RowKit Go.Mir Go.Mir.Parts

theorem laidOutP : laidOutB Try.prog = true := by kernel_rfl
theorem idKeys : IdKeys Try.prog 30 :=
  idKeys_of Try.underlying30 Try.underlying5 (by kernel_rfl) (by kernel_rfl) (by kernel_rfl) (of_decide_eq_true (by kernel_rfl))
    (Maps.Keyed.of_law (deep_law_gate laidOutP (of_decide_eq_true (by kernel_rfl)) (of_decide_eq_true (by kernel_rfl)) (by kernel_rfl) (by kernel_rfl)))
theorem und_met : Try.prog.underlying 93 = some (.map 30 4) := Try.underlying93
theorem zbool (w : World) : (zeroValue 4).run Try.prog w = .ok (.bool false) w := by kernel_rfl
/-- may a block be? -/
def rightB (d : BlkD) : Bool := decide (d.txs.length ≤ 32) && !(d.hash == d.par) && decide d.txs.Nodup
/-- the ids met so far -/
def metF (l : List (List UInt8)) (y : List UInt8) : Option Value := if y ∈ l then some (.bool true) else none
theorem metF_look (l : List (List UInt8)) (y : List UInt8) : (metF l y).getD (.bool false) = .bool (decide (y ∈ l)) := by
  unfold metF; by_cases h : y ∈ l <;> simp [h]
theorem metF_snoc (l : List (List UInt8)) (y : List UInt8) : (fun z => if z = y then some (Value.bool true) else metF l z) = metF (l ++ [y]) := by
  funext z
  unfold metF
  by_cases h : z = y <;> simp [h]

set_option maxRecDepth 100000 in
set_option maxHeartbeats 400000 in
theorem right_any (M : Array Value) (d : BlkD) (q : Option Addr) (n c : Nat) (w : World) (hM : BlkAt w M d q n c) :
    Calls Try.prog 54 #[.agg M] w fun e w' => e = .returned (.bool (rightB d)) ∧ Below w.heap.size w w' := by
  have HM := Lib.hid hM
  have hcap := hM.ids.sl.le
  have hmax := hM.ids.sl.max
  have HC : Hid (d.txs.length = n) := hM.ids.count
  have hq : ∀ w, (Op.equalIn 10000 30 (.agg (idA d.hash)) (.agg (idA d.par))).run Try.prog w = .ok (d.hash == d.par) w := fun w => eqI w _ _ hM.hlen hM.plen
  have HH : Hid (d.hash.length = 32 ∧ d.par.length = 32) := ⟨hM.hlen, hM.plen⟩
  have hmm := @run_makeMap Try.prog
  have HW : Hid (Below w.heap.size w ((w.alloc (.cells M 33)).alloc (.map #[] 0))) := (Below.allocs _ _).alloc (by simp) _
  have HK := Lib.hid (Below.keepOld (Below.allocs (w.alloc (.cells M 33)) (.map #[] 0)) (heap_alloc_last w (.cells M 33)))
  have HMP : Hid (MapIs ((w.alloc (.cells M 33)).alloc (.map #[] 0)) (w.heap.size + 1) (metF [])) := by
    have h := mapIs_made (w.alloc (.cells M 33))
    have hs : (w.alloc (.cells M 33)).heap.size = w.heap.size + 1 := by simp
    rw [hs] at h
    exact h
  have hc := (hM.parts HK.out).2.2
  have HR := Lib.hid (hM.parts HK.out)
  obtain ⟨f0, hf0⟩ : ∃ f : Bool, f = (decide (n ≤ 32) && !(d.hash == d.par)) := ⟨_, rfl⟩
  have HF0 : Hid (f0 = (decide (n ≤ 32) && !(d.hash == d.par))) := hf0
  clear hM hf0
  go_enter Try.func54, Try.ntmps54
  go_wp2_with fail
  go_step3
  go_upto_region 2 with fail
  generalize (w.alloc (.cells M 33)).alloc (.map #[] 0) = w2 at *
  try simp only [Act.put, List.setIfInBounds_toArray, List.set_cons_zero, List.set_cons_succ]
  go_cut [4] from 7 (fun s4 wx => s4 = .bool f0 ∧ wx = w2)
  case first =>
    by_cases h32 : n ≤ 32
    · have hd0 : decide ((n : Int) ≤ 32) = true := decide_eq_true (by omega)
      go_wp2_with (first
        | ((with_reducible refine wpAt 14 ?_); refine wpList_unguard rfl (wpList_load_mid rfl 30 _ rfl w.heap.size 0 rfl (idA d.hash).toList _ HR.out.1 Try.underlying30 rfl (infoI _ (by rw [Array.length_toList, idA_size, HH.out.1])) ?_))
        | ((with_reducible refine wpAt 16 ?_); refine wpList_unguard rfl (wpList_load_mid rfl 30 _ rfl w.heap.size 32 rfl (idA d.par).toList _ HR.out.2.1 Try.underlying30 rfl (infoI _ (by rw [Array.length_toList, idA_size, HH.out.2])) ?_)))
      go_meet
      exact ⟨by rw [HF0.out, decide_eq_true h32]; simp, rfl⟩
    · have hd0 : decide ((n : Int) ≤ 32) = false := decide_eq_false (by omega)
      go_wp2_with fail
      go_meet
      exact ⟨by rw [HF0.out, decide_eq_false h32]; simp, rfl⟩
  obtain ⟨rfl, hw2⟩ := hcut
  subst hw2
  clear hq
  go_wp2_with fail
  go_step3
  go_wp2_with fail
  have HRT : Hid (f0 = true → rightB d = decide d.txs.Nodup) := fun h => by
    unfold rightB; rw [HC.out, ← HF0.out, h]; rfl
  have HRF : Hid (f0 = false → rightB d = false) := fun h => by
    unfold rightB; rw [HC.out, ← HF0.out, h]; rfl
  generalize hwc : wc = w2 at *
  clear hwc wc hc HR HF0
  go_loopw [4, 22] (fun f j wr => ∃ k : Nat, k ≤ n ∧ j = .int .i64 k ∧ f = .bool f0 ∧ (0 < k → f0 = true) ∧ (d.txs.take k).Nodup ∧ MapIs wr (w.heap.size + 1) (metF (d.txs.take k)) ∧ Below w.heap.size w wr) (fun _ j _ => n - (intOf j).toNat)
  case atStart => exact ⟨0, by omega, rfl, rfl, by omega, by simp, by simpa using HMP.out, HW.out⟩
  case round =>
    obtain ⟨k, hk, rfl, rfl, hpos, hnd, hmp, hbw⟩ := hrel
    have HPOS := Lib.hid hpos
    have HND := Lib.hid hnd
    have HMW := Lib.hid hmp
    have HBW := Lib.hid hbw
    clear hpos hnd hmp hbw
    by_cases hlt : k < n
    · obtain ⟨b, o, rfl⟩ := HM.out.ids.sl.addr (by omega) (by omega)
      have hlk : k < d.txs.length := by rw [HC.out]; exact hlt
      have HRG := Lib.hid ((HM.out.ids.below HBW.out).range (by omega) k hlk)
      have HLK : Hid ((d.txs[k]'hlk).length = 32) := HM.out.ids.each _ (List.getElem_mem _)
      have HTK := Lib.hid (take_snoc d.txs k hlk)
      have HNN : Hid (d.txs[k]'hlk ∈ d.txs.take k → ¬ d.txs.Nodup) := fun h hn => by
        have h2 := List.take_append_drop k d.txs
        rw [← h2, List.nodup_append] at hn
        refine hn.2.2 _ h _ ?_ rfl
        rw [List.drop_eq_getElem_cons hlk]; exact List.mem_cons_self
      generalize d.txs[k]'hlk = y at *
      have HYS : Hid ((idA y).size = 32) := by show _ = _; rw [idA_size, HLK.out]
      have HYL : Hid ((idA y).toList.length = 32) := by show _ = _; rw [Array.length_toList, HYS.out]
      have HNW := Lib.hid (box_new wr (idA zeros) 30)
      have HBR := Lib.hid (box_row wr (idA zeros) (idA y) 30)
      have HBB := Lib.hid (box_below wr (idA zeros) (idA y) 30)
      have HB3 := Lib.hid (HBW.out.trans (HBB.out.mono HBW.out.size))
      have HM3 := Lib.hid (HMW.out.below HBB.out)
      have hd : decide ((k : Int) < (n : Int)) = true := decide_eq_true (by omega)
      have hz := zeroI
      have hlook := HM3.out.look idKeys und_met (zbool _) y HLK.out
      rw [metF_look] at hlook
      by_cases hin : y ∈ d.txs.take k
      · have hb : decide (y ∈ d.txs.take k) = true := decide_eq_true hin
        have HRES : Hid (rightB d = false) := by
          cases hf : f0 with
          | false => exact HRF.out hf
          | true => show _ = _; rw [HRT.out hf]; exact decide_eq_false (HNN.out hin)
        rw [hb] at hlook
        clear hin hb
        go_wp2_with (first
          | ((with_reducible refine wpAt 25 ?_); refine wpList_load_mid rfl 30 _ rfl b (o + k * 32) rfl (idA y).toList _ HRG.out Try.underlying30 rfl (infoI _ HYL.out) ?_)
          | ((with_reducible refine wpStoreAt 6 ?_); refine wpList_store_row rfl 30 _ _ rfl wr.heap.size (idA y) rfl rfl 30 (idA zeros) HNW.out (infoI _ HYS.out) (zeros_size.trans HYS.out.symm) (idA_one y) ?_)
          | ((with_reducible refine wpAt 27 ?_); refine wpList_load_row rfl 30 _ rfl wr.heap.size rfl 30 (idA y) (0, 0) _ HBR.out Try.underlying30 rfl (infoI _ HYS.out) ?_))
        rw [Exit.noGoto_ret]
        go_ret
        exact ⟨bret HRES.out.symm, HB3.out⟩
      · have hb : decide (y ∈ d.txs.take k) = false := decide_eq_false hin
        rw [hb] at hlook
        cases hf : f0 with
        | false =>
          have HRES := Lib.hid (HRF.out hf)
          clear hin hb
          go_wp2_with (first
            | ((with_reducible refine wpAt 25 ?_); refine wpList_load_mid rfl 30 _ rfl b (o + k * 32) rfl (idA y).toList _ HRG.out Try.underlying30 rfl (infoI _ HYL.out) ?_)
            | ((with_reducible refine wpStoreAt 6 ?_); refine wpList_store_row rfl 30 _ _ rfl wr.heap.size (idA y) rfl rfl 30 (idA zeros) HNW.out (infoI _ HYS.out) (zeros_size.trans HYS.out.symm) (idA_one y) ?_)
            | ((with_reducible refine wpAt 27 ?_); refine wpList_load_row rfl 30 _ rfl wr.heap.size rfl 30 (idA y) (0, 0) _ HBR.out Try.underlying30 rfl (infoI _ HYS.out) ?_)
            | ((with_reducible refine wpAt 34 ?_); refine wpList_load_row rfl 30 _ rfl wr.heap.size rfl 30 (idA y) (0, 0) _ HBR.out Try.underlying30 rfl (infoI _ HYS.out) ?_))
          rw [Exit.noGoto_ret]
          go_ret
          exact ⟨bret HRES.out.symm, HB3.out⟩
        | true =>
          obtain ⟨w6, hst, hm6, ht6⟩ := HM3.out.store idKeys und_met y HLK.out (.bool true)
          rw [metF_snoc, ← HTK.out] at hm6
          have HM6 := Lib.hid hm6
          have HB6 := Lib.hid (HB3.out.trans (ht6.below HB3.out.size (fun i hi => by rw [hi]; exact Nat.le_succ _)))
          have HND6 : Hid (d.txs.take (k + 1)).Nodup := by
            show List.Nodup _
            rw [HTK.out, List.nodup_append]
            refine ⟨HND.out, by simp, fun a ha b hb e => hin ?_⟩
            rw [List.mem_singleton] at hb
            rw [← hb, ← e]; exact ha
          clear hin hb hm6 ht6
          go_wp2_with (first
            | ((with_reducible refine wpAt 25 ?_); refine wpList_load_mid rfl 30 _ rfl b (o + k * 32) rfl (idA y).toList _ HRG.out Try.underlying30 rfl (infoI _ HYL.out) ?_)
            | ((with_reducible refine wpStoreAt 6 ?_); refine wpList_store_row rfl 30 _ _ rfl wr.heap.size (idA y) rfl rfl 30 (idA zeros) HNW.out (infoI _ HYS.out) (zeros_size.trans HYS.out.symm) (idA_one y) ?_)
            | ((with_reducible refine wpAt 27 ?_); refine wpList_load_row rfl 30 _ rfl wr.heap.size rfl 30 (idA y) (0, 0) _ HBR.out Try.underlying30 rfl (infoI _ HYS.out) ?_)
            | ((with_reducible refine wpAt 34 ?_); refine wpList_load_row rfl 30 _ rfl wr.heap.size rfl 30 (idA y) (0, 0) _ HBR.out Try.underlying30 rfl (infoI _ HYS.out) ?_))
          go_roundw
          case rel => exact ⟨k + 1, by omega, by go_num, rfl, fun _ => (by first | trivial | exact hf), HND6.out, HM6.out, HB6.out⟩
          case measure => simp [intOf]; omega
    · have hd : decide ((k : Int) < (n : Int)) = false := decide_eq_false (by omega)
      have HRES : Hid (rightB d = f0) := by
        cases hf : f0 with
        | false => exact HRF.out hf
        | true =>
          show _ = _
          rw [HRT.out hf]
          have h1 := HND.out
          rw [List.take_of_length_le (by rw [HC.out]; omega)] at h1
          exact decide_eq_true h1
      go_wp2_with fail
      rw [Exit.noGoto_ret]
      go_ret
      exact ⟨bret HRES.out.symm, HBW.out⟩
end Go.Proofs.Ytepemfgiigceoaa.Blk

namespace Go.Proofs.Ytepemfgiigceoaa.Blk
open Go.RowKit Go.Mir Go.Mir.Parts

theorem blkA_set (h p : List UInt8) (hh : h.length = 32) (hp : p.length = 32) (q q' : Option Addr) (n n' c c' : Nat) : (blkA h p q n c).setIfInBounds 64 (.slice q' n' c') = blkA h p q' n' c' := by
  apply Array.toList_inj.1
  rw [Array.toList_setIfInBounds, blkA_toList, blkA_toList, List.set_append_right _ _ (by simp [bytesV_length, hh, hp])]
  simp [bytesV_length, hh, hp]
/-- what is left of a block copied -/
def CopyP (d : BlkD) (w : World) (e : Ending) (w' : World) : Prop := ∃ p c', e = .returned (.agg (blkA d.hash d.par p d.txs.length c')) ∧ w'.ownsRow w.heap.size 30 32 (.slice p d.txs.length c') d.txs.length (d.txs.flatMap bytesV) ∧ Below w.heap.size w w'
set_option maxRecDepth 100000 in
set_option maxHeartbeats 400000 in
theorem copy_any (M : Array Value) (d : BlkD) (q : Option Addr) (n c : Nat) (w : World) (hM : BlkAt w M d q n c) (hn : n ≤ 1099511627776) :
    Calls Try.prog 27 #[.agg M] w (CopyP d w) := by
  have HA : Hid (d.hash.length = 32 ∧ d.par.length = 32) := ⟨hM.hlen, hM.plen⟩
  have HARR := Lib.hid hM.arr
  have HMS := Lib.hid hM.size
  have hcap := hM.ids.sl.le
  have hmax := hM.ids.sl.max
  obtain rfl : d.txs.length = n := hM.ids.count
  have hzb : ∃ Z : Array Value, (∀ w0, (zeroValue 33).run Try.prog w0 = .ok (.agg Z) w0) ∧ Z.size = 65 := ⟨blkA zeros zeros none 0 0, fun w0 => by kernel_rfl, by kernel_rfl⟩
  obtain ⟨Z, hz, hZ⟩ := hzb
  have HZ := Lib.hid hZ
  have H2 := Lib.hid (two_allocs w (.cells M 33) (.cells Z 33))
  have HI := Lib.hid (hM.ids.below H2.out.2.2.2)
  have hc64 := (hM.parts H2.out.1).2.2
  have hf64 : ((w.alloc (.cells M 33)).alloc (.cells Z 33)).frozen? ⟨w.heap.size, 64, none⟩ = false := frozen_of_row _ _ _ _ _ H2.out.1
  have HN0 : Hid (((w.alloc (.cells M 33)).alloc (.cells Z 33)).ownsRow w.heap.size 30 32 (.slice none 0 0) 0 []) := World.ownsRow_nil _ _ _ _
  have HSZ : Hid (w.heap.size ≤ ((w.alloc (.cells M 33)).alloc (.cells Z 33)).heap.size) := H2.out.2.2.2.size
  have HONE : Hid (∀ u ∈ d.txs.flatMap bytesV, u.oneCell' = true) := fun u hu => by
    obtain ⟨x, _, hx⟩ := List.mem_flatMap.1 hu
    exact bytesV_one x u hx
  clear hM hZ
  go_enter Try.func27, Try.ntmps27
  go_wp2_with (at_builtin; refine wpList_append_nx rfl _ _ 31 rfl (base := w.heap.size) Try.underlying31 infoIds (by rw [show (Value.agg (idA zeros)).cells = idA zeros from rfl]; exact zeros_size) (by omega) rfl HN0.out rfl HI.out.sl HONE.out (by omega) HSZ.out ?_)
  intro p' c' w3 hown hg hnx hne
  have hr0 : w3.heap[w.heap.size]? = some (.cells M 33 (0, 0)) := by
    rw [hg.block _ (by have := H2.out.2.2.1; omega) (by simp [Value.ownBlock])]; exact H2.out.1
  have hr1 : w3.heap[w.heap.size + 1]? = some (.cells Z 33 (0, 0)) := by
    rw [hg.block _ (by have := H2.out.2.2.1; omega) (by simp [Value.ownBlock])]; exact H2.out.2.1
  have hb3 : Below w.heap.size w w3 := H2.out.2.2.2.grown hg HSZ.out (fun k hk => by simp [Value.ownBlock] at hk)
  have hc3 : w3.cell? ⟨w.heap.size, 64, none⟩ = some (.slice q d.txs.length c) := by
    rw [cell_of_row _ _ _ _ _ _ hr0, ← Array.getElem?_toList, HARR.out, blkA_toList, List.getElem?_append_right (by simp [bytesV_length, HA.out.1, HA.out.2])]
    simp [bytesV_length, HA.out.1, HA.out.2]
  have hf3 : w3.frozen? ⟨w.heap.size, 64, none⟩ = false := frozen_of_row _ _ _ _ _ hr0
  have HR4 : Hid ((w3.setCell ⟨w.heap.size, 64, none⟩ (.slice p' d.txs.length c')).heap[w.heap.size]? = some (.cells (blkA d.hash d.par p' d.txs.length c') 33 (0, 0))) := by
    show _ = _
    rw [heap_setCell_same _ _ _ _ _ _ hr0, HARR.out, blkA_set _ _ HA.out.1 HA.out.2]
  have ht := (Turns.refl (fun i => i = w.heap.size) w3).setCell (p := ⟨w.heap.size, 64, none⟩) (fun _ => rfl) (.slice p' d.txs.length c')
  have HR5 := Lib.hid (ht.keep hr1 (by omega))
  have HB4 := Lib.hid (hb3.setCell (p := ⟨w.heap.size, 64, none⟩) (Nat.le_refl _) (.slice p' d.txs.length c'))
  have hnb : ∀ k, (Value.slice p' d.txs.length c').ownBlock = some k → w.heap.size + 2 ≤ k := fun k hk => by
    rcases hnx k hk with h | h
    · simp [Value.ownBlock] at h
    · have := H2.out.2.2.1; omega
  have HNB := Lib.hid hnb
  have HO4 := Lib.hid (own_touch hown ht (fun k hk e => by have := hnb k hk; omega))
  have HBA : Hid ((blkA d.hash d.par p' d.txs.length c').size = 65) := by
    show _ = _
    rw [← Array.length_toList, blkA_toList]; simp [bytesV_length, HA.out.1, HA.out.2]
  have HBO : Hid ((blkA d.hash d.par p' d.txs.length c').all (·.oneCell') = true) := by
    have h := all_oneCell_toArray (cs := (blkA d.hash d.par p' d.txs.length c').toList) (fun v hv => by
      rw [blkA_toList] at hv
      simp only [List.mem_append, List.mem_singleton] at hv
      rcases hv with (hv | hv) | hv
      · exact bytesV_one _ v hv
      · exact bytesV_one _ v hv
      · rw [hv]; rfl)
    rwa [Array.toArray_toList] at h
  clear hown hg hnx hne hr0 hr1 hb3 ht hc64 hf64 hnb
  go_wp2_with (first
    | ((with_reducible refine wpAt 7 ?_); refine wpList_load_row rfl 33 _ rfl w.heap.size rfl 33 (blkA d.hash d.par p' d.txs.length c') (0, 0) _ HR4.out Try.underlying33 rfl (infoBlk _ HBA.out) ?_)
    | ((with_reducible refine wpStoreAt 2 ?_); refine wpList_store_row rfl 33 _ _ rfl (w.heap.size + 1) (blkA d.hash d.par p' d.txs.length c') rfl rfl 33 Z HR5.out (infoBlk _ HBA.out) (by rw [HZ.out, HBA.out]) HBO.out ?_))
  have HS := Lib.hid (setRow_heap _ _ _ (blkA d.hash d.par p' d.txs.length c') _ _ HR5.out)
  have HOF := Lib.hid (own_touch HO4.out (turns_setRow _ (w.heap.size + 1) (blkA d.hash d.par p' d.txs.length c')) (fun k hk e => by have := HNB.out k hk; omega))
  refine bodyPost_ret (results_cell_row rfl _ _ _ _ _ _ _ rfl HS.out Try.underlying33 rfl (infoBlk _ HBA.out)) rfl ?_
  exact ⟨p', c', rfl, HOF.out, below_setRow HB4.out (Nat.le_succ _) _⟩
end Go.Proofs.Ytepemfgiigceoaa.Blk

namespace Go.Proofs.Ytepemfgiigceoaa.Blk
open Go.RowKit Go.Mir Go.Mir.Parts

theorem range_grown_row0 {w : World} {b : Nat} {A : Array Value} {t : TypeId} {fr : Nat × Nat} (h : w.heap[b]? = some (.cells A t fr)) : ∀ z : Grown w, z.v.rangeAt b 0 A.toList := fun z => range_grown_row h z
set_option maxRecDepth 100000 in
set_option maxHeartbeats 400000 in
theorem rHinted_any (M : Array Value) (d : BlkD) (q : Option Addr) (n c : Nat) (h : List UInt8) (w : World) (hM : BlkAt w M d q n c) (hh : h.length = 16) (hn : n ≤ 1099511627776) :
    Calls Try.prog 25 #[.agg M, .agg (idA h)] w (IdsP (hintedL h d.txs) w) := by
  have HM := Lib.hid hM
  have HH := Lib.hid hh
  have hcnt : d.txs.length = n := hM.ids.count
  have hcap := hM.ids.sl.le
  have hmax := hM.ids.sl.max
  have HC := Lib.hid hcnt
  clear hM hh hcnt
  go_enter Try.func25, Try.ntmps25
  have H2 := Lib.hid (two_allocs w (.cells M 33) (.cells (idA h) 52))
  have hc64 := (HM.out.parts H2.out.1).2.2
  go_wp2_with fail
  have HR := Lib.hid H2.out.2.1
  have HRM0 := Lib.hid H2.out.1
  have HB := Lib.hid H2.out.2.2.2
  generalize (w.alloc (.cells M 33)).alloc (.cells (idA h) 52) = w2 at *
  clear hc64
  go_loopw [5, 6] (fun v j wr => ∃ (k : Nat) (p : Option Addr) (m cc : Nat), k ≤ n ∧ j = .int .i64 k ∧ v = .slice p m cc ∧ m = (hintedL h (d.txs.take k)).length ∧ wr.ownsRow w.heap.size 30 32 v m ((hintedL h (d.txs.take k)).flatMap bytesV) ∧ wr.heap[w.heap.size]? = some (.cells M 33 (0, 0)) ∧ wr.heap[w.heap.size + 1]? = some (.cells (idA h) 52 (0, 0)) ∧ Below w.heap.size w wr) (fun _ j _ => n - (intOf j).toNat)
  case atStart => exact ⟨0, none, 0, 0, by omega, rfl, rfl, rfl, ⟨rfl, .inl ⟨rfl, rfl⟩⟩, HRM0.out, HR.out, HB.out⟩
  case round =>
    obtain ⟨k, p, m, cc, hk, rfl, rfl, hm, hown, hrm, hrow, hbw⟩ := hrel
    have HRM := Lib.hid hrm
    have hc64 := (HM.out.parts hrm).2.2
    have HMM := Lib.hid hm
    have HOW := Lib.hid hown
    have HROW := Lib.hid hrow
    have HBW := Lib.hid hbw
    have hmle : m ≤ n := by
      rw [hm]
      have h1 := List.length_filter_le (fun y => y.take 16 == h) (d.txs.take k)
      have h2 : (d.txs.take k).length ≤ k := by rw [List.length_take]; omega
      unfold hintedL; omega
    clear hown hrm hrow hbw hm
    by_cases hlt : k < n
    · obtain ⟨b, o, rfl⟩ := HM.out.ids.sl.addr (by omega) (by omega)
      have hlk : k < d.txs.length := by rw [HC.out]; exact hlt
      have HRG0 := Lib.hid ((HM.out.ids.below HBW.out).range (by omega) k hlk)
      have HLK : Hid ((d.txs[k]'hlk).length = 32) := HM.out.ids.each _ (List.getElem_mem _)
      have HFS : Hid (hintedL h (d.txs.take (k + 1)) = hintedL h (d.txs.take k) ++ if (d.txs[k]'hlk).take 16 == h then [d.txs[k]'hlk] else []) := filter_snoc _ _ k hlk
      generalize d.txs[k]'hlk = y at *
      have HRG := Lib.hid (range_grown HRG0.out)
      have HYS : Hid ((idA y).size = 32) := by show _ = _; rw [idA_size, HLK.out]
      have HYL : Hid ((idA y).toList.length = 32) := by show _ = _; rw [Array.length_toList, HYS.out]
      have hd : decide ((k : Int) < (n : Int)) = true := decide_eq_true (by omega)
      have hq : ∀ w, (Op.equalIn 10000 52 (.agg (idA (y.take 16))) (.agg (idA h))).run Try.prog w = .ok (y.take 16 == h) w := fun w => eqH w _ h (by rw [List.length_take, HLK.out]; rfl) HH.out
      have HG2 := Lib.hid (range_grown_row0 HROW.out)
      have hg64 := cell_grown hc64
      by_cases hyx : (y.take 16 == h) = true
      · go_wp2_with fail
        refine wp_region_grow (by kernel_rfl) (by kernel_rfl) ?_
        repeat (first
          | refine wpQuiet_load rfl 30 _ rfl b (o + k * 32) rfl (idA y) _ HRG.out Try.underlying30 rfl (infoI _ HYS.out) ?_
          | refine wpQuiet_load rfl 52 _ rfl (w.heap.size + 1) 0 rfl (idA h) _ HG2.out Try.underlying52 rfl (infoH _ (by rw [idA_size, HH.out])) ?_
          | quiet_step ((first | (go_at_call 46; exact Calls.grow_of (rHint_any y _ HLK.out)))))
        refine wpQuiet_nil ?_
        intro w4 hb4
        have HRM4 := Lib.hid (Below.keepOld hb4 HRM.out)
        have HR4 := Lib.hid (Below.keepOld hb4 HROW.out)
        have HB4 := Lib.hid (HBW.out.trans (hb4.mono HBW.out.size))
        have HO4 := Lib.hid (own_touch HOW.out (Turns.of_below (S := fun _ => False) hb4) (fun _ _ h => h))
        have HRG4 : Hid (w4.rangeAt b (o + k * 32) (idA y).toList) := fun j v hv => by
          have := HRG0.out j v hv
          rw [hb4.cell (block_lt_of_cell this)]; exact this
        have hd64 := (HM.out.parts HRM4.out).2.2
        clear hb4 hq hg64 hc64
        have HSL : Hid (Sl (w4.alloc (.cells (idA y) 30)) (some ⟨w4.heap.size, 0, none⟩) 1 1 32 (bytesV y)) := made_id w4 y _ _ (idA_toList y) HLK.out
        have HO5 : Hid ((w4.alloc (.cells (idA y) 30)).ownsRow w.heap.size 30 32 (.slice p m cc) m ((hintedL h (d.txs.take k)).flatMap bytesV)) := HO4.out.alloc _
        have HSZ4 : Hid (w.heap.size ≤ (w4.alloc (.cells (idA y) 30)).heap.size) := by have := HB4.out.size; show _ ≤ _; simp; omega
        go_wp2_with (first
          | ((with_reducible refine wpAt 27 ?_); refine wpList_load_mid rfl 30 _ rfl b (o + k * 32) rfl (idA y).toList _ HRG4.out Try.underlying30 rfl (infoI _ HYL.out) ?_)
          | refine wpList_buildOne rfl 31 30 _ rfl (idA y) rfl 32 Try.underlying31 (by kernel_rfl) (by omega) (by omega) HYS.out ?_
          | (at_builtin; refine wpList_append_nx rfl _ _ 31 rfl (base := w.heap.size) Try.underlying31 infoIds (by rw [show (Value.agg (idA zeros)).cells = idA zeros from rfl]; exact zeros_size) (by omega) rfl HO5.out rfl HSL.out (bytesV_one _) (by omega) HSZ4.out ?_))
        intro p' c' w5 hown hg hnx hne
        have hr5 : w5.heap[w.heap.size + 1]? = some (.cells (idA h) 52 (0, 0)) := by
          have h1 := block_old (.cells (idA y) 30) HR4.out
          rw [hg.block _ (Array.getElem?_eq_some_iff.1 h1).1 (fun e => own_ne_cells HOW.out HROW.out (by decide) _ e.symm rfl)]
          exact h1
        have hrm5 : w5.heap[w.heap.size]? = some (.cells M 33 (0, 0)) := by
          have h1 := block_old (.cells (idA y) 30) HRM4.out
          rw [hg.block _ (Array.getElem?_eq_some_iff.1 h1).1 (fun e => own_ne_cells HOW.out HRM.out (by decide) _ e.symm rfl)]
          exact h1
        have HRM5 := Lib.hid hrm5
        have hb5 : Below w.heap.size w w5 := (HB4.out.alloc HB4.out.size _).grown hg HSZ4.out (fun i hi => (HO5.out.lt i hi).1)
        have HO6 := Lib.hid hown
        have HR5 := Lib.hid hr5
        have HB5 := Lib.hid hb5
        have HT : Hid (hintedL h (d.txs.take (k + 1)) = hintedL h (d.txs.take k) ++ [y]) := by show _ = _; rw [HFS.out, if_pos hyx]
        clear hown hg hnx hne hr5 hrm5 hb5 hd64
        go_wp2_with fail
        go_roundw
        case rel =>
          refine ⟨k + 1, p', m + 1, c', by omega, by go_num, rfl, by rw [HT.out, List.length_append, ← HMM.out]; rfl, ?_, HRM5.out, HR5.out, HB5.out⟩
          have := HO6.out
          rw [HT.out, List.flatMap_append]
          simpa using this
        case measure => simp [intOf]; omega
      · have hyx' : (y.take 16 == h) = false := by simpa using hyx
        have HT : Hid (hintedL h (d.txs.take (k + 1)) = hintedL h (d.txs.take k)) := by show _ = _; rw [HFS.out, hyx']; simp
        clear hyx
        go_wp2_with fail
        refine wp_region_grow (by kernel_rfl) (by kernel_rfl) ?_
        repeat (first
          | refine wpQuiet_load rfl 30 _ rfl b (o + k * 32) rfl (idA y) _ HRG.out Try.underlying30 rfl (infoI _ HYS.out) ?_
          | refine wpQuiet_load rfl 52 _ rfl (w.heap.size + 1) 0 rfl (idA h) _ HG2.out Try.underlying52 rfl (infoH _ (by rw [idA_size, HH.out])) ?_
          | quiet_step ((first | (go_at_call 46; exact Calls.grow_of (rHint_any y _ HLK.out)))))
        refine wpQuiet_nil ?_
        intro w4 hb4
        have HRM4 := Lib.hid (Below.keepOld hb4 HRM.out)
        have HR4 := Lib.hid (Below.keepOld hb4 HROW.out)
        have HB4 := Lib.hid (HBW.out.trans (hb4.mono HBW.out.size))
        have HO4 := Lib.hid (own_touch HOW.out (Turns.of_below (S := fun _ => False) hb4) (fun _ _ h => h))
        have HRG4 : Hid (w4.rangeAt b (o + k * 32) (idA y).toList) := fun j v hv => by
          have := HRG0.out j v hv
          rw [hb4.cell (block_lt_of_cell this)]; exact this
        have hd64 := (HM.out.parts HRM4.out).2.2
        clear hb4 hq hg64 hc64
        go_wp2_with fail
        go_roundw
        case rel => exact ⟨k + 1, p, m, cc, by omega, by go_num, rfl, by rw [HT.out]; exact HMM.out, by rw [HT.out]; exact HO4.out, HRM4.out, HR4.out, HB4.out⟩
        case measure => simp [intOf]; omega
    · have HE : Hid (hintedL h (d.txs.take k) = hintedL h d.txs) := by show _ = _; rw [List.take_of_length_le (by rw [HC.out]; omega)]
      have HAL : Hid (∀ x ∈ hintedL h d.txs, x.length = 32) := fun x hx => HM.out.ids.each x (List.mem_filter.1 hx).1
      have HFIN : Hid (IdsP (hintedL h d.txs) w (.returned (.slice p m cc)) wr) := by
        refine ids_of_own ?_ HAL.out HBW.out
        have h1 := HOW.out
        rw [HMM.out, HE.out] at h1
        rw [HMM.out, HE.out]
        exact h1
      have hd : decide ((k : Int) < (n : Int)) = false := decide_eq_false (by omega)
      go_wp2_with fail
      go_ret
      exact HFIN.out
end Go.Proofs.Ytepemfgiigceoaa.Blk

namespace Go.Proofs.Ytepemfgiigceoaa.Blk
open Go.RowKit Go.Mir Go.Mir.Parts

theorem nodup_take_succ {l : List (List UInt8)} {k : Nat} (h : k < l.length) : (l.take (k + 1)).Nodup ↔ (l.take k).Nodup ∧ l[k] ∉ l.take k := by
  rw [take_snoc l k h, List.nodup_append]
  constructor
  · rintro ⟨h1, _, h3⟩
    exact ⟨h1, fun hm => h3 _ hm _ (List.mem_singleton.2 rfl) rfl⟩
  · rintro ⟨h1, h2⟩
    exact ⟨h1, by simp, fun a ha b hb e => h2 (by rw [List.mem_singleton] at hb; rw [← hb, ← e]; exact ha)⟩
theorem nodup_of_take {l : List (List UInt8)} (k : Nat) (h : l.Nodup) : (l.take k).Nodup := h.sublist (List.take_sublist k l)

set_option maxRecDepth 100000 in
set_option maxHeartbeats 400000 in
theorem rRight_any (M : Array Value) (d : BlkD) (q : Option Addr) (n c : Nat) (w : World) (hM : BlkAt w M d q n c) :
    Calls Try.prog 42 #[.agg M] w fun e w' => e = .returned (.bool (rightB d)) ∧ Below w.heap.size w w' := by
  have HM := Lib.hid hM
  have hcap := hM.ids.sl.le
  have hmax := hM.ids.sl.max
  have HC : Hid (d.txs.length = n) := hM.ids.count
  have hqp : Hid (∀ w, (Op.equalIn 10000 30 (.agg (idA d.hash)) (.agg (idA d.par))).run Try.prog w = .ok (d.hash == d.par) w) := fun w => eqI w _ _ hM.hlen hM.plen
  have HH : Hid (d.hash.length = 32 ∧ d.par.length = 32) := ⟨hM.hlen, hM.plen⟩
  have HR0 := Lib.hid (heap_alloc_last w (.cells M 33))
  have HB0 : Hid (Below w.heap.size w (w.alloc (.cells M 33))) := Below.allocs _ _
  clear hM
  go_enter Try.func42, Try.ntmps42
  go_wp2_with fail
  generalize w.alloc (.cells M 33) = w2 at *
  go_loopw [3] (fun j wr => ∃ k : Nat, k ≤ n ∧ j = .int .i64 k ∧ (d.txs.take k).Nodup ∧ wr.heap[w.heap.size]? = some (.cells M 33 (0, 0)) ∧ Below w.heap.size w wr) (fun j _ => n - (intOf j).toNat)
  case atStart => exact ⟨0, by omega, rfl, by simp, HR0.out, HB0.out⟩
  case round =>
    obtain ⟨i, hi, rfl, hnd, hrow, hbw⟩ := hrel
    have HND := Lib.hid hnd
    have HROW := Lib.hid hrow
    have HBW := Lib.hid hbw
    have hc64 := (HM.out.parts hrow).2.2
    have HPP := Lib.hid (HM.out.parts hrow)
    clear hnd hrow hbw
    by_cases hlt : i < n
    · have hd : decide ((i : Int) < (n : Int)) = true := decide_eq_true (by omega)
      go_wp2_with fail
      clear hc64 HPP
      go_loopw [4] (fun j wr => ∃ k : Nat, k ≤ i ∧ j = .int .i64 k ∧ (∀ y, d.txs[i]? = some y → y ∉ d.txs.take k) ∧ wr.heap[w.heap.size]? = some (.cells M 33 (0, 0)) ∧ Below w.heap.size w wr) (fun j _ => i - (intOf j).toNat)
      case atStart => exact ⟨0, by omega, rfl, by simp, HROW.out, HBW.out⟩
      case round =>
        obtain ⟨k, hk, rfl, hnot, hrow2, hbw2⟩ := hrel
        have HNOT := Lib.hid hnot
        have HROW2 := Lib.hid hrow2
        have HBW2 := Lib.hid hbw2
        have hc64 := (HM.out.parts hrow2).2.2
        clear hnot hrow2 hbw2
        have hli : i < d.txs.length := by rw [HC.out]; exact hlt
        by_cases hltk : k < i
        · obtain ⟨b, o, rfl⟩ := HM.out.ids.sl.addr (by omega) (by omega)
          have hlk : k < d.txs.length := by omega
          have HRI := Lib.hid (range_grown ((HM.out.ids.below HBW2.out).range (by omega) i hli))
          have HRK := Lib.hid (range_grown ((HM.out.ids.below HBW2.out).range (by omega) k hlk))
          have HLI : Hid ((d.txs[i]'hli).length = 32) := HM.out.ids.each _ (List.getElem_mem _)
          have HLK : Hid ((d.txs[k]'hlk).length = 32) := HM.out.ids.each _ (List.getElem_mem _)
          have HGI : Hid (d.txs[i]? = some (d.txs[i]'hli)) := List.getElem?_eq_getElem hli
          have HNK := Lib.hid (HNOT.out _ HGI.out)
          have HTK := Lib.hid (take_snoc d.txs k hlk)
          have HDUP : Hid ((d.txs[k]'hlk) = (d.txs[i]'hli) → ¬ d.txs.Nodup) := fun h hn => by
            refine ((nodup_take_succ hli).1 (nodup_of_take _ hn)).2 ?_
            rw [← h]
            exact List.mem_iff_getElem?.2 ⟨k, by rw [List.getElem?_take, if_pos hltk, List.getElem?_eq_getElem hlk]⟩
          generalize d.txs[i]'hli = y at *
          generalize d.txs[k]'hlk = z at *
          have HYS : Hid ((idA y).size = 32) := by show _ = _; rw [idA_size, HLI.out]
          have HZS : Hid ((idA z).size = 32) := by show _ = _; rw [idA_size, HLK.out]
          have hd2 : decide ((k : Int) < (i : Int)) = true := decide_eq_true (by omega)
          have hk0 : (0 : Int) ≤ (k : Int) := by omega
          have hi0 : (0 : Int) ≤ (i : Int) := by omega
          have hkn : (k : Int) < (n : Int) := by omega
          have hin : (i : Int) < (n : Int) := by omega
          have hq : ∀ w, (Op.equalIn 10000 30 (.agg (idA z)) (.agg (idA y))).run Try.prog w = .ok (z == y) w := fun w => eqI w z y HLK.out HLI.out
          have hg64 := cell_grown hc64
          by_cases hzy : z = y
          · have hb : (z == y) = true := by rw [beq_iff_eq]; exact hzy
            have HRES : Hid (rightB d = false) := by
              show _ = _; unfold rightB; rw [decide_eq_false (HDUP.out hzy)]; simp
            clear hzy
            go_wp2_with fail
            refine wp_region_grow (by kernel_rfl) (by kernel_rfl) ?_
            repeat (first
              | refine wpQuiet_load rfl 30 _ rfl b (o + k * 32) rfl (idA z) _ HRK.out Try.underlying30 rfl (infoI _ HZS.out) ?_
              | refine wpQuiet_load rfl 30 _ rfl b (o + i * 32) rfl (idA y) _ HRI.out Try.underlying30 rfl (infoI _ HYS.out) ?_
              | quiet_step (fail))
            refine wpQuiet_nil ?_
            intro w4 hb4
            have HB4 := Lib.hid (HBW2.out.trans (hb4.mono HBW2.out.size))
            clear hb4 hq hg64 hc64
            go_wp2_with fail
            go_ret
            exact ⟨bret HRES.out.symm, HB4.out⟩
          · have hb : (z == y) = false := by rw [beq_eq_false_iff_ne]; exact hzy
            have HNE := Lib.hid hzy
            clear hzy
            go_wp2_with fail
            refine wp_region_grow (by kernel_rfl) (by kernel_rfl) ?_
            repeat (first
              | refine wpQuiet_load rfl 30 _ rfl b (o + k * 32) rfl (idA z) _ HRK.out Try.underlying30 rfl (infoI _ HZS.out) ?_
              | refine wpQuiet_load rfl 30 _ rfl b (o + i * 32) rfl (idA y) _ HRI.out Try.underlying30 rfl (infoI _ HYS.out) ?_
              | quiet_step (fail))
            refine wpQuiet_nil ?_
            intro w4 hb4
            have HB4 := Lib.hid (HBW2.out.trans (hb4.mono HBW2.out.size))
            have HR4 := Lib.hid (Below.keepOld hb4 HROW2.out)
            clear hb4 hq hg64 hc64
            go_wp2_with fail
            go_roundw
            case rel =>
              refine ⟨k + 1, by omega, by go_num, fun u hu hm => ?_, HR4.out, HB4.out⟩
              rw [HGI.out] at hu
              cases hu
              rw [HTK.out, List.mem_append, List.mem_singleton] at hm
              rcases hm with hm | hm
              · exact HNK.out hm
              · exact HNE.out hm.symm
            case measure => simp [intOf]; omega
        · have hd2 : decide ((k : Int) < (i : Int)) = false := decide_eq_false (by omega)
          have hki : k = i := by omega
          have HND2 : Hid ((d.txs.take (i + 1)).Nodup) := (nodup_take_succ hli).2 ⟨HND.out, by have := HNOT.out _ (List.getElem?_eq_getElem hli); rwa [hki] at this⟩
          clear hki
          go_wp2_with fail
          go_roundw
          case rel => exact ⟨i + 1, by omega, by go_num, HND2.out, HROW2.out, HBW2.out⟩
          case measure => simp [intOf]; omega
    · have hd : decide ((i : Int) < (n : Int)) = false := decide_eq_false (by omega)
      have HALL : Hid (d.txs.Nodup) := by
        have h1 := HND.out
        rwa [List.take_of_length_le (by rw [HC.out]; omega)] at h1
      have hq := hqp.out
      by_cases h32 : n ≤ 32
      · have hd0 : decide ((n : Int) ≤ 32) = true := decide_eq_true (by omega)
        have HRES : Hid (rightB d = !(d.hash == d.par)) := by
          show _ = _; unfold rightB; rw [HC.out, decide_eq_true h32, decide_eq_true HALL.out]; simp
        go_wp2_with (first
          | ((with_reducible refine wpAt 34 ?_); refine wpList_unguard rfl (wpList_load_mid rfl 30 _ rfl w.heap.size 0 rfl (idA d.hash).toList _ HPP.out.1 Try.underlying30 rfl (infoI _ (by rw [Array.length_toList, idA_size, HH.out.1])) ?_))
          | ((with_reducible refine wpAt 36 ?_); refine wpList_unguard rfl (wpList_load_mid rfl 30 _ rfl w.heap.size 32 rfl (idA d.par).toList _ HPP.out.2.1 Try.underlying30 rfl (infoI _ (by rw [Array.length_toList, idA_size, HH.out.2])) ?_)))
        go_ret
        exact ⟨bret HRES.out.symm, HBW.out⟩
      · have hd0 : decide ((n : Int) ≤ 32) = false := decide_eq_false (by omega)
        have HRES : Hid (rightB d = false) := by
          show _ = _; unfold rightB; rw [HC.out, decide_eq_false h32]; simp
        go_wp2_with fail
        go_ret
        exact ⟨bret HRES.out.symm, HBW.out⟩
end Go.Proofs.Ytepemfgiigceoaa.Blk

namespace Go.Proofs.Ytepemfgiigceoaa.Chn
open Go.RowKit Go.Mir Go.Mir.Parts Go.Proofs.Ytepemfgiigceoaa.Blk

theorem own_blk {w : World} {d : BlkD} {p : Option Addr} {n c base : Nat} (hh : d.hash.length = 32) (hp : d.par.length = 32) (hl : ∀ x ∈ d.txs, x.length = 32) (hn : d.txs.length = n) (ho : w.ownsRow base 30 32 (.slice p n c) n (d.txs.flatMap bytesV)) : BlkAt w (blkA d.hash d.par p n c) d p n c := by
  obtain ⟨p', c', e, hs⟩ := own_sl ho
  cases e
  exact ⟨rfl, hh, hp, hs, hl, hn⟩
/-- a block of the window, by its cells -/
def ChB (w : World) (base : Nat) (r : List Value) (d : BlkD) : Prop := ∃ q c, r = (blkA d.hash d.par q d.txs.length c).toList ∧ d.hash.length = 32 ∧ d.par.length = 32 ∧ (∀ x ∈ d.txs, x.length = 32) ∧ w.ownsRow base 30 32 (.slice q d.txs.length c) d.txs.length (d.txs.flatMap bytesV)
theorem ChB.touch {S : Nat → Prop} {w w' : World} {base : Nat} {r : List Value} {d : BlkD} (h : ChB w base r d) (ht : Turns S w w') (hS : ∀ k M fr, w.heap[k]? = some (.cells M 30 fr) → ¬ S k) : ChB w' base r d := by
  obtain ⟨q, c, h1, h2, h3, h4, h5⟩ := h
  refine ⟨q, c, h1, h2, h3, h4, own_touch h5 ht fun k hk => ?_⟩
  rcases h5.2 with ⟨hv, _⟩ | ⟨g, cap, cur, hv, _, hg, _⟩
  · rw [hv] at hk; simp [Value.ownBlock] at hk
  · rw [hv] at hk; simp [Value.ownBlock] at hk; subst hk; exact hS _ _ _ hg
theorem ChB.below {w w' : World} {base : Nat} {r : List Value} {d : BlkD} (h : ChB w base r d) (hb : Below w.heap.size w w') : ChB w' base r d := h.touch (Turns.of_below (S := fun _ => False) hb) (fun _ _ _ _ h => h)
theorem ChB.blk {w : World} {base : Nat} {r : List Value} {d : BlkD} (h : ChB w base r d) : ∃ q c, r = (blkA d.hash d.par q d.txs.length c).toList ∧ BlkAt w (blkA d.hash d.par q d.txs.length c) d q d.txs.length c := by
  obtain ⟨q, c, h1, h2, h3, h4, h5⟩ := h
  exact ⟨q, c, h1, own_blk h2 h3 h4 rfl h5⟩
theorem ChB.len {w : World} {base : Nat} {r : List Value} {d : BlkD} (h : ChB w base r d) : r.length = 65 := by
  obtain ⟨q, c, h1, h2⟩ := h.blk
  rw [h1, Array.length_toList]; exact h2.size
/-- a chain's three cells -/
def chA (depth height : Nat) (p : Option Addr) (n c : Nat) : Array Value := #[.int .i64 (depth : Int), .int .u32 (height : Int), .slice p n c]
/-- a chain in memory -/
structure ChAt (w : World) (base cb depth height : Nat) (ds : List BlkD) (p : Option Addr) (c : Nat) (rows : List (List Value)) : Prop where
  row : w.heap[cb]? = some (.cells (chA depth height p ds.length c) 70 (0, 0))
  low : base ≤ cb
  keeps : World.keepsRow w base 33 65 (.slice p ds.length c) ds.length rows.flatten
  count : rows.length = ds.length
  each : ∀ (i : Nat) r d, rows[i]? = some r → ds[i]? = some d → ChB w base r d
  depth1 : 1 ≤ depth ∧ depth ≤ 16
  many : ds.length ≤ depth + 1 ∧ height ≤ 4294967295
  few : ∀ d ∈ ds, d.txs.length ≤ 1099511627776
def ChIs (w : World) (base cb depth height : Nat) (ds : List BlkD) : Prop := ∃ p c rows, ChAt w base cb depth height ds p c rows
theorem ChAt.below {w w' : World} {base cb depth height : Nat} {ds : List BlkD} {p : Option Addr} {c : Nat} {rows : List (List Value)} (h : ChAt w base cb depth height ds p c rows) (hb : Below w.heap.size w w') : ChAt w' base cb depth height ds p c rows :=
  ⟨Below.keepOld hb h.row, h.low, keeps_below h.keeps hb, h.count, fun i r d h1 h2 => (h.each i r d h1 h2).below hb, h.depth1, h.many, h.few⟩
theorem ChAt.cells {w : World} {base cb depth height : Nat} {ds : List BlkD} {p : Option Addr} {c : Nat} {rows : List (List Value)} (h : ChAt w base cb depth height ds p c rows) :
    w.cell? ⟨cb, 0, none⟩ = some (.int .i64 (depth : Int)) ∧ w.cell? ⟨cb, 1, none⟩ = some (.int .u32 (height : Int)) ∧ w.cell? ⟨cb, 2, none⟩ = some (.slice p ds.length c) ∧ ∀ j, w.frozen? ⟨cb, j, none⟩ = false :=
  ⟨by rw [cell_of_row _ _ _ _ _ _ h.row]; rfl, by rw [cell_of_row _ _ _ _ _ _ h.row]; rfl, by rw [cell_of_row _ _ _ _ _ _ h.row]; rfl, fun j => frozen_of_row _ _ _ _ _ h.row⟩
theorem ChAt.rs {w : World} {base cb depth height : Nat} {ds : List BlkD} {p : Option Addr} {c : Nat} {rows : List (List Value)} (h : ChAt w base cb depth height ds p c rows) : Rs w p ds.length c 65 rows := by
  obtain ⟨p', c', e, hs⟩ := keeps_sl h.keeps
  cases e
  refine ⟨hs, fun r hr => ?_, h.count⟩
  obtain ⟨i, hi⟩ := List.mem_iff_getElem?.1 hr
  have hlt : i < ds.length := by rw [← h.count]; exact (List.getElem?_eq_some_iff.1 hi).1
  exact (h.each i r _ hi (List.getElem?_eq_getElem hlt)).len

set_option maxRecDepth 100000 in
theorem none_any (cb depth : Nat) (w : World) (hc : w.cell? ⟨cb, 0, none⟩ = some (.int .i64 (depth : Int))) (hd : 1 ≤ depth) :
    Calls Try.prog 41 #[.pointer (some ⟨cb, 0, none⟩)] w fun e w' => e = .returned (.bool false) ∧ w' = w := by
  have h0 : ((depth : Int) == 0) = false := by rw [beq_eq_false_iff_ne]; omega
  go_enter Try.func41, Try.ntmps41
  go_wp2_with fail
  go_ret
  exact ⟨rfl, rfl⟩

set_option maxRecDepth 100000 in
/-- Height -/
theorem height_any {base cb depth height : Nat} {ds : List BlkD} {p : Option Addr} {c : Nat} {rows : List (List Value)} (w : World) (h : ChAt w base cb depth height ds p c rows) :
    Calls Try.prog 15 #[.pointer (some ⟨cb, 0, none⟩)] w fun e w' => e = .returned (.int .u32 (height : Int)) ∧ w' = w := by
  have hc := h.cells.2.1
  have HN := Lib.hid (none_any cb depth w h.cells.1 h.depth1.1)
  clear h
  go_enter Try.func15, Try.ntmps15
  go_wp2_with fail
  refine HN.out.mono ?_
  rintro e w' ⟨rfl, rfl⟩
  go_wp2_with fail
  go_ret
  exact ⟨rfl, rfl⟩

/-- the height of a place in the window: as a number of 32 bits -/
def atN (height n i : Nat) : Nat := (height + 4294967296 - (n - 1 - i)) % 4294967296
theorem atN_le {height n i : Nat} (h : n ≤ height) (hh : height ≤ 4294967295) : atN height n i = height - (n - 1 - i) := by unfold atN; omega

set_option maxRecDepth 100000 in
/-- the height of a place in the window -/
theorem at_any {base cb depth height : Nat} {ds : List BlkD} {p : Option Addr} {c : Nat} {rows : List (List Value)} (w : World) (h : ChAt w base cb depth height ds p c rows) (i : Nat) (hi : i < ds.length) :
    Calls Try.prog 52 #[.pointer (some ⟨cb, 0, none⟩), .int .i64 (i : Int)] w fun e w' => e = .returned (.int .u32 ((atN height ds.length i : Nat) : Int)) ∧ Below w.heap.size w w' := by
  have hc1 := h.cells.2.1
  have hc2 := h.cells.2.2.1
  have hm := h.many
  obtain ⟨hd1, hd2⟩ := h.depth1
  have hw1 : IntKind.i64.wrap ((ds.length : Int) - 1) = (ds.length : Int) - 1 := IntWalk.i64_in _ (by omega)
  have hw2 : IntKind.i64.wrap ((ds.length : Int) - 1 - (i : Int)) = (ds.length : Int) - 1 - (i : Int) := IntWalk.i64_in _ (by omega)
  have hw3 : IntKind.u32.wrap ((ds.length : Int) - 1 - (i : Int)) = (ds.length : Int) - 1 - (i : Int) := IntWalk.u32_in _ (by omega)
  have hw4 : IntKind.u32.wrap ((height : Int) - ((ds.length : Int) - 1 - (i : Int))) = ((atN height ds.length i : Nat) : Int) := by
    have e1 : ((height : Int) - ((ds.length : Int) - 1 - (i : Int))) = (height : Int) - ((ds.length - 1 - i : Nat) : Int) := by omega
    rw [e1]
    unfold atN IntKind.wrap
    simp only [IntKind.bits, IntKind.signed, Bool.false_and, Bool.false_eq_true, if_false]
    omega
  clear h
  go_enter Try.func52, Try.ntmps52
  go_wp2_with fail
  have hg1 := cell_grown hc1
  have hg2 := cell_grown hc2
  refine wp_region_grow (by kernel_rfl) (by kernel_rfl) ?_
  repeat (first
    | quiet_step (fail))
  refine wpQuiet_nil ?_
  intro w4 hb4
  have HB4 := Lib.hid hb4
  clear hb4 hg1 hg2 hc1 hc2
  go_wp2_with fail
  go_ret
  exact ⟨rfl, HB4.out⟩
end Go.Proofs.Ytepemfgiigceoaa.Chn

namespace Go.Proofs.Ytepemfgiigceoaa.Chn
open Go.RowKit Go.Mir Go.Mir.Parts Go.Proofs.Ytepemfgiigceoaa.Blk

theorem zBlk : ∃ Z : Array Value, (∀ w0, (zeroValue 33).run Try.prog w0 = .ok (.agg Z) w0) ∧ Z.size = 65 := ⟨blkA zeros zeros none 0 0, fun w0 => by kernel_rfl, by kernel_rfl⟩
/-- what is left of a tip told -/
def TipP (ds : List BlkD) (w : World) (e : Ending) (w' : World) : Prop := ∃ d, ds.getLast? = some d ∧ ∃ p c, e = .returned (.tuple #[.agg (blkA d.hash d.par p d.txs.length c), .bool true]) ∧ w'.ownsRow w.heap.size 30 32 (.slice p d.txs.length c) d.txs.length (d.txs.flatMap bytesV) ∧ Below w.heap.size w w'

set_option maxRecDepth 100000 in
set_option maxHeartbeats 400000 in
theorem tip_any {base cb depth height : Nat} {ds : List BlkD} {p : Option Addr} {c : Nat} {rows : List (List Value)} (w : World) (h : ChAt w base cb depth height ds p c rows) (d : BlkD) (hd : ds.getLast? = some d) (hn : d.txs.length ≤ 1099511627776) :
    Calls Try.prog 16 #[.pointer (some ⟨cb, 0, none⟩)] w (TipP ds w) := by
  obtain ⟨Z, hz, hZ⟩ := zBlk
  have H := Lib.hid h
  have hb1 : Below w.heap.size w (w.alloc (.cells Z 33)) := Below.allocs _ _
  have HB1 := Lib.hid hb1
  have H1 := Lib.hid (h.below hb1)
  have HR1 := Lib.hid (heap_alloc_last w (.cells Z 33))
  have hlen : 0 < ds.length := by cases ds with | nil => simp at hd | cons a l => simp
  have h0 : ((ds.length : Int) == 0) = false := by rw [beq_eq_false_iff_ne]; omega
  have hc2 := H1.out.cells.2.2.1
  clear h hb1
  go_enter Try.func16, Try.ntmps16
  go_wp2_with fail
  refine (none_any cb depth _ H1.out.cells.1 H.out.depth1.1).mono ?_
  rintro e w' ⟨rfl, rfl⟩
  go_upto_region 3 with fail
  generalize w.alloc (.cells Z 33) = w1 at *
  obtain ⟨i, hi⟩ : ∃ i, i + 1 = ds.length := ⟨ds.length - 1, by omega⟩
  have hsub : (ds.length : Int) - 1 = (i : Int) := by omega
  have hwi : IntKind.i64.wrap ((ds.length : Int) - 1) = (i : Int) := by rw [hsub]; exact IntWalk.i64_in _ (by have := H.out.many; have := H.out.depth1; omega)
  have hwi2 : IntKind.i64.wrap (i : Int) = (i : Int) := IntWalk.i64_in _ (by have := H.out.many; have := H.out.depth1; omega)
  have hrs := H.out.rs
  have hri : i < rows.length := by rw [H.out.count]; omega
  obtain ⟨b, o, rfl⟩ := hrs.sl.addr (by omega) (by omega)
  have hdi : ds[i]? = some d := by rw [← hd, List.getLast?_eq_getElem?]; congr 1; omega
  have hch := H.out.each i _ d (List.getElem?_eq_getElem hri) hdi
  obtain ⟨q, cq, hrq, hbq⟩ := hch.blk
  have HROW := Lib.hid (hrs.row i hri)
  rw [hrq] at HROW
  have HBQ := Lib.hid hbq
  have HQS := Lib.hid hbq.size
  have HCC := Lib.hid H.out.cells.2.2.1
  have hin : (i : Int) < (ds.length : Int) := by omega
  have hi0 : (0 : Int) ≤ (i : Int) := by omega
  have hbw : Hid (∀ w', Below w.heap.size w1 w' → Below w.heap.size w w') := fun w' hb => HB1.out.trans hb
  have hk : Hid (∀ w', Below w.heap.size w1 w' → w'.cell? ⟨cb, 2, none⟩ = some (.slice (some ⟨b, o, none⟩) ds.length c)) := fun w' hb => cell_below HCC.out (hbw.out w' hb)
  clear hrs hch hbq hrq hc2 hdi
  refine wp_region_eager_in (Below w.heap.size w1) [(0, true), (1, true), (2, true), (3, true), (4, true), (5, true), (6, true), (7, true), (8, true), (9, true), (10, true), (11, true), (12, false), (13, false), (14, true)] (by kernel_rfl) (by kernel_rfl) ?_ (eagerOpen rfl ?_)
  · exact below_drew1 _ _
  have hy0 : Below w.heap.size w1 w1.drew := below_drew1 _ _
  repeat (first
    | ((with_reducible refine eagerLoadAt 25 ?_); refine wpEager_load (by rfl) 33 _ rfl b (o + i * 65) rfl (blkA d.hash d.par q d.txs.length cq) _ (fun w' hb => range_below HROW.out (hbw.out w' hb)) Try.underlying33 rfl (infoBlk _ HQS.out) ?_; (try simp only [Act.put, List.setIfInBounds_toArray, List.set_cons_zero, List.set_cons_succ]); (try refine eagerOpen rfl ?_))
    | (first | (apply wpEager_take; (· rfl); (· (intro w' hb'; go_simp; try with_reducible rfl)); (try simp only [Act.put, List.setIfInBounds_toArray, List.set_cons_zero, List.set_cons_succ]); (try refine eagerOpen rfl ?_)) | (refine wpEager_skip (by rfl) ?_; (try simp only [Act.put, List.setIfInBounds_toArray, List.set_cons_zero, List.set_cons_succ]); (try refine eagerOpen rfl ?_)) | (refine wpEager_off (by rfl) ?_; (try simp only [Act.put, List.setIfInBounds_toArray, List.set_cons_zero, List.set_cons_succ]); (try refine eagerOpen rfl ?_)))
    | (apply wpEager_take; (· rfl); (· (intro w' hb'; have hk' := (hk.out) w' hb'; go_split_ands; go_simp; try with_reducible rfl)); (try simp only [Act.put, List.setIfInBounds_toArray, List.set_cons_zero, List.set_cons_succ]); (try refine eagerOpen rfl ?_)))
  (refine wpEager_op (by rfl) (fun K hK => ?_); go_simp; (refine (copy_any _ d _ _ _ _ (HBQ.out.below (hbw.out _ hy0)) hn).mono ?_; rintro e y ⟨p2, c2, rfl, ho, hb⟩; have HO := Lib.hid ho; have HRY := Lib.hid (Below.keepOld hb HR1.out); have hy1 : Below w.heap.size w1 y := hy0.trans (hb.mono HB1.out.size); clear ho hb); refine Shut.out hK _ _ (by assumption) ?_; clear hK K; (try simp only [Act.put, List.setIfInBounds_toArray, List.set_cons_zero, List.set_cons_succ]); (try refine eagerOpen rfl ?_))
  have HN2 : Hid (BlkAt y (blkA d.hash d.par p2 d.txs.length c2) d p2 d.txs.length c2) := own_blk HBQ.out.hlen HBQ.out.plen HBQ.out.ids.each rfl HO.out
  refine wpEager_op (by rfl) (fun K hK => ?_)
  refine wp_store_row 33 _ _ rfl w.heap.size (blkA d.hash d.par p2 d.txs.length c2) rfl rfl 33 Z HRY.out (infoBlk _ HN2.out.size) (by rw [hZ, HN2.out.size]) HN2.out.one ?_
  refine Shut.out hK _ _ (below_setRow hy1 (Nat.le_refl _) _) ?_
  clear hK K
  (try simp only [Act.put, List.setIfInBounds_toArray, List.set_cons_zero, List.set_cons_succ]); (try refine eagerOpen rfl ?_)
  repeat (first | (apply wpEager_take; (· rfl); (· (intro w' hb'; go_simp; try with_reducible rfl)); (try simp only [Act.put, List.setIfInBounds_toArray, List.set_cons_zero, List.set_cons_succ]); (try refine eagerOpen rfl ?_)) | (refine wpEager_skip (by rfl) ?_; (try simp only [Act.put, List.setIfInBounds_toArray, List.set_cons_zero, List.set_cons_succ]); (try refine eagerOpen rfl ?_)) | (refine wpEager_off (by rfl) ?_; (try simp only [Act.put, List.setIfInBounds_toArray, List.set_cons_zero, List.set_cons_succ]); (try refine eagerOpen rfl ?_)))
  refine eagerEnd ?_
  have HRS := Lib.hid (setRow_heap _ _ _ (blkA d.hash d.par p2 d.txs.length c2) _ _ HRY.out)
  have hws : w.heap.size < w1.heap.size := (Array.getElem?_eq_some_iff.1 HR1.out).1
  have HOF : Hid ((y.setRow w.heap.size (blkA d.hash d.par p2 d.txs.length c2)).ownsRow w.heap.size 30 32 (.slice p2 d.txs.length c2) d.txs.length (d.txs.flatMap bytesV)) :=
    own_base (own_touch HO.out (turns_setRow _ w.heap.size _) (fun k hk e => by have := (HO.out.lt k hk).1; have h2 : w1.drew.heap.size = w1.heap.size := rfl; omega)) (fun k hk => by have := (HO.out.lt k hk).1; have h2 : w1.drew.heap.size = w1.heap.size := rfl; omega)
  have HBF := Lib.hid (below_setRow (HB1.out.trans hy1) (Nat.le_refl _) (blkA d.hash d.par p2 d.txs.length c2))
  go_wp2_with fail
  refine bodyPost_ret (results_row_tmp rfl _ _ _ _ _ _ _ rfl HRS.out Try.underlying33 rfl (infoBlk _ HN2.out.size)) rfl ?_
  exact ⟨d, hd, p2, c2, rfl, HOF.out, HBF.out⟩
end Go.Proofs.Ytepemfgiigceoaa.Chn

namespace Go.Proofs.Ytepemfgiigceoaa.Chn
open Go.RowKit Go.Mir Go.Mir.Parts Go.Proofs.Ytepemfgiigceoaa.Blk

set_option maxRecDepth 100000 in
set_option maxHeartbeats 400000 in
theorem tip_none {base cb depth height : Nat} {p : Option Addr} {c : Nat} {rows : List (List Value)} (w : World) (h : ChAt w base cb depth height [] p c rows) :
    Calls Try.prog 16 #[.pointer (some ⟨cb, 0, none⟩)] w fun e w' => e = .returned (.tuple #[.agg (blkA zeros zeros none 0 0), .bool false]) ∧ Below w.heap.size w w' := by
  obtain ⟨Z, hz, HZE⟩ : ∃ Z : Array Value, (∀ w0, (zeroValue 33).run Try.prog w0 = .ok (.agg Z) w0) ∧ Hid (Z = blkA zeros zeros none 0 0) := ⟨blkA zeros zeros none 0 0, fun w0 => by kernel_rfl, rfl⟩
  have hzs : Z.size = 65 := by rw [HZE.out]; kernel_rfl
  have hzo : Z.all (·.oneCell') = true := by rw [HZE.out]; kernel_rfl
  have H := Lib.hid h
  have hb1 : Below w.heap.size w (w.alloc (.cells Z 33)) := Below.allocs _ _
  have HB1 := Lib.hid hb1
  have H1 := Lib.hid (h.below hb1)
  have HR1 := Lib.hid (heap_alloc_last w (.cells Z 33))
  have hc2 := H1.out.cells.2.2.1
  clear h hb1
  go_enter Try.func16, Try.ntmps16
  go_wp2_with fail
  refine (none_any cb depth _ H1.out.cells.1 H.out.depth1.1).mono ?_
  rintro e w' ⟨rfl, rfl⟩
  go_wp2_with ((with_reducible refine wpStoreAt 2 ?_); refine wpList_store_row rfl 33 _ _ rfl w.heap.size Z rfl rfl 33 Z HR1.out (infoBlk _ hzs) rfl hzo ?_)
  have HRS := Lib.hid (setRow_heap _ _ _ Z _ _ HR1.out)
  have HBF := Lib.hid (below_setRow HB1.out (Nat.le_refl _) Z)
  refine bodyPost_ret (results_row_tmp rfl _ _ _ _ _ _ _ rfl HRS.out Try.underlying33 rfl (infoBlk _ hzs)) rfl ?_
  exact ⟨by rw [← HZE.out]; rfl, HBF.out⟩

/-- where a block stands -/
def findR (ds : List BlkD) (height : Nat) (x : List UInt8) : Nat × Bool := match ds.findIdx? (fun d => d.hash == x) with
  | some i => (atN height ds.length i, true)
  | none => (0, false)
theorem findR_some {ds : List BlkD} {height : Nat} {x : List UInt8} {k : Nat} (hk : k < ds.length) (h : ds[k].hash = x) (hn : ∀ i d, i < k → ds[i]? = some d → ¬ d.hash = x) : findR ds height x = (atN height ds.length k, true) := by
  have : ds.findIdx? (fun d => d.hash == x) = some k := by
    rw [List.findIdx?_eq_some_iff_getElem]
    refine ⟨hk, by simpa using h, fun j hj => ?_⟩
    have := hn j _ hj (List.getElem?_eq_getElem (by omega))
    simpa using this
  unfold findR; rw [this]
theorem findR_none {ds : List BlkD} {height : Nat} {x : List UInt8} (hn : ∀ i d, i < ds.length → ds[i]? = some d → ¬ d.hash = x) : findR ds height x = (0, false) := by
  have : ds.findIdx? (fun d => d.hash == x) = none := by
    rw [List.findIdx?_eq_none_iff]
    intro d hd
    obtain ⟨i, hi⟩ := List.mem_iff_getElem?.1 hd
    have := hn i d (List.getElem?_eq_some_iff.1 hi).1 hi
    simpa using this
  unfold findR; rw [this]

set_option maxRecDepth 100000 in
set_option maxHeartbeats 400000 in
theorem find_any {base cb depth height : Nat} {ds : List BlkD} {p : Option Addr} {c : Nat} {rows : List (List Value)} (w : World) (h : ChAt w base cb depth height ds p c rows) (x : List UInt8) (hx : x.length = 32) :
    Calls Try.prog 36 #[.pointer (some ⟨cb, 0, none⟩), .agg (idA x)] w fun e w' => e = .returned (.tuple #[.int .u32 ((findR ds height x).1 : Int), .bool (findR ds height x).2]) ∧ Below w.heap.size w w' := by
  obtain ⟨Z, hz, hZ⟩ := zBlk
  have HZZ := Lib.hid hZ
  have H := Lib.hid h
  have HX := Lib.hid hx
  have hb1 : Below w.heap.size w (w.alloc (.cells (idA x) 30)) := Below.allocs _ _
  have HB1 := Lib.hid hb1
  have H1 := Lib.hid (h.below hb1)
  have HR1 := Lib.hid (heap_alloc_last w (.cells (idA x) 30))
  have hc2 := H1.out.cells.2.2.1
  have hm := h.many
  obtain ⟨hd1, hd2⟩ := h.depth1
  clear h hb1 hZ hx
  go_enter Try.func36, Try.ntmps36
  go_wp2_with fail
  refine (none_any cb depth _ H1.out.cells.1 H.out.depth1.1).mono ?_
  rintro e w' ⟨rfl, rfl⟩
  go_wp2_with fail
  generalize w.alloc (.cells (idA x) 30) = w1 at *
  clear hc2
  go_loopw [15] (fun j wr => ∃ k : Nat, k ≤ ds.length ∧ j = .int .i64 k ∧ (∀ i d, i < k → ds[i]? = some d → ¬ d.hash = x) ∧ wr.heap[w.heap.size]? = some (.cells (idA x) 30 (0, 0)) ∧ Below w.heap.size w wr) (fun j _ => ds.length - (intOf j).toNat)
  case atStart => exact ⟨0, by omega, rfl, fun i d h => absurd h (Nat.not_lt_zero i), HR1.out, HB1.out⟩
  case round =>
    obtain ⟨k, hk, rfl, hnot, hrow, hbw⟩ := hrel
    have HNOT := Lib.hid hnot
    have HROW := Lib.hid hrow
    have HBW := Lib.hid hbw
    clear hnot hrow hbw
    by_cases hlt : k < ds.length
    · have hd : decide ((k : Int) < (ds.length : Int)) = true := decide_eq_true (by omega)
      have hrs := H.out.rs
      have hri : k < rows.length := by rw [H.out.count]; omega
      obtain ⟨b, o, rfl⟩ := hrs.sl.addr (by omega) (by omega)
      have hch := H.out.each k _ (ds[k]'hlt) (List.getElem?_eq_getElem hri) (List.getElem?_eq_getElem hlt)
      obtain ⟨q, cq, hrq, hbq⟩ := hch.blk
      have HRG0 := Lib.hid (range_below (hrs.row k hri) HBW.out)
      rw [hrq] at HRG0
      have HF1 : Hid ((ds[k]'hlt).hash = x → findR ds height x = (atN height ds.length k, true)) := fun h => findR_some hlt h HNOT.out
      have HGK : Hid (ds[k]? = some (ds[k]'hlt)) := List.getElem?_eq_getElem hlt
      generalize (ds[k]'hlt) = d at *
      obtain ⟨A, hA⟩ : ∃ A, A = blkA d.hash d.par q d.txs.length cq := ⟨_, rfl⟩
      rw [← hA] at HRG0 hbq
      clear hA hch hrq hrs
      have HBQ := Lib.hid hbq
      have HAS := Lib.hid hbq.size
      have HAO := Lib.hid hbq.one
      have HAL : Hid (A.toList.length = 65) := by show _ = _; rw [Array.length_toList]; exact hbq.size
      have HNW := Lib.hid (box_new wr Z 33)
      have HBR := Lib.hid (box_row wr Z A 33)
      have HBB := Lib.hid (box_below wr Z A 33)
      have HR3 := Lib.hid (Below.keepOld HBB.out HROW.out)
      have HB3 := Lib.hid (HBW.out.trans (HBB.out.mono HBW.out.size))
      have HPA := Lib.hid (hbq.parts HBR.out).1
      have HHS : Hid ((idA d.hash).toList.length = 32) := by show _ = _; rw [Array.length_toList, idA_size, hbq.hlen]
      have HHL := Lib.hid hbq.hlen
      clear hbq
      have hq : ∀ w, (Op.equalIn 10000 30 (.agg (idA d.hash)) (.agg (idA x))).run Try.prog w = .ok (d.hash == x) w := fun w => eqI w d.hash x HHL.out HX.out
      by_cases hyx : d.hash = x
      · have hb : (d.hash == x) = true := by rw [beq_iff_eq]; exact hyx
        have HRES := Lib.hid (HF1.out hyx)
        clear hyx
        go_wp2_with (first
          | ((with_reducible refine wpAt 19 ?_); refine wpList_load_mid rfl 33 _ rfl b (o + k * 65) rfl A.toList _ HRG0.out Try.underlying33 rfl (infoBlk _ HAL.out) ?_)
          | ((with_reducible refine wpStoreAt 7 ?_); refine wpList_store_row rfl 33 _ _ rfl wr.heap.size A rfl rfl 33 Z HNW.out (infoBlk _ HAS.out) (HZZ.out.trans HAS.out.symm) HAO.out ?_)
          | ((with_reducible refine wpAt 21 ?_); refine wpList_load_mid rfl 30 _ rfl wr.heap.size 0 rfl (idA d.hash).toList _ HPA.out Try.underlying30 rfl (infoI _ HHS.out) ?_)
          | ((with_reducible refine wpAt 22 ?_); refine wpList_load_row rfl 30 _ rfl w.heap.size rfl 30 (idA x) (0, 0) _ HR3.out Try.underlying30 rfl (infoI _ (by rw [idA_size, HX.out])) ?_))
        refine (at_any _ (H.out.below HB3.out) k hlt).mono ?_
        rintro e w5 ⟨rfl, hb5⟩
        have HB5 := Lib.hid (HB3.out.trans (hb5.mono HB3.out.size))
        clear hb5
        go_wp2_with fail
        go_ret2
        exact ⟨by rw [HRES.out]; rfl, HB5.out⟩
      · have hb : (d.hash == x) = false := by rw [beq_eq_false_iff_ne]; exact hyx
        have HNE := Lib.hid hyx
        clear hyx
        go_wp2_with (first
          | ((with_reducible refine wpAt 19 ?_); refine wpList_load_mid rfl 33 _ rfl b (o + k * 65) rfl A.toList _ HRG0.out Try.underlying33 rfl (infoBlk _ HAL.out) ?_)
          | ((with_reducible refine wpStoreAt 7 ?_); refine wpList_store_row rfl 33 _ _ rfl wr.heap.size A rfl rfl 33 Z HNW.out (infoBlk _ HAS.out) (HZZ.out.trans HAS.out.symm) HAO.out ?_)
          | ((with_reducible refine wpAt 21 ?_); refine wpList_load_mid rfl 30 _ rfl wr.heap.size 0 rfl (idA d.hash).toList _ HPA.out Try.underlying30 rfl (infoI _ HHS.out) ?_)
          | ((with_reducible refine wpAt 22 ?_); refine wpList_load_row rfl 30 _ rfl w.heap.size rfl 30 (idA x) (0, 0) _ HR3.out Try.underlying30 rfl (infoI _ (by rw [idA_size, HX.out])) ?_))
        go_roundw
        case rel =>
          refine ⟨k + 1, by omega, by go_num, fun i d' hi hd' => ?_, HR3.out, HB3.out⟩
          by_cases hik : i = k
          · rw [hik, HGK.out] at hd'
            cases hd'
            exact HNE.out
          · exact HNOT.out i d' (by omega) hd'
        case measure => simp [intOf]; omega
    · have hd : decide ((k : Int) < (ds.length : Int)) = false := decide_eq_false (by omega)
      have HRES : Hid (findR ds height x = (0, false)) := findR_none fun i d hi hd' => HNOT.out i d (by omega) hd'
      go_wp2_with fail
      go_ret2
      exact ⟨by rw [HRES.out]; rfl, HBW.out⟩
end Go.Proofs.Ytepemfgiigceoaa.Chn

namespace Go.Proofs.Ytepemfgiigceoaa.Chn
open Go.RowKit Go.Mir Go.Mir.Parts Go.Proofs.Ytepemfgiigceoaa.Blk

/-- what is left of a tip told, in one word -/
def TipQ (ds : List BlkD) (w : World) (e : Ending) (w' : World) : Prop := ∃ (A : Array Value) (t : BlkD) (q : Option Addr) (n c : Nat), e = .returned (.tuple #[.agg A, .bool ds.getLast?.isSome]) ∧ BlkAt w' A t q n c ∧ (∀ d, ds.getLast? = some d → t = d) ∧ Below w.heap.size w w'
theorem tip_q {base cb depth height : Nat} {ds : List BlkD} {p : Option Addr} {c : Nat} {rows : List (List Value)} (w : World) (h : ChAt w base cb depth height ds p c rows) :
    Calls Try.prog 16 #[.pointer (some ⟨cb, 0, none⟩)] w (TipQ ds w) := by
  cases hd : ds.getLast? with
  | none =>
    have : ds = [] := List.getLast?_eq_none_iff.1 hd
    subst this
    refine (tip_none w h).mono ?_
    rintro e w' ⟨rfl, hb⟩
    exact ⟨_, ⟨zeros, zeros, []⟩, none, 0, 0, rfl, ⟨rfl, rfl, rfl, Is.nil _ _⟩, fun d hd => by simp at hd, hb⟩
  | some d =>
    have hm : d ∈ ds := List.mem_of_getLast? hd
    refine (tip_any w h d hd (h.few d hm)).mono ?_
    rintro e w' ⟨d', hd', q, c', rfl, ho, hb⟩
    rw [hd] at hd'
    cases hd'
    obtain ⟨i, hi⟩ := List.mem_iff_getElem?.1 hm
    have hlt := (List.getElem?_eq_some_iff.1 hi).1
    obtain ⟨_, _, _, h2, h3, h4, _⟩ := h.each i _ d (List.getElem?_eq_getElem (by rw [h.count]; exact hlt)) hi
    exact ⟨_, d, q, _, c', by rw [hd]; rfl, own_blk h2 h3 h4 rfl ho, fun e he => by rw [hd] at he; cases he; rfl, hb⟩
/-- may a block be connected? -/
def mayE (ds : List BlkD) (height : Nat) (b : BlkD) : Int :=
  if rightB b = false then 4 else if (match ds.getLast? with | some t => !(b.par == t.hash) | none => false) || (findR ds height b.hash).2 then 19 else if height = 4294967295 then 16 else 0

set_option maxRecDepth 100000 in
set_option maxHeartbeats 400000 in
theorem may_any {base cb depth height : Nat} {ds : List BlkD} {p : Option Addr} {c : Nat} {rows : List (List Value)} (w : World) (h : ChAt w base cb depth height ds p c rows) (M : Array Value) (b : BlkD) (q : Option Addr) (n cc : Nat) (hM : BlkAt w M b q n cc) :
    Calls Try.prog 38 #[.pointer (some ⟨cb, 0, none⟩), .agg M] w fun e w' => e = .returned (.int .i64 (mayE ds height b)) ∧ Below w.heap.size w w' := by
  obtain ⟨Z, hz, hZ⟩ := zBlk
  have HZZ := Lib.hid hZ
  have H := Lib.hid h
  have HM := Lib.hid hM
  have HS := Lib.hid hM.size
  have hb1 : Below w.heap.size w (w.alloc (.cells M 33)) := Below.allocs _ _
  have HB1 := Lib.hid hb1
  have H1 := Lib.hid (h.below hb1)
  have HR1 := Lib.hid (heap_alloc_last w (.cells M 33))
  have HHS : Hid ((idA b.hash).toList.length = 32) := by show _ = _; rw [Array.length_toList, idA_size, hM.hlen]
  clear h hb1 hZ hM
  go_enter Try.func38, Try.ntmps38
  go_wp2_with fail
  refine (none_any cb depth _ H1.out.cells.1 H.out.depth1.1).mono ?_
  rintro e w' ⟨rfl, rfl⟩
  go_wp2_with fail
  refine (tip_q _ H1.out).mono ?_
  rintro e w2 ⟨A, t, qt, nt, ct, rfl, ht, hts, hb2⟩
  generalize w.alloc (.cells M 33) = w1 at *
  have HT := Lib.hid ht
  have HTS := Lib.hid hts
  have HB2 := Lib.hid (HB1.out.trans (hb2.mono HB1.out.size))
  have HR2 := Lib.hid (Below.keepOld hb2 HR1.out)
  have HAS := Lib.hid ht.size
  have HAO := Lib.hid ht.one
  have HNW := Lib.hid (box_new w2 Z 33)
  have hbb := box_below w2 Z A 33
  have HBR := Lib.hid (box_row w2 Z A 33)
  have HB3 := Lib.hid (HB2.out.trans (hbb.mono HB2.out.size))
  have HR3 := Lib.hid (Below.keepOld hbb HR2.out)
  have HT3 := Lib.hid (ht.below hbb)
  have HP3 := Lib.hid (HM.out.parts HR3.out).1
  clear ht hts hb2 hbb
  go_wp2_with (first
    | ((with_reducible refine wpStoreAt 5 ?_); refine wpList_store_row rfl 33 _ _ rfl w2.heap.size A rfl rfl 33 Z HNW.out (infoBlk _ HAS.out) (HZZ.out.trans HAS.out.symm) HAO.out ?_)
    | ((with_reducible refine wpAt 19 ?_); refine wpList_load_mid rfl 30 _ rfl w.heap.size 0 rfl (idA b.hash).toList _ HP3.out Try.underlying30 rfl (infoI _ HHS.out) ?_))
  generalize (w2.alloc (.cells Z 33)).setRow w2.heap.size A = w3 at *
  refine (find_any _ (H.out.below HB3.out) b.hash HM.out.hlen).mono ?_
  rintro e w4 ⟨rfl, hb4⟩
  have HB4 := Lib.hid (HB3.out.trans (hb4.mono HB3.out.size))
  have HR4 := Lib.hid (Below.keepOld hb4 HR3.out)
  have HBR4 := Lib.hid (Below.keepOld hb4 HBR.out)
  have HT4 := Lib.hid (HT3.out.below hb4)
  clear hb4
  obtain ⟨v, there, hvt⟩ : ∃ v there, findR ds height b.hash = (v, there) := ⟨_, _, rfl⟩
  have HVT := Lib.hid hvt
  rw [hvt]
  clear hvt
  go_wp2_with ((with_reducible refine wpAt 24 ?_); refine wpList_load_row rfl 33 _ rfl w.heap.size rfl 33 M (0, 0) _ HR4.out Try.underlying33 rfl (infoBlk _ HS.out) ?_)
  refine (right_any M b _ _ _ _ (HM.out.below HB4.out)).mono ?_
  rintro e w5 ⟨rfl, hb5⟩
  have HB5 := Lib.hid (HB4.out.trans (hb5.mono HB4.out.size))
  have HR5 := Lib.hid (Below.keepOld hb5 HR4.out)
  have HBR5 := Lib.hid (Below.keepOld hb5 HBR4.out)
  have HT5 := Lib.hid (HT4.out.below hb5)
  clear hb5
  cases hr : rightB b with
  | false =>
    have HRES : Hid (mayE ds height b = 4) := by show _ = _; unfold mayE; rw [if_pos hr]
    clear hr
    go_wp2_with fail
    go_ret
    exact ⟨by rw [HRES.out]; rfl, HB5.out⟩
  | true =>
    have HRT := Lib.hid hr
    clear hr
    cases hl : ds.getLast? with
    | none =>
      have HTIP : Hid ((match ds.getLast? with | some t => !(b.par == t.hash) | none => false) = false) := by show _ = _; rw [hl]
      have HBN := HB5
      clear hl
      dsimp only [Option.isSome]
      cases there with
      | true =>
        have HRES : Hid (mayE ds height b = 19) := by
          show _ = _; unfold mayE; rw [HRT.out, HVT.out]; simp
        go_wp2_with fail
        go_ret
        exact ⟨by rw [HRES.out]; rfl, HBN.out⟩
      | false =>
        have hch := (H.out.below HBN.out).cells.2.1
        by_cases htop : height = 4294967295
        · have hb : ((height : Int) == 4294967295) = true := by rw [beq_iff_eq]; omega
          have HRES : Hid (mayE ds height b = 16) := by
            show _ = _; unfold mayE; rw [HRT.out, HVT.out, HTIP.out]; simp [htop]
          clear htop
          go_wp2_with fail
          go_ret
          exact ⟨by rw [HRES.out]; rfl, HBN.out⟩
        · have hb : ((height : Int) == 4294967295) = false := by rw [beq_eq_false_iff_ne]; omega
          have HRES : Hid (mayE ds height b = 0) := by
            show _ = _; unfold mayE; rw [HRT.out, HVT.out, HTIP.out]; simp [htop]
          clear htop
          go_wp2_with fail
          go_ret
          exact ⟨by rw [HRES.out]; rfl, HBN.out⟩
    | some d =>
      have htd := HTS.out d hl
      subst htd
      dsimp only [Option.isSome]
      go_wp2_with (first
        | ((with_reducible refine wpAt 30 ?_); refine wpList_load_row_g rfl 33 _ rfl w2.heap.size rfl 33 A (0, 0) _ HBR5.out Try.underlying33 rfl (infoBlk _ HAS.out) ?_)
        | ((with_reducible refine wpAt 31 ?_); refine wpList_load_row_g rfl 33 _ rfl w.heap.size rfl 33 M (0, 0) _ HR5.out Try.underlying33 rfl (infoBlk _ HS.out) ?_))
      refine (child_any A M t b _ _ _ _ _ _ _ HT5.out (HM.out.below HB5.out)).mono ?_
      rintro e w6 ⟨rfl, hb6⟩
      have HBN := Lib.hid (HB5.out.trans (hb6.mono HB5.out.size))
      clear hb6
      cases hpar : b.par == t.hash with
      | false =>
        have HRES : Hid (mayE ds height b = 19) := by
          show _ = _; unfold mayE; rw [HRT.out, hl]; simp [hpar]
        clear hpar hl
        go_wp2_with fail
        go_ret
        exact ⟨by rw [HRES.out]; rfl, HBN.out⟩
      | true =>
        have HTIP : Hid ((match ds.getLast? with | some t => !(b.par == t.hash) | none => false) = false) := by show _ = _; rw [hl]; simp [hpar]
        clear hpar hl
        cases there with
        | true =>
          have HRES : Hid (mayE ds height b = 19) := by
            show _ = _; unfold mayE; rw [HRT.out, HVT.out]; simp
          go_wp2_with fail
          go_ret
          exact ⟨by rw [HRES.out]; rfl, HBN.out⟩
        | false =>
          have hch := (H.out.below HBN.out).cells.2.1
          by_cases htop : height = 4294967295
          · have hb : ((height : Int) == 4294967295) = true := by rw [beq_iff_eq]; omega
            have HRES : Hid (mayE ds height b = 16) := by
              show _ = _; unfold mayE; rw [HRT.out, HVT.out, HTIP.out]; simp [htop]
            clear htop
            go_wp2_with fail
            go_ret
            exact ⟨by rw [HRES.out]; rfl, HBN.out⟩
          · have hb : ((height : Int) == 4294967295) = false := by rw [beq_eq_false_iff_ne]; omega
            have HRES : Hid (mayE ds height b = 0) := by
              show _ = _; unfold mayE; rw [HRT.out, HVT.out, HTIP.out]; simp [htop]
            clear htop
            go_wp2_with fail
            go_ret
            exact ⟨by rw [HRES.out]; rfl, HBN.out⟩
end Go.Proofs.Ytepemfgiigceoaa.Chn
