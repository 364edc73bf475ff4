/- LAYER 10: the statement's own words: alive, an Op's cells. Conditions: none. -/
import Derived.Test.YtbfddfmglkhimaaDoorWriterNone
import Derived.Test.YtbfddfmglkhimaaDoorOpen
namespace Go.Proofs.YtbfddfmglkhimaaDoor.W10
open Go.RowKit Go.Mir Go.Mir.Parts Wr

theorem alive_any (w : World) : Calls Tryd.prog 25 #[] w fun e w' => e = .returned (.bool true) ∧ Below w.heap.size w w' := by
  have h1 : numS 3 [] 0 258 ((2 : Nat) : Int) = ([1, 2], 0) := by decide +kernel
  have h2 : numS 3 [1, 2] 0 3 ((2 : Nat) : Int) = ([1, 2], 3) := by decide +kernel
  have H1 := Lib.hid h1
  have H2 := Lib.hid h2
  clear h1 h2
  go_enter Tryd.func25, Tryd.ntmps25
  go_wp2_with fail
  refine (new_any 3 _ (by omega)).mono ?_
  rintro e w1 ⟨rfl, hw1, hb1⟩
  have HW1 := Lib.hid hw1
  have HB1 := Lib.hid hb1
  clear hw1 hb1
  go_wp2_with fail
  refine (num_any 258 2 _ _ _ _ _ _ HW1.out (by omega) (by omega) (by omega) (by simp)).mono ?_
  rintro e w2 ⟨rfl, v2, hw2, ht2, hn2⟩
  rw [show (numS (Int.toNat 3) [] 0 258 2) = ([1, 2], 0) from H1.out] at hw2
  have HW2 := Lib.hid hw2
  have HB2 : Hid (Below w.heap.size w w2) := HB1.out.trans (ht2.below HB1.out.size (fun i hi => by rcases hi with rfl | hi; exact Nat.le_refl _; simp [Value.ownBlock] at hi))
  have HF2 : Hid (∀ k, foot w.heap.size v2 k → w.heap.size ≤ k) := fun k hk => by
    rcases hk with rfl | hk
    · exact Nat.le_refl _
    · rcases Nat.lt_or_ge k w1.heap.size with h | h
      · have := hn2 k hk h; simp [Value.ownBlock] at this
      · have := HB1.out.size; omega
  clear hw2 ht2 hn2
  go_wp2_with fail
  refine (num_any 3 2 _ _ _ _ _ _ HW2.out (by omega) (by omega) (by omega) (by simp)).mono ?_
  rintro e w3 ⟨rfl, v3, hw3, ht3, hn3⟩
  rw [show (numS (Int.toNat 3) [1, 2] 0 3 2) = ([1, 2], 3) from H2.out] at hw3
  have HW3 := Lib.hid hw3
  have HB3 : Hid (Below w.heap.size w w3) := HB2.out.trans (ht3.below HB2.out.size HF2.out)
  clear hw3 ht3 hn3
  go_wp2_with fail
  refine (done_any _ _ _ _ _ _ HW3.out (by simp)).mono ?_
  rintro e w4 ⟨⟨p, n, c, rfl, ho⟩, hb4⟩
  have HB4 : Hid (Below w.heap.size w w4) := HB3.out.trans (hb4.mono HB3.out.size)
  have HW4 := Lib.hid (HW3.out.touch (Turns.of_below (S := fun _ => False) hb4) (fun _ _ h => h))
  clear ho hb4
  go_wp2_with fail
  refine (len_any _ _ _ _ _ _ HW4.out).mono ?_
  rintro e w' ⟨rfl, rfl⟩
  go_wp2_with fail
  go_ret
  exact ⟨rfl, HB4.out⟩

/-- what a call of the statement is -/
structure OpD where
  kind : Int
  a : Int
  n : Nat
  b : List UInt8
  id : List UInt8
  ids : List (List UInt8)
/-- an Op by its cells -/
structure OpAt (w : World) (cs : List Value) (o : OpD) : Prop where
  form : ∃ pb nb cb pl nl cl, cs = [.int .i64 o.kind, .int .i64 o.a, .int .u64 (o.n : Int), .slice pb nb cb] ++ bytesV o.id ++ [.slice pl nl cl] ∧ Bs w pb nb cb o.b ∧ Is w pl nl cl 32 o.ids
  idlen : o.id.length = 32
  kindB : -9223372036854775808 ≤ o.kind ∧ o.kind ≤ 9223372036854775807
  aB : -9223372036854775808 ≤ o.a ∧ o.a ≤ 9223372036854775807
  nB : o.n < 18446744073709551616
theorem OpAt.below {w w' : World} {cs : List Value} {o : OpD} (h : OpAt w cs o) (hb : Below w.heap.size w w') : OpAt w' cs o := by
  obtain ⟨pb, nb, cb, pl, nl, cl, h1, h2, h3⟩ := h.form
  exact ⟨⟨pb, nb, cb, pl, nl, cl, h1, h2.below hb, h3.below hb⟩, h.idlen, h.kindB, h.aB, h.nB⟩

/-- the cells of a kept ask -/
theorem OpAt.row {w : World} {cs : List Value} {o : OpD} (h : OpAt w cs o) :
    ∃ pb nb cb pl nl cl, cs.length = 37 ∧ cs[0]? = some (.int .i64 o.kind) ∧ cs[1]? = some (.int .i64 o.a) ∧ cs[2]? = some (.int .u64 (o.n : Int)) ∧ cs[3]? = some (.slice pb nb cb) ∧ cs[36]? = some (.slice pl nl cl) ∧
      (cs.drop 4).take 32 = bytesV o.id ∧ Bs w pb nb cb o.b ∧ Is w pl nl cl 32 o.ids := by
  obtain ⟨pb, nb, cb, pl, nl, cl, rfl, h2, h3⟩ := h.form
  have hl := bytesV_length o.id
  have hi := h.idlen
  refine ⟨pb, nb, cb, pl, nl, cl, by simp [hl, hi], rfl, rfl, rfl, rfl, ?_, ?_, h2, h3⟩
  · rw [List.getElem?_append_right (by simp [hl, hi])]; simp [hl, hi]
  · rw [List.drop_append_of_le_length (by simp), List.take_append_of_le_length (by simp [hl, hi])]
    simp only [List.drop_succ_cons, List.drop_zero, List.cons_append, List.nil_append]
    exact List.take_of_length_le (by omega)

theorem split6 (cs : List Value) (h : cs.length = 37) : cs = (cs.drop 0).take 1 ++ ((cs.drop 1).take 1 ++ ((cs.drop 2).take 1 ++ ((cs.drop 3).take 1 ++ ((cs.drop 4).take 32 ++ (cs.drop 36).take 1)))) := by
  have cut : ∀ k n : Nat, (cs.drop k).take n ++ cs.drop (k + n) = cs.drop k := fun k n => by rw [← List.drop_drop, List.take_append_drop]
  have h36 : (cs.drop 36).take 1 = cs.drop 36 := List.take_of_length_le (by simp [h])
  rw [h36, cut 4 32, cut 3 1, cut 2 1, cut 1 1, cut 0 1, List.drop_zero]

set_option maxRecDepth 100000 in
/-- an Op that came in, by its cells -/
theorem trod_op {W : World} {H : Type} {enc : TypeId × Value → H} {base fuel : Nat} {held : Bool} {cs : List Value} {x : DataW H × List MemPlace}
    (h : DataW.trod enc Tryd.prog W base (fun _ => true) held fuel 66 cs = some x) :
    ∃ o : OpD, OpAt W cs o ∧ ∃ d0 d1 d2 d3 d4 d5, x.1 = .agg [d0, d1, d2, d3, d4, d5] ∧ dlen d3 = o.b.length ∧ dlen d5 = o.ids.length := by
  obtain ⟨xs, m, rfl, rfl, hl, hxl, hx⟩ := DataW.trod_struct Tryd.underlying66 h
  have hl' : cs.length = 37 := by rw [hl]; kernel_rfl
  have hxl' : xs.length = 6 := by rw [hxl]; rfl
  match xs, hxl' with
  | [x0, x1, x2, x3, x4, x5], _ =>
    have h0 := hx 0 _ rfl
    have h1 := hx 1 _ rfl
    have h2 := hx 2 _ rfl
    have h3 := hx 3 _ rfl
    have h4 := hx 4 _ rfl
    have h5 := hx 5 _ rfl
    obtain ⟨z0, e0, _, w0⟩ := DataW.trod_int Tryd.underlying3 h0
    obtain ⟨z1, e1, _, w1⟩ := DataW.trod_int Tryd.underlying3 h1
    obtain ⟨z2, e2, _, w2⟩ := DataW.trod_int Tryd.underlying22 h2
    obtain ⟨p3, n3, c3, l3, e3, b3, dl3⟩ := trod_bs Tryd.underlying25 Tryd.underlying5 rfl h3
    obtain ⟨z4, e4, hz4, w4⟩ := trod_nums Tryd.underlying55 Tryd.underlying5 rfl rfl h4
    obtain ⟨p5, n5, c5, ids, e5, i5, dl5⟩ := trod_is Tryd.underlying51 Tryd.underlying55 Tryd.underlying5 rfl rfl (by decide) h5
    obtain ⟨k2, rfl, hk2⟩ := u64_nat w2
    obtain ⟨id, rfl⟩ := u8_of_list z4 w4
    refine ⟨⟨z0, z1, k2, l3, id, ids⟩, ⟨⟨p3, n3, c3, p5, n5, c5, ?_, b3, i5⟩, by simpa using hz4, i64_bd w0, i64_bd w1, hk2⟩, x0.1, x1.1, x2.1, x3.1, x4.1, x5.1, rfl, by rw [dl3, b3.length], by rw [dl5, i5.count]⟩
    have hs := split6 cs hl'
    have e0' : (cs.drop 0).take 1 = [.int .i64 z0] := e0
    have e1' : (cs.drop 1).take 1 = [.int .i64 z1] := e1
    have e2' : (cs.drop 2).take 1 = [.int .u64 (k2 : Int)] := e2
    have e3' : (cs.drop 3).take 1 = [.slice p3 n3 c3] := e3
    have e4' : (cs.drop 4).take 32 = bytesV id := by rw [show (cs.drop 4).take 32 = _ from e4]; simp [bytesV]
    have e5' : (cs.drop 36).take 1 = [.slice p5 n5 c5] := e5
    rw [e0', e1', e2', e3', e4', e5'] at hs
    rw [hs]; simp

end Go.Proofs.YtbfddfmglkhimaaDoor.W10
