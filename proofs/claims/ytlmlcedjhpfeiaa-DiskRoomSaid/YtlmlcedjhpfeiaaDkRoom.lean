/- LAYER 18: the walk of DiskRoom, whole. Conditions: none. -/
import Derived.Test.YtlmlcedjhpfeiaaDkPlay2
import Derived.Test.YtlmlcedjhpfeiaaDkKeepsP
import Derived.Test.YtlmlcedjhpfeiaaDkRoomP
import Derived.Test.YtlmlcedjhpfeiaaDkOpen
namespace Go.Proofs.Ytlmlcedjhpfeiaa.Dk
open Go.RowKit Go.Mir Go.Mir.Parts

/-- one of the calls -/
theorem DOps.one {w : World} {b o n c : Nat} {os : List DOp} {rows : List (List Value)} (h : DOps w (some ⟨b, o, none⟩) n c os rows) (k : Nat) (hk : k < os.length) : ∃ r, DOps w (some ⟨b, o + k * 5, none⟩) 1 (c - k) [os[k]] [r] := by
  have hkr : k < rows.length := by rw [h.rs.count, ← h.count]; exact hk
  have hl := h.rs.each _ (List.getElem_mem hkr)
  have hle := h.rs.sl.le
  have hmax := h.rs.sl.max
  have hc := h.count
  refine ⟨rows[k], ⟨⟨?_, by omega, by omega, fun h => (by cases h), fun a ha j u hu => ?_⟩, fun r hr => ?_, rfl⟩, rfl, fun i r o h1 h2 => ?_⟩
  · simp [hl]
  · obtain rfl := Option.some.inj ha
    rw [add_none]
    refine h.rs.row k hkr j u ?_
    simpa using hu
  · rw [List.mem_singleton] at hr; rw [hr]; exact hl
  · match i with
    | 0 =>
      cases h1; cases h2
      exact h.each k _ _ (List.getElem?_eq_getElem hkr) (List.getElem?_eq_getElem hk)
    | i + 1 => simp at h1
theorem DAt.oks {w : World} {base db : Nat} {vs : List FV} {d : DD} (h : DAt w base db vs d) : ∀ f ∈ d.fs, f.Ok := fun f hf => by
  obtain ⟨i, hi⟩ := List.mem_iff_getElem?.1 hf
  have hlt := (List.getElem?_eq_some_iff.1 hi).1
  have hv : i < vs.length := by have := h.n3; have := h.m3; omega
  exact (h.each i _ f (List.getElem?_eq_getElem hv) hi).ok
theorem sizeL_three {l : List FD} (h : l.length = 3) : ∃ (h0 : 0 < l.length) (h1 : 1 < l.length) (h2 : 2 < l.length), sizeL l = l[0].now.length + l[1].now.length + l[2].now.length := by
  obtain ⟨a, b, c, rfl⟩ := list3 h
  refine ⟨show 0 < 3 by decide, show 1 < 3 by decide, show 2 < 3 by decide, ?_⟩
  show a.now.length + (b.now.length + (c.now.length + 0)) = a.now.length + b.now.length + c.now.length
  omega
theorem playD_room : ∀ (l : List DOp) (d : DD), (playD d l).room = d.room
  | [], _ => rfl
  | o :: r, d => by
    rw [playD, playD_room r]
    have hb : ∀ x : DD, x.burn.room = x.room := fun x => by unfold DD.burn; split <;> rfl
    have hdo : ∀ (i : Nat) (f : FD) (s : St), (doD d i f s).room = d.room := fun i f s => by
      unfold doD
      split
      · rfl
      · split
        · rfl
        · rw [hb]; rfl
    have hsy : ∀ (i : Nat) (f : FD), (syncD d i f).room = d.room := fun i f => by
      unfold syncD
      split
      · rfl
      · split
        · exact hb d
        · exact hb d
    unfold opD
    split
    · unfold putD; split
      · split
        · exact hdo _ _ _
        · rfl
      · rfl
    · split
      · unfold cutD; split
        · split
          · split
            · exact hdo _ _ _
            · rfl
          · rfl
        · rfl
      · split
        · unfold synD; split
          · split
            · exact hsy _ _
            · rfl
          · rfl
        · split
          · rfl
          · split <;> rfl
theorem size_grow {w : World} {base db : Nat} {vs : List FV} {d : DD} (h : DAt w base db vs d) (k : Nat) (hk : k < d.fs.length) (y : Grown w) :
    Calls Try.prog 23 #[.pointer (some ⟨db, 0, none⟩), .int .i64 (k : Int)] y.v fun e w' => e = .returned (.int .i64 (d.fs[k].now.length : Int)) ∧ Below y.v.heap.size y.v w' := size_in y.v (h.below y.b) k hk
theorem usedd_grow {w : World} {base db : Nat} {vs : List FV} {d : DD} (h : DAt w base db vs d) (y : Grown w) :
    Calls Try.prog 22 #[.pointer (some ⟨db, 0, none⟩)] y.v fun e w' => e = .returned (.int .i64 (usedL d.fs : Int)) ∧ Below y.v.heap.size y.v w' := used_grow y.v (h.below y.b)
/-- sizes and needs, in the walk's spelling -/
theorem roomFacts (r s0 s1 s2 u x0 x1 x2 ux : Nat) (hr : r ≤ 65536) (h1 : u ≤ r) (h2 : s0 + s1 + s2 ≤ u) (h3 : ux ≤ u) (h4 : x0 + x1 + x2 = ux) :
    (decide ((r : Int) < (u : Int)) = false ∧ decide (r < u) = false) ∧ (IntKind.i64.wrap ((s0 : Int) + (s1 : Int)) = (s0 : Int) + (s1 : Int) ∧ IntKind.i64.wrap ((s0 : Int) + (s1 : Int) + (s2 : Int)) = (s0 : Int) + (s1 : Int) + (s2 : Int)) ∧ decide ((u : Int) < (s0 : Int) + (s1 : Int) + (s2 : Int)) = false ∧
    (decide ((u : Int) < (ux : Int)) = false ∧ decide (u < ux) = false) ∧ (IntKind.i64.wrap ((x0 : Int) + (x1 : Int)) = (x0 : Int) + (x1 : Int) ∧ IntKind.i64.wrap ((x0 : Int) + (x1 : Int) + (x2 : Int)) = (x0 : Int) + (x1 : Int) + (x2 : Int)) ∧ ((x0 : Int) + (x1 : Int) + (x2 : Int) == (ux : Int)) = true ∧ ((x0 : Int) + (x1 : Int) + (x2 : Int) != (ux : Int)) = false := by
  have e : (x0 : Int) + (x1 : Int) + (x2 : Int) = (ux : Int) := by omega
  refine ⟨⟨decide_eq_false (by omega), decide_eq_false (by omega)⟩, ⟨IntWalk.i64_in _ (by omega), IntWalk.i64_in _ (by omega)⟩, decide_eq_false (by omega), ⟨decide_eq_false (by omega), decide_eq_false (by omega)⟩, ⟨IntWalk.i64_in _ (by omega), IntWalk.i64_in _ (by omega)⟩, ?_, ?_⟩
  · rw [e]; exact beq_self_eq_true _
  · rw [e]; simp

set_option maxRecDepth 100000 in
set_option maxHeartbeats 3200000 in
theorem law_room (room : Int) (hroom : -9223372036854775808 ≤ room ∧ room ≤ 9223372036854775807) (p : Option Addr) (c : Nat) (os : List DOp) (rows : List (List Value)) (W : World) (hO : DOps W p os.length c os rows) (hos : os.length ≤ 2199023255552)
    (hbl : ∀ o ∈ os, o.b.length ≤ 140737488355328 ∧ o.us.length ≤ 140737488355328) (u0 u1 u2 : Int) (hun : ∀ x ∈ [u0, u1, u2], -9223372036854775808 ≤ x ∧ x ≤ 9223372036854775807) :
    Calls Try.prog 5 #[.agg #[.int .i64 room, .slice p os.length c], .agg #[.int .i64 u0, .int .i64 u1, .int .i64 u2]] W fun e w' => e = .returned (.bool true) ∧ Below W.heap.size W w' := by
  have HO := Lib.hid hO
  have HBLL := Lib.hid hbl
  have HOS := Lib.hid hos
  have HUN := Lib.hid hun
  have hle := hO.rs.sl.le
  have hmax := hO.rs.sl.max
  obtain ⟨W1, hW1⟩ : ∃ W1, W1 = W.alloc (.cells #[.int .i64 room, .slice p os.length c] 37) := ⟨_, rfl⟩
  have hbx1 : Below W.heap.size W W1 := by rw [hW1]; exact Below.allocs W _
  have hrow1 : W1.heap[W.heap.size]? = some (.cells #[.int .i64 room, .slice p os.length c] 37 (0, 0)) := by rw [hW1]; exact heap_alloc_last _ _
  have hsz1 : W1.heap.size = W.heap.size + 1 := by rw [hW1]; simp
  have hbx2 := Below.allocs W1 (.cells #[.int .i64 u0, .int .i64 u1, .int .i64 u2] 42)
  have HBX := Lib.hid (hbx1.trans (hbx2.mono hbx1.size))
  have hrow := Below.keepOld hbx2 hrow1
  have hns := ns_lit W1 42 [u0, u1, u2] (show 3 ≤ 65536 by decide) hun
  rw [show (([u0, u1, u2] : List Int).map (Value.int .i64)).toArray = #[.int .i64 u0, .int .i64 u1, .int .i64 u2] from rfl] at hns
  have HC0 : Hid ((W1.alloc (.cells #[.int .i64 u0, .int .i64 u1, .int .i64 u2] 42)).cell? ⟨W.heap.size, 0, none⟩ = some (.int .i64 room)) := by show _ = _; rw [cell_of_row _ _ _ _ _ _ hrow]; rfl
  have HC1 : Hid ((W1.alloc (.cells #[.int .i64 u0, .int .i64 u1, .int .i64 u2] 42)).cell? ⟨W.heap.size, 1, none⟩ = some (.slice p os.length c)) := by show _ = _; rw [cell_of_row _ _ _ _ _ _ hrow]; rfl
  have HNS := Lib.hid hns
  rw [hsz1] at HNS
  rw [hW1] at HNS HC0 HC1 HBX
  clear hO hbl hos hun hbx1 hbx2 hrow hrow1 hns hW1 hsz1 W1
  by_cases hr : 1 ≤ room ∧ room ≤ 65536
  · obtain ⟨r, rfl⟩ : ∃ r : Nat, room = (r : Int) := ⟨room.toNat, by omega⟩
    have hr' : 1 ≤ r ∧ r ≤ 65536 := by omega
    have HR := Lib.hid hr'
    clear hr hroom
    go_enter Try.func5, Try.ntmps5
    go_wp2_with fail
    refine (new_any r _ HR.out).mono ?_
    rintro e w1 ⟨db, vs, rfl, hd1, hb1⟩
    have HLT : Hid (W.heap.size + 1 < ((W.alloc (.cells #[.int .i64 (r : Int), .slice p os.length c] 37)).alloc (.cells #[.int .i64 u0, .int .i64 u1, .int .i64 u2] 42)).heap.size) := by show _ < _; simp
    generalize (W.alloc (.cells #[.int .i64 (r : Int), .slice p os.length c] 37)).alloc (.cells #[.int .i64 u0, .int .i64 u1, .int .i64 u2] 42) = w0 at *
    have HBW1 := Lib.hid (HBX.out.trans (hb1.mono HBX.out.size))
    have HC11 := Lib.hid (cell_below HC1.out hb1)
    have HC01 := Lib.hid (cell_below HC0.out hb1)
    have HNS1 := Lib.hid (HNS.out.below hb1)
    have HD1 := Lib.hid hd1
    have HSZ1 := Lib.hid hb1.size
    have hcc := HC11.out
    clear hd1 hb1 hr'
    go_wp2_with fail
    refine (small_any os p c rows w1 (HO.out.below HBW1.out) HBLL.out).mono ?_
    rintro e w2 ⟨sb, rfl, hb2⟩
    have HBL0 := Lib.hid (HBW1.out.trans (hb2.mono HBW1.out.size))
    have HD2 := Lib.hid (HD1.out.below hb2)
    have HC12 := Lib.hid (cell_below HC11.out hb2)
    have HC02 := Lib.hid (cell_below HC01.out hb2)
    have HNS2 := Lib.hid (HNS1.out.below hb2)
    have HSZ2 := Lib.hid (Nat.le_trans HSZ1.out hb2.size)
    clear hb2 hcc HC11 HC01 HNS1 HC1 HC0 HNS HD1 HBW1
    have hcc := HC12.out
    cases sb with
    | false =>
      go_wp2_with fail
      refine (alive_any _).mono ?_
      rintro e w99 ⟨rfl, hb99⟩
      have HB99 := Lib.hid (HBL0.out.trans (hb99.mono HBL0.out.size))
      clear hb99
      go_wp2_with fail
      go_ret
      exact ⟨rfl, HB99.out⟩
    | true =>
      go_wp2_with fail
      clear hcc
      go_loopw [27] (fun j wr => ∃ k : Nat, k ≤ os.length ∧ j = .int .i64 k ∧ LeftD w0.heap.size db vs (playD (DD.new r) (os.take k)) w2 wr) (fun j _ => os.length - (intOf j).toNat)
      case atStart => exact ⟨0, by omega, rfl, vs, by rw [List.take_zero]; exact HD2.out, Turns.refl _ _, fun k hk => .inl hk⟩
      case round =>
        obtain ⟨k, hk, rfl, hl0⟩ := hrel
        obtain ⟨vs3, hd3, ht3, hn3⟩ := hl0
        have HBL3 := Lib.hid (Turns.belowW HBL0.out HD2.out HBX.out.size ht3)
        have HSZ3 := Lib.hid (Nat.le_trans HSZ2.out ht3.size)
        have HD3 := Lib.hid hd3
        have HT3 := Lib.hid ht3
        have HN3 := Lib.hid hn3
        have hb3 := ht3.below HSZ2.out (fun i hi => (HD2.out.ownLt i hi).1)
        have hsz0 : W.heap.size + 1 < w0.heap.size := HLT.out
        have HC13 : Hid (wr.cell? ⟨W.heap.size, 1, none⟩ = some (.slice p os.length c)) := by show _ = _; rw [hb3.cell (by show W.heap.size < _; omega)]; exact HC12.out
        clear hd3 ht3 hn3 hb3 hsz0
        by_cases hlt : k < os.length
        · have hdl : decide ((k : Int) < (os.length : Int)) = true := decide_eq_true (by omega)
          have hdl2 : decide (k < os.length) = true := decide_eq_true hlt
          obtain ⟨b, o, rfl⟩ := HO.out.rs.sl.addr (by omega) (by omega)
          obtain ⟨r1, hO1⟩ := HO.out.one k hlt
          have HO1 := Lib.hid hO1
          have HB1L : Hid (∀ o ∈ [os[k]], o.b.length ≤ 140737488355328) := fun o ho => by
            rw [List.mem_singleton] at ho
            rw [ho]; exact (HBLL.out _ (List.getElem_mem hlt)).1
          have HF1 : Hid (FewD (playD (DD.new r) (os.take k)) k) := by
            have := FewD.playD (os.take k) (d := DD.new r) (N := 0) (fun f hf => by
              have hf' : f ∈ [FD.none, FD.none, FD.none] := hf
              have : f = FD.none := by simpa using hf'
              subst this
              exact Nat.le_refl _)
            rw [List.length_take, Nat.zero_add, Nat.min_eq_left hk] at this
            exact this
          have HPT : Hid (playD (DD.new r) (os.take (k + 1)) = playD (playD (DD.new r) (os.take k)) [os[k]]) := playD_take os (DD.new r) k hlt
          have HPL := Lib.hid (play_any W wr HBL3.out HD3.out HBX.out.size HSZ3.out [os[k]] (some ⟨b, o + k * 5, none⟩) (c - k) [r1] HO1.out HB1L.out k HF1.out (by have := HOS.out; show k + 1 + 1 ≤ _; omega))
          have hcc := HC13.out
          clear hO1
          go_wp2_with fail
          clear hcc
          refine (HPL.out).mono ?_
          rintro e w4 ⟨rfl, hl4⟩
          rw [← HPT.out] at hl4
          obtain ⟨vs4, hd4, ht4, hn4⟩ := LeftD.trans HN3.out HT3.out hl4
          have hroomd : (playD (DD.new r) (os.take (k + 1))).room = r := playD_room _ _
          have hroomr := HR.out
          generalize hdk : playD (DD.new r) (os.take (k + 1)) = dk at *
          have HDK := Lib.hid hdk
          have HD4 := Lib.hid hd4
          have HT4 := Lib.hid ht4
          have HN4 := Lib.hid hn4
          have hb4 := ht4.below HSZ2.out (fun i hi => (HD2.out.ownLt i hi).1)
          have HBL4 := Lib.hid (Turns.belowW HBL0.out HD2.out HBX.out.size ht4)
          have HSZ4 := Lib.hid (Nat.le_trans HSZ2.out ht4.size)
          have hsz0 : W.heap.size + 1 < w0.heap.size := HLT.out
          have hc04 : w4.cell? ⟨W.heap.size, 0, none⟩ = some (.int .i64 (r : Int)) := by rw [hb4.cell (by show W.heap.size < _; omega)]; exact HC02.out
          have hns4 : Ns w4 (some ⟨W.heap.size + 1, 0, none⟩) 3 3 [u0, u1, u2] := ⟨HNS2.out.sl.below' hb4 (fun a ha => by obtain rfl := Option.some.inj ha; exact hsz0), HNS2.out.count, HNS2.out.bd⟩
          have HC04 := Lib.hid hc04
          have HNS4 := Lib.hid hns4
          have HSZ0 := Lib.hid hsz0
          have HCL := Lib.hid (clone_any w4 HD4.out HSZ4.out)
          clear hl4 hd4 ht4 hn4 hb4 hc04 hns4 hsz0 HPL HO1 HB1L HF1 HPT HC13
          go_wp2_with fail
          refine (HCL.out).mono ?_
          rintro e w5 ⟨nb, vsx, rfl, hdx, hb5, hown⟩
          have HDX := Lib.hid hdx
          have HB5 := Lib.hid hb5
          have HOWN := Lib.hid hown
          have HC05 := Lib.hid (cell_below HC04.out hb5)
          have HNS5 := Lib.hid (HNS4.out.below hb5)
          have HCR := Lib.hid (crash_any w5 HDX.out (Nat.le_trans HSZ4.out hb5.size) [u0, u1, u2] (some ⟨W.heap.size + 1, 0, none⟩) 3 HNS5.out (fun a ha => by
            obtain rfl := Option.some.inj ha
            have h1 := HSZ0.out
            have h2 := HSZ4.out
            have h3 := hb5.size
            exact ⟨fun hk => by have := HOWN.out _ hk; dsimp only at this; omega, by show W.heap.size + 1 < _; omega⟩))
          clear hdx hb5 hown HCL
          go_wp2_with fail
          refine (HCR.out).mono ?_
          rintro e w6 ⟨rfl, vsy, hdy, hty, hny⟩
          have HDY := Lib.hid hdy
          have hb6 := hty.below HB5.out.size (fun i hi => HOWN.out i hi)
          have HB46 := Lib.hid (HB5.out.trans hb6)
          have HD6 := Lib.hid (HD4.out.below HB46.out)
          have hc06 := cell_below HC04.out HB46.out
          have hgr := cell_grown hc06
          obtain ⟨g0, g1, g2, hsd⟩ := sizeL_three HD6.out.m3
          obtain ⟨y0, y1, y2, hsy⟩ := sizeL_three HDY.out.m3
          have HUD := Lib.hid (usedd_grow HD6.out)
          have HUX := Lib.hid (usedd_grow HDY.out)
          have HS0 := Lib.hid (size_grow HD6.out 0 g0)
          have HS1 := Lib.hid (size_grow HD6.out 1 g1)
          have HS2 := Lib.hid (size_grow HD6.out 2 g2)
          have HX0 := Lib.hid (size_grow HDY.out 0 y0)
          have HX1 := Lib.hid (size_grow HDY.out 1 y1)
          have HX2 := Lib.hid (size_grow HDY.out 2 y2)
          have hk1 := HD6.out.used
          rw [hroomd] at hk1
          have hk2 := sizeL_le dk.fs HD6.out.oks
          rw [hsd] at hk2
          have hk3 : usedL (crashD [u0, u1, u2] dk).fs ≤ usedL dk.fs := crF_used [u0, u1, u2] dk.fs 0 HD6.out.oks
          have hk4 : sizeL (crashD [u0, u1, u2] dk).fs = usedL (crashD [u0, u1, u2] dk).fs := sizeL_cr [u0, u1, u2] dk.fs 0
          rw [hsy] at hk4
          generalize usedL dk.fs = ud at *
          generalize usedL (crashD [u0, u1, u2] dk).fs = ux at *
          generalize (dk.fs[0]).now.length = s0 at *
          generalize (dk.fs[1]).now.length = s1 at *
          generalize (dk.fs[2]).now.length = s2 at *
          generalize ((crashD [u0, u1, u2] dk).fs[0]).now.length = x0 at *
          generalize ((crashD [u0, u1, u2] dk).fs[1]).now.length = x1 at *
          generalize ((crashD [u0, u1, u2] dk).fs[2]).now.length = x2 at *
          obtain ⟨⟨f1, f2⟩, ⟨f3, f4⟩, f5, ⟨f6, f7⟩, ⟨f8, f9⟩, f10, f11⟩ := roomFacts r s0 s1 s2 ud x0 x1 x2 ux hroomr.2 hk1 hk2 hk3 hk4
          clear hdy hty hny hb6 hk1 hk2 hk3 hk4 hsd hsy hroomd hroomr HCR hdk
          go_upto_region 12 with fail
          refine wp_region_grow (by kernel_rfl) (by kernel_rfl) ?_
          repeat (first
            | ((with_reducible refine wpQuietGd ?_); (with_reducible refine wpQuiet_skip ?_ ?_); (· rfl); simp only [Act.put, List.setIfInBounds_toArray, List.set_cons_zero, List.set_cons_succ])
            | quiet_step ((first | (go_at_call 22; with_reducible exact Calls.grow_of (HUD.out _)) | (go_at_call 22; with_reducible exact Calls.grow_of (HUX.out _)) | (go_at_call 23; with_reducible exact Calls.grow_of (HS0.out _)) | (go_at_call 23; with_reducible exact Calls.grow_of (HS1.out _)) | (go_at_call 23; with_reducible exact Calls.grow_of (HS2.out _)) | (go_at_call 23; with_reducible exact Calls.grow_of (HX0.out _)) | (go_at_call 23; with_reducible exact Calls.grow_of (HX1.out _)) | (go_at_call 23; with_reducible exact Calls.grow_of (HX2.out _)))))
          refine wpQuiet_nil ?_
          intro w7 hb7
          have HB47 := Lib.hid (HB46.out.trans (hb7.mono HB46.out.size))
          have HNX : Hid (LeftD w0.heap.size db vs (playD (DD.new r) (os.take (k + 1))) w2 w7) := by
            show LeftD _ _ _ _ _ _
            rw [HDK.out]
            exact ⟨vs4, HD4.out.below HB47.out, HT4.out.trans (Turns.of_below HB47.out) (fun _ _ h => h), HN4.out⟩
          clear hb7 hgr hc06 f1 f2 f3 f4 f5 f6 f7 f8 f9 f10 f11 HUD HUX HS0 HS1 HS2 HX0 HX1 HX2
          go_wp2_with fail
          go_roundw
          case rel => exact ⟨k + 1, by omega, by go_num, HNX.out⟩
          case measure => simp [intOf]; omega
        · have hdl : decide ((k : Int) < (os.length : Int)) = false := decide_eq_false (by omega)
          have hdl2 : decide (k < os.length) = false := decide_eq_false hlt
          have HBL0 := HBL3
          go_wp2_with fail
          refine (alive_any _).mono ?_
          rintro e w99 ⟨rfl, hb99⟩
          have HB99 := Lib.hid (HBL0.out.trans (hb99.mono HBL0.out.size))
          clear hb99
          go_wp2_with fail
          go_ret
          exact ⟨rfl, HB99.out⟩
  · have hbad : room < 1 ∨ 65536 < room := by omega
    have HBAD := Lib.hid hbad
    clear hr hroom hbad
    go_enter Try.func5, Try.ntmps5
    go_wp2_with fail
    refine (new_bad room _ HBAD.out).mono ?_
    rintro e w1 ⟨rfl, rfl⟩
    go_wp2_with fail
    refine (small_any os p c rows _ (HO.out.below HBX.out) HBLL.out).mono ?_
    rintro e w2 ⟨sb, rfl, hb2⟩
    have HBL0 := Lib.hid (HBX.out.trans (hb2.mono HBX.out.size))
    clear hb2
    cases sb with
    | false =>
      go_wp2_with fail
      refine (alive_any _).mono ?_
      rintro e w99 ⟨rfl, hb99⟩
      have HB99 := Lib.hid (HBL0.out.trans (hb99.mono HBL0.out.size))
      clear hb99
      go_wp2_with fail
      go_ret
      exact ⟨rfl, HB99.out⟩
    | true =>
      go_wp2_with fail
      refine (alive_any _).mono ?_
      rintro e w99 ⟨rfl, hb99⟩
      have HB99 := Lib.hid (HBL0.out.trans (hb99.mono HBL0.out.size))
      clear hb99
      go_wp2_with fail
      go_ret
      exact ⟨rfl, HB99.out⟩
end Go.Proofs.Ytlmlcedjhpfeiaa.Dk
