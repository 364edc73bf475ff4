/- A READER IN MEMORY, and what it holds, plain; new, none, At, Left, Fail. Conditions: none. -/
import Derived.Test.YtdaigkcbmdcbcaaDoorProg
import Derived.Test.YtdaigkcbmdcbcaaDoorIdv
import Derived.Test.YtdaigkcbmdcbcaaDoorStr
import Derived.Test.YtdaigkcbmdcbcaaDoorEager
import Derived.Deep.Upon
import Derived.Deep.Cut
import Derived.IntWalk
import Derived.Outline
namespace Go.Proofs.YtdaigkcbmdcbcaaDoor.Rdr
open Go.RowKit Go.Mir

/-! ### plain -/
structure RD where
  l : List UInt8
  pos : Nat
  bad : Option Int
def RD.fail (s : RD) (e : Int) : RD := if s.bad = none ∧ e ≠ 0 then ⟨s.l, s.pos, some e⟩ else s
def RD.takeB (s : RD) (n : Int) (fits : Bool) : List UInt8 := if s.bad = none ∧ fits = true ∧ 0 ≤ n ∧ n ≤ (s.l.length : Int) - (s.pos : Int) then (s.l.drop s.pos).take n.toNat else []
def RD.takeS (s : RD) (n : Int) (fits : Bool) : RD :=
  if s.bad ≠ none then s else if fits = false ∨ n < 0 then ⟨s.l, s.pos, some 1⟩ else if (s.l.length : Int) - (s.pos : Int) < n then ⟨s.l, s.pos, some 2⟩ else ⟨s.l, s.pos + n.toNat, none⟩
def RD.err (s : RD) : Int := s.bad.getD 0
def RD.new (l : List UInt8) : RD := ⟨l, 0, none⟩

/-! ### in memory -/
/-- bytes that are only read -/
def Rd (w : World) (base : Nat) (v : Value) (l : List UInt8) : Prop :=
  (v = .slice none 0 0 ∧ l = []) ∨ ∃ g cap cur, v = .slice (some ⟨g, 0, none⟩) l.length cap ∧ base ≤ g ∧ w.heap[g]? = some (.cells cur 5 (0, 0)) ∧ l.length ≤ cap ∧ cap ≤ maxLen ∧ l.length ≤ cur.size ∧ cur.toList.take l.length = bytesV l
theorem Rd.touch {S : Nat → Prop} {w w' : World} {base : Nat} {v : Value} {l : List UInt8} (h : Rd w base v l) (ht : Turns S w w') (hS : ∀ k M fr, w.heap[k]? = some (.cells M 5 fr) → ¬ S k) : Rd w' base v l := by
  rcases h with h | ⟨g, cap, cur, h1, h2, h3, h4⟩
  · exact .inl h
  · exact .inr ⟨g, cap, cur, h1, h2, ht.keep h3 (hS g cur _ h3), h4⟩
theorem Rd.below {w w' : World} {base : Nat} {v : Value} {l : List UInt8} (h : Rd w base v l) (hb : Below w.heap.size w w') : Rd w' base v l :=
  h.touch (Turns.of_below (S := fun _ => False) hb) (fun _ _ _ _ h => h)
theorem Rd.bs {w : World} {base : Nat} {v : Value} {l : List UInt8} (h : Rd w base v l) : ∃ p c, v = .slice p l.length c ∧ Bs w p l.length c l := by
  rcases h with ⟨rfl, rfl⟩ | ⟨g, cap, cur, rfl, hb, hg, hn, hm, hz, ht⟩
  · exact ⟨none, 0, rfl, Sl.nil _ _⟩
  · refine ⟨_, _, rfl, ⟨by rw [bytesV_length, Nat.mul_one], hn, by simpa [maxLen] using hm, fun h => (by cases h), fun a ha j u hu => ?_⟩⟩
    obtain rfl := Option.some.inj ha
    have hj : j < l.length := by
      have := (List.getElem?_eq_some_iff.1 hu).1
      rwa [bytesV_length] at this
    rw [add_none, Nat.zero_add, cell_of_row _ _ _ _ _ _ hg, ← Array.getElem?_toList]
    rw [← ht, List.getElem?_take, if_pos hj] at hu
    exact hu
theorem Rd.of_own {w : World} {base : Nat} {v : Value} {l : List UInt8} (h : w.ownsRow base 5 1 v l.length (bytesV l)) : Rd w base v l := by
  rcases h.2 with ⟨rfl, hn⟩ | ⟨g, cap, cur, rfl, hb, hg, hn, hm, hs, ht⟩
  · exact .inl ⟨rfl, List.length_eq_zero_iff.1 hn⟩
  · exact .inr ⟨g, cap, cur, rfl, hb, hg, hn, hm, by rw [hs]; omega, by rw [Nat.mul_one] at ht; exact ht⟩
theorem Rd.base {w : World} {base b2 : Nat} {v : Value} {l : List UInt8} (h : Rd w base v l) (hb : b2 ≤ base) : Rd w b2 v l := by
  rcases h with h | ⟨g, cap, cur, h1, h2, h3⟩
  · exact .inl h
  · exact .inr ⟨g, cap, cur, h1, Nat.le_trans hb h2, h3⟩
/-- some of the bytes -/
theorem Bs.part {w : World} {p : Option Addr} {n c : Nat} {l : List UInt8} (h : Bs w p n c l) (k m : Nat) (hk : k + m ≤ n) (hm : 0 < m) : ∃ b o, p = some ⟨b, o, none⟩ ∧ Bs w (some ⟨b, o + k, none⟩) m m ((l.drop k).take m) := by
  have hn := h.length
  obtain ⟨b, o, rfl⟩ := Sl.addr h (by omega) (by omega)
  have h1 := h.le
  have h2 := h.max
  refine ⟨b, o, rfl, ⟨by rw [bytesV_length, List.length_take, List.length_drop, Nat.mul_one]; omega, Nat.le_refl _, by omega, fun hp => (by cases hp), fun a ha j u hu => ?_⟩⟩
  obtain rfl := Option.some.inj ha
  have h1 : (bytesV l)[k + j]? = some u := by
    simp only [bytesV, List.getElem?_map, List.getElem?_take, List.getElem?_drop] at hu ⊢
    split at hu
    · exact hu
    · simp at hu
  have := h.cell _ rfl (k + j) u h1
  rw [add_none] at this ⊢
  rwa [Nat.add_assoc]
/-- the fault -/
def FaultAt (w : World) (base : Nat) : Option Int → Value → Prop
  | none, bv => bv = .nilIface
  | some e, bv => e ≠ 0 ∧ (-9223372036854775808 ≤ e ∧ e ≤ 9223372036854775807) ∧ ∃ fb a0, bv = .iface 92 (.pointer (some ⟨fb, 0, none⟩)) ∧ base ≤ fb ∧ w.heap[fb]? = some (.cells #[.int .i64 a0, .int .i64 e] 94 (0, 0))
theorem FaultAt.touch {S : Nat → Prop} {w w' : World} {base : Nat} {b : Option Int} {bv : Value} (h : FaultAt w base b bv) (ht : Turns S w w') (hS : ∀ k M fr, w.heap[k]? = some (.cells M 94 fr) → ¬ S k) : FaultAt w' base b bv := by
  cases b with
  | none => exact h
  | some e =>
    obtain ⟨h1, h2, fb, a0, h3, h4, h5⟩ := h
    exact ⟨h1, h2, fb, a0, h3, h4, ht.keep h5 (hS _ _ _ h5)⟩
def rA (v : Value) (pos : Nat) (bv : Value) : Array Value := #[.bool true, v, .int .i64 (pos : Int), bv]
structure RIn (w : World) (base rb : Nat) (v bv : Value) (s : RD) : Prop where
  row : w.heap[rb]? = some (.cells (rA v s.pos bv) 85 (0, 0))
  low : base ≤ rb
  bytes : Rd w base v s.l
  fault : FaultAt w base s.bad bv
  at1 : s.pos ≤ s.l.length
  len : s.l.length ≤ 140737488355328
def RAt (w : World) (base rb : Nat) (s : RD) : Prop := ∃ v bv, RIn w base rb v bv s
theorem RIn.below {w w' : World} {base rb : Nat} {v bv : Value} {s : RD} (h : RIn w base rb v bv s) (hb : Below w.heap.size w w') : RIn w' base rb v bv s :=
  ⟨Below.keepOld hb h.row, h.low, h.bytes.below hb, h.fault.touch (Turns.of_below (S := fun _ => False) hb) (fun _ _ _ _ h => h), h.at1, h.len⟩
theorem RAt.below {w w' : World} {base rb : Nat} {s : RD} (h : RAt w base rb s) (hb : Below w.heap.size w w') : RAt w' base rb s := by
  obtain ⟨v, bv, h⟩ := h
  exact ⟨v, bv, h.below hb⟩
theorem RIn.lt {w : World} {base rb : Nat} {v bv : Value} {s : RD} (h : RIn w base rb v bv s) : rb < w.heap.size := (Array.getElem?_eq_some_iff.1 h.row).1
theorem RIn.no8 {w : World} {base rb : Nat} {v bv : Value} {s : RD} (h : RIn w base rb v bv s) : ∀ k M fr, w.heap[k]? = some (.cells M 5 fr) → ¬ k = rb := fun k M fr hk e => by
  subst e
  rw [h.row] at hk
  injection hk with e1
  injection e1 with _ e2
  exact absurd e2 (by decide)
theorem RIn.noF {w : World} {base rb : Nat} {v bv : Value} {s : RD} (h : RIn w base rb v bv s) : ∀ k M fr, w.heap[k]? = some (.cells M 94 fr) → ¬ k = rb := fun k M fr hk e => by
  subst e
  rw [h.row] at hk
  injection hk with e1
  injection e1 with _ e2
  exact absurd e2 (by decide)
theorem RIn.cells {w : World} {base rb : Nat} {v bv : Value} {s : RD} (h : RIn w base rb v bv s) : w.cell? ⟨rb, 0, none⟩ = some (.bool true) ∧ w.cell? ⟨rb, 1, none⟩ = some v ∧ w.cell? ⟨rb, 2, none⟩ = some (.int .i64 (s.pos : Int)) ∧ w.cell? ⟨rb, 3, none⟩ = some bv ∧ ∀ j, w.frozen? ⟨rb, j, none⟩ = false := by
  refine ⟨?_, ?_, ?_, ?_, fun j => ?_⟩
  · rw [cell_of_row _ _ _ _ _ _ h.row]; rfl
  · rw [cell_of_row _ _ _ _ _ _ h.row]; rfl
  · rw [cell_of_row _ _ _ _ _ _ h.row]; rfl
  · rw [cell_of_row _ _ _ _ _ _ h.row]; rfl
  · simp [World.frozen?, h.row]
/-- what a call leaves of a reader -/
structure LeftR (base rb : Nat) (s' : RD) (w w' : World) : Prop where
  there : RAt w' base rb s'
  turn : Turns (fun k => k = rb) w w'
  same1 : w'.cell? ⟨rb, 1, none⟩ = w.cell? ⟨rb, 1, none⟩
theorem LeftR.same {w w' : World} {base rb : Nat} {s : RD} (h : RAt w base rb s) (hb : Below w.heap.size w w') : LeftR base rb s w w' := ⟨h.below hb, Turns.of_below hb, by
  obtain ⟨v, bv, h⟩ := h
  rw [h.cells.2.1]
  exact (h.below hb).cells.2.1⟩
theorem LeftR.trans {w w1 w2 : World} {base rb : Nat} {s1 s2 : RD} (h : LeftR base rb s1 w w1) (h2 : LeftR base rb s2 w1 w2) : LeftR base rb s2 w w2 := ⟨h2.there, h.turn.trans h2.turn (fun _ _ h => h), h2.same1.trans h.same1⟩
theorem LeftR.belowB {w w' : World} {base rb B : Nat} {s s' : RD} (h0 : RAt w base rb s) (hB : B ≤ base) (h : LeftR base rb s' w w') : Below B w w' := by
  obtain ⟨v, bv, h0⟩ := h0
  exact h.2.below (by have := h0.lt; have := h0.low; omega) (fun i hi => by have := h0.low; omega)

theorem RAt.turnLow {S : Nat → Prop} {w w' : World} {base rb : Nat} {s : RD} (h : RAt w base rb s) (ht : Turns S w w') (hS : ∀ k, S k → k < base) : RAt w' base rb s := by
  obtain ⟨v, bv, h⟩ := h
  refine ⟨v, bv, ht.keep h.row (fun hs => by have := hS _ hs; have := h.low; omega), h.low, ?_, ?_, h.at1, h.len⟩
  · rcases h.bytes with h1 | ⟨g, cap, cur, h1, h2, h3, h4⟩
    · exact .inl h1
    · exact .inr ⟨g, cap, cur, h1, h2, ht.keep h3 (fun hs => by have := hS _ hs; omega), h4⟩
  · have h1 := h.fault
    cases hb : s.bad with
    | none => rw [hb] at h1; exact h1
    | some e =>
      rw [hb] at h1
      obtain ⟨h2, h3, fb, a0, h4, h5, h6⟩ := h1
      exact ⟨h2, h3, fb, a0, h4, h5, ht.keep h6 (fun hs => by have := hS _ hs; omega)⟩
/-- what is made behind a call is no part of the reader: its bytes lie where they lay -/
theorem RAt.turnNew {S : Nat → Prop} {w w1 w' : World} {base rb : Nat} {s s' : RD} (h0 : RAt w base rb s) (h : LeftR base rb s' w w1) (ht : Turns S w1 w') (hS : ∀ k M t fr, S k → w1.heap[k]? = some (.cells M t fr) → t = 5 ∧ w.heap.size ≤ k) : RAt w' base rb s' := by
  have hl := h
  obtain ⟨v0, bv0, h0⟩ := h0
  obtain ⟨v, bv, h1⟩ := h.there
  have hv : v = v0 := by
    have e1 := h1.cells.2.1
    rw [hl.same1, h0.cells.2.1] at e1
    exact (Option.some.inj e1).symm
  subst hv
  have hrow := ht.keep h1.row (fun hs => by have := (hS _ _ _ _ hs h1.row).1; revert this; decide)
  refine ⟨v, bv, hrow, h1.low, ?_, ?_, h1.at1, h1.len⟩
  · rcases h1.bytes with h2 | ⟨g, cap, cur, e1, e2, e3, e4⟩
    · exact .inl h2
    · refine .inr ⟨g, cap, cur, e1, e2, ht.keep e3 (fun hs => ?_), e4⟩
      have h3 := (hS _ _ _ _ hs e3).2
      rcases h0.bytes with ⟨h2, _⟩ | ⟨g', cap', cur', f1, f2, f3, f4⟩
      · rw [e1] at h2; cases h2
      · rw [e1] at f1
        obtain ⟨h4, _, _⟩ := Value.slice.inj f1
        have h5 : g = g' := congrArg (fun a : Option Addr => (a.getD ⟨0, 0, none⟩).block) h4
        have h6 := (Array.getElem?_eq_some_iff.1 f3).1
        omega
  · have h2 := h1.fault
    cases hb : s'.bad with
    | none => rw [hb] at h2; exact h2
    | some e =>
      rw [hb] at h2
      obtain ⟨g1, g2, fb, a0, g3, g4, g5⟩ := h2
      exact ⟨g1, g2, fb, a0, g3, g4, ht.keep g5 (fun hs => by have := (hS _ _ _ _ hs g5).1; revert this; decide)⟩
/-! ### walks -/
theorem none_any {base rb : Nat} {s : RD} (w : World) (h : RAt w base rb s) : Calls Tryd.prog 55 #[.pointer (some ⟨rb, 0, none⟩)] w fun e w' => e = .returned (.bool false) ∧ w = w' := by
  obtain ⟨v, bv, h⟩ := h
  have hc := h.cells.1
  clear h
  go_enter Tryd.func55, Tryd.ntmps55
  go_wp2_with fail
  go_ret
  exact ⟨rfl, rfl⟩
theorem build_reader (p : Option Addr) (n c : Nat) : Tryd.prog.built 85 [(0, .bool true), (1, .slice p n c)] = some #[.bool true, .slice p n c, .int .i64 0, .nilIface] := by kernel_rfl
theorem info8 : (Tryd.prog.info? 5).map (fun i => (i.zero, i.size, i.bytes)) = some (some (.int .u8 0), 1, 1) := by kernel_rfl
theorem wpList_build {P : Program} {w : World} {ops : Array Oper} {rest : List Oper} {o : Oper} {a : Act} {Q : Exit → Act → World → Prop} (hgd : o.guard = none) (t : TypeId) (parts : Array (Nat × Operand)) (ho : o.op = .build t parts)
    (vals : List (Nat × Value)) (hv : (parts.toList.map fun p => (p.1, a.eval p.2)) = vals) (cells : Array Value) (h : P.built t vals = some cells) (k : wpList P ops Q rest (a.put o.dst (.agg cells)) w) : wpList P ops Q (o :: rest) a w := by
  refine wpList_plain hgd fun K hK => ?_
  unfold Oper.wp execOp
  have hb : P.built t (parts.map fun p => (p.1, a.eval p.2)).toList = some cells := by rw [Array.toList_map, hv]; exact h
  simp only [ho, Sem.run_bind, Sem.run_pure, Result.andThen_ok, run_build w t _ cells hb]
  exact hK _ _ k
def NewP (l : List UInt8) (w : World) (e : Ending) (w' : World) : Prop := ∃ rb, e = .returned (.pointer (some ⟨rb, 0, none⟩)) ∧ RAt w' w.heap.size rb (RD.new l) ∧ Below w.heap.size w w'
set_option maxRecDepth 100000 in
theorem new_any (w : World) (p : Option Addr) (n c : Nat) (l : List UInt8) (hb : Bs w p n c l) (hn : n ≤ 140737488355328) : Calls Tryd.prog 35 #[.slice p n c] w (NewP l w) := by
  have HBS := Lib.hid hb
  have hle := hb.le
  have hmax := hb.max
  have HLN := Lib.hid hb.length
  clear hb
  go_enter Tryd.func35, Tryd.ntmps35
  go_wp2_with (refine wpList_append_nx rfl _ _ 29 rfl (base := w.heap.size) Tryd.underlying29 info8 rfl (by omega) rfl (World.ownsRow_nil _ _ _ _) rfl HBS.out (bytesV_one _) ⟨by omega, by omega⟩ (Nat.le_refl _) ?_)
  intro p9 c9 w9 ho9 hg9 _ _
  have HB9 : Hid (Below w.heap.size w w9) := (Below.refl _ _).grown hg9 (Nat.le_refl _) (fun k hk => by simp [Value.ownBlock] at hk)
  have HR9 : Hid (Rd w9 w.heap.size (.slice p9 n c9) l) := by
    have := ho9
    rw [← HLN.out] at this ⊢
    exact Rd.of_own this
  have HBX := Lib.hid (Below.allocs w9 (.cells (rA (.slice p9 n c9) 0 .nilIface) 85))
  have HFIN : Hid (NewP l w (.returned (.pointer (some ⟨w9.heap.size, 0, none⟩))) (w9.alloc (.cells (rA (.slice p9 n c9) 0 .nilIface) 85))) :=
    ⟨_, rfl, ⟨_, _, ⟨heap_alloc_last _ _, HB9.out.size, HR9.out.below HBX.out, rfl, Nat.zero_le _, by show l.length ≤ _; rw [HLN.out]; exact hn⟩⟩, HB9.out.trans (HBX.out.mono HB9.out.size)⟩
  clear ho9 hg9
  go_wp2_with ((with_reducible refine wpAt 5 ?_); refine wpList_build rfl 85 _ rfl [(0, .bool true), (1, .slice p9 n c9)] rfl _ (build_reader _ _ _) ?_)
  go_ret
  exact HFIN.out
theorem left_any {base rb : Nat} {s : RD} (w : World) (h : RAt w base rb s) : Calls Tryd.prog 56 #[.pointer (some ⟨rb, 0, none⟩)] w fun e w' => e = .returned (.int .i64 ((s.l.length - s.pos : Nat) : Int)) ∧ Below w.heap.size w w' := by
  have H := Lib.hid h
  obtain ⟨v, bv, h⟩ := h
  obtain ⟨_, hc1, hc2, _, _⟩ := h.cells
  obtain ⟨p, c, hv, hbs⟩ := h.bytes.bs
  rw [hv] at hc1
  have hg1 := cell_grown hc1
  have hg2 := cell_grown hc2
  have hat := h.at1
  have hlen := h.len
  have hle := hbs.le
  have hmax := hbs.max
  have hsub : (s.l.length : Int) - (s.pos : Int) = ((s.l.length - s.pos : Nat) : Int) := by omega
  have hw1 : IntKind.i64.wrap ((s.l.length : Int) - (s.pos : Int)) = ((s.l.length - s.pos : Nat) : Int) := by rw [hsub]; exact IntWalk.i64_in _ (by omega)
  have hw2 : IntKind.i64.wrap ((s.l.length - s.pos : Nat) : Int) = ((s.l.length - s.pos : Nat) : Int) := IntWalk.i64_in _ (by omega)
  clear h hv hbs
  go_enter Tryd.func56, Tryd.ntmps56
  go_wp2_with fail
  refine (none_any w H.out).mono ?_
  rintro e w' ⟨rfl, rfl⟩
  go_upto_region 3 with fail
  refine wp_region_grow (by kernel_rfl) (by kernel_rfl) ?_
  repeat (first
    | ((with_reducible refine wpQuietGd ?_); (with_reducible refine wpQuiet_skip ?_ ?_); (· rfl); simp only [Act.put, List.setIfInBounds_toArray, List.set_cons_zero, List.set_cons_succ])
    | quiet_step (fail))
  refine wpQuiet_nil ?_
  intro w2 hb2
  have HB2 := Lib.hid hb2
  clear hb2
  go_wp2_with fail
  go_ret
  exact ⟨rfl, HB2.out⟩
theorem build_fault (a e : Int) : Tryd.prog.built 94 [(0, .int .i64 a), (1, .int .i64 e)] = some #[.int .i64 a, .int .i64 e] := by kernel_rfl
theorem fail_any {base rb : Nat} {s : RD} (w : World) (h : RAt w base rb s) (z : Int) (hz : -9223372036854775808 ≤ z ∧ z ≤ 9223372036854775807) : Calls Tryd.prog 57 #[.pointer (some ⟨rb, 0, none⟩), .int .i64 z] w fun e w' => e = .returned (.tuple #[]) ∧ LeftR base rb (s.fail z) w w' := by
  have H := Lib.hid h
  obtain ⟨v, bv, h⟩ := h
  obtain ⟨_, hc1, hc2, hc3, hfz⟩ := h.cells
  have HI := Lib.hid h
  obtain ⟨l, pos, bad⟩ := s
  cases bad with
  | some b =>
    obtain ⟨_, _, fb, a0, hbv, _⟩ := h.fault
    rw [hbv] at hc3
    clear h hbv
    go_enter Tryd.func57, Tryd.ntmps57
    go_wp2_with fail
    refine (none_any w H.out).mono ?_
    rintro e w' ⟨rfl, rfl⟩
    go_wp2_with fail
    go_end0
    refine ⟨rfl, ?_⟩
    have : RD.fail ⟨l, pos, some b⟩ z = ⟨l, pos, some b⟩ := by unfold RD.fail; rw [if_neg (by simp)]
    rw [this]
    exact LeftR.same H.out (Below.refl _ _)
  | none =>
    have hbv : bv = .nilIface := h.fault
    rw [hbv] at hc3
    by_cases h0 : z = 0
    · subst h0
      clear h hbv
      go_enter Tryd.func57, Tryd.ntmps57
      go_wp2_with fail
      refine (none_any w H.out).mono ?_
      rintro e w' ⟨rfl, rfl⟩
      go_wp2_with fail
      go_end0
      refine ⟨rfl, ?_⟩
      have : RD.fail ⟨l, pos, none⟩ 0 = ⟨l, pos, none⟩ := by unfold RD.fail; rw [if_neg (by simp)]
      rw [this]
      exact LeftR.same H.out (Below.refl _ _)
    · have hz1 : (z == 0) = false := beq_eq_false_iff_ne.2 h0
      have hz2 : (z != 0) = true := by simp [h0]
      have HE : Hid (RD.fail ⟨l, pos, none⟩ z = ⟨l, pos, some z⟩) := by show _ = _; unfold RD.fail; rw [if_pos ⟨rfl, h0⟩]
      have HFIN : Hid (LeftR base rb ⟨l, pos, some z⟩ w ((w.alloc (.cells #[.int .i64 (pos : Int), .int .i64 z] 94)).setCell ⟨rb, 3, none⟩ (.iface 92 (.pointer (some ⟨w.heap.size, 0, none⟩))))) := by
        have hb := Below.allocs w (.cells #[.int .i64 (pos : Int), .int .i64 z] 94)
        have hI := HI.out.below hb
        have ht := (Turns.refl (fun k => k = rb) (w.alloc (.cells #[.int .i64 (pos : Int), .int .i64 z] 94))).setCell (p := ⟨rb, 3, none⟩) (fun _ => rfl) (.iface 92 (.pointer (some ⟨w.heap.size, 0, none⟩)))
        have hlt := HI.out.lt
        have hrow2 := heap_setCell_same _ rb 3 _ _ (.iface 92 (.pointer (some ⟨w.heap.size, 0, none⟩))) hI.row
        refine ⟨⟨v, .iface 92 (.pointer (some ⟨w.heap.size, 0, none⟩)), ⟨?_, hI.low, hI.bytes.touch ht hI.no8, ⟨h0, hz, w.heap.size, _, rfl, ?_, ht.keep (heap_alloc_last _ _) (by omega)⟩, hI.at1, hI.len⟩⟩, (Turns.of_below hb).trans ht (fun _ _ h => h), ?_⟩
        · rw [hrow2]; rfl
        · have := HI.out.low; omega
        · rw [HI.out.cells.2.1, cell_of_row _ _ _ _ _ _ hrow2]; rfl
      have hb0 := Below.allocs w (.cells #[.int .i64 (pos : Int), .int .i64 z] 94)
      have hcx : (w.alloc (.cells #[.int .i64 (pos : Int), .int .i64 z] 94)).cell? ⟨rb, 3, none⟩ = some .nilIface := cell_below hc3 hb0
      have hfx := (HI.out.below hb0).cells.2.2.2.2 3
      clear h hbv h0 hb0
      go_enter Tryd.func57, Tryd.ntmps57
      go_wp2_with fail
      refine (none_any w H.out).mono ?_
      rintro e w' ⟨rfl, rfl⟩
      go_wp2_with ((with_reducible refine wpAt 24 ?_); refine wpList_build rfl 94 _ rfl [(0, .int .i64 (pos : Int)), (1, .int .i64 z)] rfl _ (build_fault _ _) ?_)
      go_end0
      rw [HE.out]
      exact ⟨rfl, HFIN.out⟩
end Go.Proofs.YtdaigkcbmdcbcaaDoor.Rdr
