/- THE WALKS OF THE REFERENCE's READER (a plain value): fail, Bytes, Num, Count, Done. Conditions: sizes that fit. -/
import Derived.Test.YtbfddfmglkhimaaDoorRdNum
namespace Go.Proofs.YtbfddfmglkhimaaDoor.RR
open Go.RowKit Go.Mir Go.Mir.Parts Rdr

abbrev rr (p : Option Addr) (n c : Nat) (pos bad : Int) : Value := .agg #[.slice p n c, .int .i64 pos, .int .i64 bad]
abbrev rs (p : Option Addr) (n c : Nat) (s : RD) : Value := rr p n c (s.pos : Int) s.err
def RD.ok (s : RD) : Prop := s.bad ≠ some 0 ∧ s.pos ≤ s.l.length ∧ s.l.length ≤ 140737488355328
theorem Rdr_ok {w : World} {base rb : Nat} {s : RD} (h : RAt w base rb s) : RD.ok s := by
  obtain ⟨v, bv, h⟩ := h
  refine ⟨?_, h.at1, h.len⟩
  have h1 := h.fault
  intro e
  rw [e] at h1
  exact h1.1 rfl
theorem fail_err {s : RD} (h : RD.ok s) (e : Int) : (s.fail e).err = (if s.err = 0 then e else s.err) ∧ (s.fail e).pos = s.pos ∧ (s.fail e).l = s.l := by
  obtain ⟨l, pos, bad⟩ := s
  cases bad with
  | none =>
    unfold RD.fail RD.err
    by_cases he : e = 0
    · rw [if_neg (by simp [he])]; simp [he]
    · rw [if_pos ⟨rfl, he⟩]; simp
  | some b =>
    have hb : b ≠ 0 := fun h' => h.1 (by rw [h'])
    unfold RD.fail RD.err
    rw [if_neg (by simp)]
    simp [hb]
theorem fail_ok {s : RD} (h : RD.ok s) (e : Int) : RD.ok (s.fail e) := by
  unfold RD.fail
  split
  · rename_i h'
    exact ⟨by simp [h'.2], h.2.1, h.2.2⟩
  · exact h
theorem take_ok {s : RD} (h : RD.ok s) (n : Int) (f : Bool) : RD.ok (s.takeS n f) ∧ (s.takeS n f).l = s.l := by
  unfold RD.takeS
  split
  · exact ⟨h, rfl⟩
  split
  · exact ⟨⟨by simp, h.2.1, h.2.2⟩, rfl⟩
  split
  · exact ⟨⟨by simp, h.2.1, h.2.2⟩, rfl⟩
  · rename_i h1 h2 h3
    refine ⟨⟨by simp, ?_, h.2.2⟩, rfl⟩
    dsimp only
    have := h.2.1
    omega
theorem rs_fail {s : RD} (h : RD.ok s) (p : Option Addr) (n c : Nat) (e : Int) : rr p n c (s.pos : Int) (if s.err = 0 then e else s.err) = rs p n c (s.fail e) := by
  obtain ⟨h1, h2, _⟩ := fail_err h e
  rw [rs, h1, h2]

theorem row3 {w : World} {b : Nat} {x y z : Value} {t : TypeId} (h : w.heap[b]? = some (.cells #[x, y, z] t (0, 0))) :
    w.cell? ⟨b, 0, none⟩ = some x ∧ w.cell? ⟨b, 1, none⟩ = some y ∧ w.cell? ⟨b, 2, none⟩ = some z ∧ w.frozen? ⟨b, 0, none⟩ = false ∧ w.frozen? ⟨b, 1, none⟩ = false ∧ w.frozen? ⟨b, 2, none⟩ = false := by
  refine ⟨?_, ?_, ?_, frozen_of_row _ _ 0 _ _ h, frozen_of_row _ _ 1 _ _ h, frozen_of_row _ _ 2 _ _ h⟩
  · rw [cell_of_row _ _ _ _ _ _ h]; rfl
  · rw [cell_of_row _ _ _ _ _ _ h]; rfl
  · rw [cell_of_row _ _ _ _ _ _ h]; rfl
theorem results_cell_tmp {P : Program} {fn : Func} {p q : Tmp} {ty : TypeId} (h : fn.results = #[.cell p ty, .tmp q]) (tmps : Array Value) (w : World) (g : Nat) (t : TypeId) (cs : Array Value) (fr : Nat × Nat) (d : TypeDesc)
    (hp : tmps.getD p undef = .pointer (some ⟨g, 0, none⟩)) (hg : w.heap[g]? = some (.cells cs t fr))
    (hu : P.underlying ty = some d) (hd : (match d with | .struct _ | .array _ _ => true | _ => false) = true) (hi : (P.info? ty).map (·.size) = some cs.size) :
    (results fn tmps).run P w = .ok (.tuple #[.agg cs, tmps.getD q undef]) w := by
  have hp' : tmps[p]?.getD undef = .pointer (some ⟨g, 0, none⟩) := by simpa using hp
  simp [results, h, hp', asAddr, run_loadVar_row w g t ty cs fr d hg hu hd hi]
theorem set3 {w : World} {b : Nat} {M : Array Value} {t : TypeId} (hM : M.size = 3) (h : w.heap[b]? = some (.cells M t (0, 0))) (x y z : Value) :
    (((w.setCell ⟨b, 0, none⟩ x).setCell ⟨b, 1, none⟩ y).setCell ⟨b, 2, none⟩ z).heap[b]? = some (.cells #[x, y, z] t (0, 0)) := by
  rw [heap_setCell_same _ b 2 _ _ z (heap_setCell_same _ b 1 _ _ y (heap_setCell_same _ b 0 _ _ x h))]
  obtain ⟨l⟩ := M
  match l, hM with
  | [a, b, c], _ => rfl
theorem set3_below {B : Nat} {w w' : World} (h : Below B w w') {b : Nat} (hb : B ≤ b) (x y z : Value) : Below B w (((w'.setCell ⟨b, 0, none⟩ x).setCell ⟨b, 1, none⟩ y).setCell ⟨b, 2, none⟩ z) :=
  ((h.setCell hb _).setCell hb _).setCell hb _
theorem sizeR : (Tryd.prog.info? 39).map (·.size) = some 3 := by kernel_rfl
theorem fail_any (p : Option Addr) (n c : Nat) (pos bad e0 : Int) (w : World) :
    Calls Tryd.prog 45 #[rr p n c pos bad, .int .i64 e0] w fun e w' => e = .returned (rr p n c pos (if bad = 0 then e0 else bad)) ∧ Below w.heap.size w w' := by
  by_cases hb : bad = 0
  · subst hb
    go_enter Tryd.func45, Tryd.ntmps45
    go_wp2
    refine bodyPost_ret (v := rr p n c pos e0) (by simp [results, Tryd.results45, go_sem, rr]) rfl ⟨rfl, ?_⟩
    exact (((Below.allocs _ _).alloc (by simp) _))
  · have hb' : (bad == 0) = false := by simp [hb]
    go_enter Tryd.func45, Tryd.ntmps45
    go_wp2
    refine bodyPost_ret (v := rr p n c pos bad) (by simp [results, Tryd.results45, go_sem, rr]) rfl ⟨by first | rfl | (rw [if_neg hb]; rfl) | rw [if_neg hb], ?_⟩
    exact (((Below.allocs _ _).alloc (by simp) _))
theorem Fail_any (p : Option Addr) (n c : Nat) (pos bad e0 : Int) (w : World) :
    Calls Tryd.prog 39 #[rr p n c pos bad, .int .i64 e0] w fun e w' => e = .returned (rr p n c pos (if bad = 0 then e0 else bad)) ∧ Below w.heap.size w w' := by
  have H := fail_any p n c pos bad e0
  generalize (if bad = 0 then e0 else bad) = X at *
  have H := Lib.hid H
  go_enter Tryd.func39, Tryd.ntmps39
  go_wp2_with fail
  refine (H.out _).mono ?_
  rintro e w' ⟨rfl, hb⟩
  have hT := two_allocs w (.cells #[.slice p n c, .int .i64 pos, .int .i64 bad] 39) (.cells #[.slice none 0 0, .int .i64 0, .int .i64 0] 39)
  have e1 := Below.keepOld hb hT.2.1
  have E2 := Lib.hid (set3 rfl e1 (.slice p n c) (.int .i64 pos) (.int .i64 X))
  have HB := Lib.hid (set3_below (hT.2.2.2.trans (hb.mono hT.2.2.2.size)) (b := w.heap.size + 1) (by omega) (.slice p n c) (.int .i64 pos) (.int .i64 X))
  obtain ⟨c10, c11, c12, f10, f11, f12⟩ := row3 e1
  clear hb hT e1
  go_wp2_with fail
  refine bodyPost_ret (results_cell_row rfl _ _ _ _ _ _ _ rfl E2.out Tryd.underlying39 rfl sizeR) rfl ?_
  exact ⟨rfl, HB.out⟩
theorem done_any (p : Option Addr) (n c : Nat) (s : RD) (w : World) (hs : RD.ok s) (hn : s.l.length = n) (hc : n ≤ 140737488355328) :
    Calls Tryd.prog 18 #[rs p n c s] w fun e w' => e = .returned (.int .i64 s.done) ∧ Below w.heap.size w w' := by
  have hb := Lib.hid (show s.done = if s.err ≠ 0 then s.err else if s.l.length - s.pos = 0 then 0 else 3 from rfl)
  have hp := hs.2.1
  rw [hn] at hp
  have HN := Lib.hid hn
  clear hn hs
  show Calls _ _ #[rr p n c (s.pos : Int) s.err] _ _
  generalize s.done = D at *
  generalize s.err = E at *
  by_cases h0 : E = 0
  · subst h0
    by_cases h1 : s.pos < n
    · have hd : decide ((s.pos : Int) < (n : Int)) = true := decide_eq_true (by omega)
      have hd2 : decide (s.pos < n) = true := decide_eq_true (by omega)
      have hD : D = 3 := by rw [hb.out, if_neg (by simp), if_neg (by rw [HN.out]; omega)]
      generalize s.pos = pos at *
      clear h1
      go_enter Tryd.func18, Tryd.ntmps18
      go_wp2_with fail
      go_ret
      exact ⟨by rw [hD]; rfl, Below.allocs _ _⟩
    · have hd : decide ((s.pos : Int) < (n : Int)) = false := decide_eq_false (by omega)
      have hd2 : decide (s.pos < n) = false := decide_eq_false (by omega)
      have hD : D = 0 := by rw [hb.out, if_neg (by simp), if_pos (by rw [HN.out]; omega)]
      generalize s.pos = pos at *
      clear h1
      go_enter Tryd.func18, Tryd.ntmps18
      go_wp2_with fail
      go_ret
      exact ⟨by rw [hD]; rfl, Below.allocs _ _⟩
  · have hd : (E == 0) = false := by simp [h0]
    have hD : D = E := by rw [hb.out, if_pos h0]
    generalize s.pos = pos at *
    go_enter Tryd.func18, Tryd.ntmps18
    go_wp2_with fail
    go_ret
    exact ⟨by rw [hD]; rfl, Below.allocs _ _⟩

/-- what a pointer's cells read as in one world they read as in the other -/
def KeepsB (W : World) (p : Option Addr) (n : Nat) (w' : World) : Prop := 0 < n → ∀ a, p = some a → ∀ j v, W.cell? (a.add j) = some v → w'.cell? (a.add j) = some v
theorem KeepsB.below {W w' : World} {p : Option Addr} {n : Nat} (h : Below W.heap.size W w') : KeepsB W p n w' := fun _ a _ j v hv => by
  rw [h.cell (block_lt_of_cell hv)]; exact hv
theorem run_cut2 {w : World} {p : Option Addr} {L c : Nat} (l : List UInt8) (h : Bs w p L c l) (k m : Nat) (hk : k + m ≤ L) :
    ∃ q, (∀ w0, (Instr.sliceAt 25 (.slice p L c) (some (.int .i64 (k : Int))) (some (.int .i64 ((k : Int) + (m : Int)))) none).run Tryd.prog w0 = .ok (.slice q m (c - k)) w0) ∧
      ∀ w', KeepsB w p L w' → Bs w' q m (c - k) ((l.drop k).take m) := by
  have hle := h.le
  have hmax := h.max
  have hsz : (Tryd.prog.info? 5).map (·.size) = some 1 := by kernel_rfl
  obtain ⟨i, hi, hi1⟩ := Option.map_eq_some_iff.1 hsz
  have e1 : ((k : Int) + (m : Int)).toNat = k + m := by omega
  have hrun : ∀ w0, (Instr.sliceAt 25 (.slice p L c) (some (.int .i64 (k : Int))) (some (.int .i64 ((k : Int) + (m : Int)))) none).run Tryd.prog w0 = .ok (.slice (if c = k then p else p.map (·.add k)) m (c - k)) w0 := fun w0 => by
    have hb1 : (0 : Int) ≤ (k : Int) + (m : Int) ∧ (k : Int) + (m : Int) ≤ (c : Int) := by omega
    have hb3 : (0 : Int) ≤ (k : Int) ∧ (k : Int) ≤ ((k + m : Nat) : Int) := by omega
    simp [Instr.sliceAt, Instr.slice, run_underlying Tryd.underlying25, Instr.sliceBounds, Instr.sliceBound, asIntOf, sizeOf, typeInfo, hi, hi1, e1, hb1, hb3]
    try omega
  refine ⟨_, hrun, fun w' hw => ?_⟩
  have hl := h.length
  by_cases hc : c = k
  · have hm : m = 0 := by omega
    subst hm
    rw [if_pos hc, hc, Nat.sub_self, List.take_zero]
    exact ⟨by simp [bytesV], Nat.le_refl _, by omega, fun _ => rfl, fun a ha j u hu => by simp [bytesV] at hu⟩
  · rw [if_neg hc]
    refine ⟨by rw [bytesV_length, List.length_take, List.length_drop, Nat.mul_one]; omega, by omega, by omega, fun hq => ?_, fun a ha j u hu => ?_⟩
    · cases p with
      | none => have := h.nil0 rfl; omega
      | some a => cases hq
    · cases p with
      | none => cases ha
      | some a0 =>
        have hj : j < m := by
          have := (List.getElem?_eq_some_iff.1 hu).1
          rw [bytesV_length, List.length_take] at this
          omega
        obtain ⟨b, o, hbo⟩ := h.addr (by omega) (by omega)
        obtain rfl := Option.some.inj hbo
        obtain rfl := Option.some.inj ha
        have h1 : (bytesV l)[k + j]? = some u := by
          rw [bytesV, List.getElem?_map] at hu ⊢
          rw [List.getElem?_take, if_pos hj, List.getElem?_drop] at hu
          exact hu
        have h2 := h.cell _ rfl (k + j) u h1
        have h3 := hw (by omega) _ rfl (k + j) u h2
        rw [add_none] at h3
        show w'.cell? (((⟨b, o, none⟩ : Addr).add k).add j) = some u
        rw [add_none, add_none, Nat.add_assoc]
        exact h3
def BytesR (W : World) (p : Option Addr) (n c : Nat) (s : RD) (k : Int) (w : World) (e : Ending) (w' : World) : Prop :=
  ∃ q d, e = .returned (.tuple #[rs p n c (s.takeS k true), .slice q (s.takeB k true).length d]) ∧ (∀ w'', KeepsB W p n w'' → Bs w'' q (s.takeB k true).length d (s.takeB k true)) ∧ Below w.heap.size w w'
set_option maxRecDepth 100000 in
theorem bytes_any (p : Option Addr) (n c : Nat) (s : RD) (k : Int) (hk : -9223372036854775808 ≤ k ∧ k ≤ 9223372036854775807) (W w : World) (hs : RD.ok s) (hB : Bs W p n c s.l) :
    Calls Tryd.prog 36 #[rs p n c s, .int .i64 k] w (BytesR W p n c s k w) := by
  obtain ⟨l, pos, bad⟩ := s
  have HB := Lib.hid hB
  have HS := Lib.hid hs
  have hle := hB.le
  have hmax := hB.max
  have HN : Hid (l.length = n) := hB.length
  have hp : pos ≤ n := by have := hs.2.1; rw [← HN.out]; exact this
  have hn47 : n ≤ 140737488355328 := by have := hs.2.2; rw [← HN.out]; exact this
  clear hB hs
  cases bad with
  | some b =>
    have hb : b ≠ 0 := fun h' => HS.out.1 (by rw [h'])
    have hd : (b == 0) = false := by simp [hb]
    have hd2 : (b != 0) = true := by simp [hb]
    have HF : Hid (∀ w', Below w.heap.size w w' → BytesR W p n c ⟨l, pos, some b⟩ k w (.returned (.tuple #[rr p n c (pos : Int) b, .slice none 0 0])) w') := fun w' hb => by
      have h1 : RD.takeS ⟨l, pos, some b⟩ k true = ⟨l, pos, some b⟩ := by unfold RD.takeS; rw [if_pos (by simp)]
      have h2 : RD.takeB ⟨l, pos, some b⟩ k true = [] := by unfold RD.takeB; rw [if_neg (by simp)]
      refine ⟨none, 0, by rw [h1, h2]; rfl, by rw [h2]; exact fun _ _ => Sl.nil _ _, hb⟩
    show Calls _ _ #[rr p n c (pos : Int) b, .int .i64 k] _ _
    go_enter Tryd.func36, Tryd.ntmps36
    go_wp2_with fail
    refine bodyPost_ret (v := .tuple #[rr p n c (pos : Int) b, .slice none 0 0]) (by simp [results, Tryd.results36, go_sem, rr]) rfl (HF.out _ ?_)
    exact (((Below.allocs _ _).alloc (by simp) _))
  | none =>
    have HF : Hid (∀ (e : Int), e ≠ 0 → RD.takeS ⟨l, pos, none⟩ k true = ⟨l, pos, some e⟩ → RD.takeB ⟨l, pos, none⟩ k true = [] → ∀ w', Below w.heap.size w w' → BytesR W p n c ⟨l, pos, none⟩ k w (.returned (.tuple #[rr p n c (pos : Int) e, .slice none 0 0])) w') := fun e he h1 h2 w' hb =>
      ⟨none, 0, by rw [h1, h2]; rfl, by rw [h2]; exact fun _ _ => Sl.nil _ _, hb⟩
    by_cases hneg : k < 0
    · have hd : decide (k < (0 : Int)) = true := decide_eq_true hneg
      have H := Lib.hid (fail_any p n c (pos : Int) 0 1)
      have HF1 := Lib.hid (HF.out 1 (by decide) (by unfold RD.takeS; rw [if_neg (by simp), if_pos (.inr hneg)]) (by unfold RD.takeB; rw [if_neg]; rintro ⟨_, _, h, _⟩; omega))
      clear hneg
      show Calls _ _ #[rr p n c (pos : Int) 0, .int .i64 k] _ _
      go_enter Tryd.func36, Tryd.ntmps36
      go_wp2_with fail
      refine (H.out _).mono ?_
      rintro e w' ⟨rfl, hb⟩
      rw [if_pos trivial]
      have hT := two_allocs w (.cells #[.slice p n c, .int .i64 (pos : Int), .int .i64 0] 39) (.cells #[.slice none 0 0, .int .i64 0, .int .i64 0] 39)
      have e1 := Below.keepOld hb hT.2.1
      have E2 := fun X => Lib.hid (set3 rfl e1 (.slice p n c) (.int .i64 (pos : Int)) (.int .i64 X))
      have HB1 := fun X => Lib.hid (set3_below (hT.2.2.2.trans (hb.mono hT.2.2.2.size)) (b := w.heap.size + 1) (by omega) (.slice p n c) (.int .i64 (pos : Int)) (.int .i64 X))
      obtain ⟨c10, c11, c12, f10, f11, f12⟩ := row3 e1
      clear hb hT e1
      go_wp2_with fail
      refine bodyPost_ret (results_cell_tmp rfl _ _ _ _ _ _ _ rfl (E2 _).out Tryd.underlying39 rfl sizeR) rfl ?_
      exact HF1.out _ (HB1 _).out
    · have hd : decide (k < (0 : Int)) = false := decide_eq_false hneg
      obtain ⟨m, rfl⟩ : ∃ m : Nat, k = (m : Int) := ⟨k.toNat, by omega⟩
      have hd1 : decide ((m : Int) < (0 : Int)) = false := decide_eq_false (by omega)
      have hsub : (n : Int) - (pos : Int) = ((n - pos : Nat) : Int) := by omega
      have hw1 : IntKind.i64.wrap ((n : Int) - (pos : Int)) = ((n - pos : Nat) : Int) := by rw [hsub]; exact IntWalk.i64_in _ (by omega)
      by_cases hbig : n - pos < m
      · have hd2 : decide (((n - pos : Nat) : Int) < (m : Int)) = true := decide_eq_true (by omega)
        have hd3 : decide (n - pos < m) = true := decide_eq_true hbig
        have hd4 : decide ((n : Int) - (pos : Int) < (m : Int)) = true := decide_eq_true (by omega)
        have H := Lib.hid (fail_any p n c (pos : Int) 0 2)
        have HF1 := Lib.hid (HF.out 2 (by decide) (by unfold RD.takeS; rw [if_neg (by simp), if_neg (by simp), if_pos (by dsimp only; rw [HN.out]; omega)]) (by unfold RD.takeB; rw [if_neg]; rintro ⟨_, _, _, h⟩; dsimp only at h; rw [HN.out] at h; omega))
        clear hneg hbig
        show Calls _ _ #[rr p n c (pos : Int) 0, .int .i64 (m : Int)] _ _
        go_enter Tryd.func36, Tryd.ntmps36
        go_wp2_with fail
        refine (H.out _).mono ?_
        rintro e w' ⟨rfl, hb⟩
        rw [if_pos trivial]
        have hT := two_allocs w (.cells #[.slice p n c, .int .i64 (pos : Int), .int .i64 0] 39) (.cells #[.slice none 0 0, .int .i64 0, .int .i64 0] 39)
        have e1 := Below.keepOld hb hT.2.1
        have E2 := fun X => Lib.hid (set3 rfl e1 (.slice p n c) (.int .i64 (pos : Int)) (.int .i64 X))
        have HB1 := fun X => Lib.hid (set3_below (hT.2.2.2.trans (hb.mono hT.2.2.2.size)) (b := w.heap.size + 1) (by omega) (.slice p n c) (.int .i64 (pos : Int)) (.int .i64 X))
        obtain ⟨c10, c11, c12, f10, f11, f12⟩ := row3 e1
        clear hb hT e1
        go_wp2_with fail
        refine bodyPost_ret (results_cell_tmp rfl _ _ _ _ _ _ _ rfl (E2 _).out Tryd.underlying39 rfl sizeR) rfl ?_
        exact HF1.out _ (HB1 _).out
      · have hd2 : decide (((n - pos : Nat) : Int) < (m : Int)) = false := decide_eq_false (by omega)
        have hd3 : decide (n - pos < m) = false := decide_eq_false hbig
        have hd4 : decide ((n : Int) - (pos : Int) < (m : Int)) = false := decide_eq_false (by omega)
        have hwp : IntKind.i64.wrap ((pos : Int) + (m : Int)) = (pos : Int) + (m : Int) := IntWalk.i64_in _ (by omega)
        obtain ⟨q, hsl, hqb⟩ := run_cut2 l HB.out pos m (by omega)
        have HQ := Lib.hid hqb
        have HF1 : Hid (∀ w', Below w.heap.size w w' → BytesR W p n c ⟨l, pos, none⟩ (m : Int) w (.returned (.tuple #[rr p n c ((pos : Int) + (m : Int)) 0, .slice q m (c - pos)])) w') := fun w' hb => by
          have h1 : RD.takeS ⟨l, pos, none⟩ (m : Int) true = ⟨l, pos + m, none⟩ := by
            unfold RD.takeS
            rw [if_neg (by simp), if_neg (by simp; try omega), if_neg (by dsimp only; rw [HN.out]; omega)]; rfl
          have h2 : RD.takeB ⟨l, pos, none⟩ (m : Int) true = (l.drop pos).take m := by
            unfold RD.takeB
            rw [if_pos ⟨rfl, rfl, by omega, by dsimp only; rw [HN.out]; omega⟩]; rfl
          have h3 : ((l.drop pos).take m).length = m := by rw [List.length_take, List.length_drop, HN.out]; omega
          refine ⟨q, c - pos, by rw [h1, h2, h3, ← Int.natCast_add]; rfl, by rw [h2, h3]; exact HQ.out, hb⟩
        clear hneg hbig hqb hsub
        show Calls _ _ #[rr p n c (pos : Int) 0, .int .i64 (m : Int)] _ _
        go_enter Tryd.func36, Tryd.ntmps36
        go_wp2_with fail
        refine bodyPost_ret (v := .tuple #[rr p n c ((pos : Int) + (m : Int)) 0, .slice q m (c - pos)]) (by simp [results, Tryd.results36, go_sem, rr]) rfl (HF1.out _ ?_)
        exact (((Below.allocs _ _).alloc (by simp) _))
end Go.Proofs.YtbfddfmglkhimaaDoor.RR
