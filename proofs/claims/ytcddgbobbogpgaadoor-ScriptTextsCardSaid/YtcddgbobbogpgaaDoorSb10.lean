/- PARTS, JOINED: SCRIPTS: the document's Parse, plain and small parts. Conditions: none. SCRIPTS: the document's Parse, walked. Conditions: none. PLAIN PART OF SCRIPTS: what was parsed. Conditions: none. SCRIPTS: what an event of a kind may have (the document's). Conditions: one of the six kinds. -/
import Derived.Test.YtcddgbobbogpgaaDoorSb1
import Derived.Test.YtcddgbobbogpgaaDoorSb2
import Derived.Test.YtcddgbobbogpgaaDoorSb3
import Derived.Test.YtcddgbobbogpgaaDoorSb4
import Derived.Test.YtcddgbobbogpgaaDoorSb5
import Derived.Test.YtcddgbobbogpgaaDoorSb6
import Derived.Test.YtcddgbobbogpgaaDoorSb7
import Derived.Test.YtcddgbobbogpgaaDoorSb8
import Derived.Test.YtcddgbobbogpgaaDoorSb9
namespace Go.Proofs.YtcddgbobbogpgaaDoor.Scr
open Go.RowKit Go.Mir Go.Mir.Hx Go.Mir.Parts HexW Rpl

theorem results_c3 {P : Program} {fn : Func} {p q r s : Tmp} {ty : TypeId} (h : fn.results = #[.cell p ty, .tmp q, .tmp r, .tmp s]) (tmps : Array Value) (w : World) (g : Nat) (t : TypeId) (cs : Array Value) (fr : Nat × Nat) (d : TypeDesc)
    (hp : tmps.getD p undef = .pointer (some ⟨g, 0, none⟩)) (hg : w.heap[g]? = some (.cells cs t fr))
    (hu : P.underlying ty = some d) (hd : (match d with | .struct _ | .array _ _ => true | _ => false) = true) (hi : (P.info? ty).map (·.size) = some cs.size) :
    (results fn tmps).run P w = .ok (.tuple #[.agg cs, tmps.getD q undef, tmps.getD r undef, tmps.getD s undef]) w := by
  have hp' : tmps[p]?.getD undef = .pointer (some ⟨g, 0, none⟩) := by simpa using hp
  simp [results, h, hp', asAddr, run_loadVar_row w g t ty cs fr d hg hu hd hi]
theorem cut_scan : ∀ s : List UInt8, (cutL s).1 = s.take (cutL s).1.length ∧ (cutL s).2 = s.drop ((cutL s).1.length + 1) ∧ (∀ j, j < (cutL s).1.length → ∃ c, s[j]? = some c ∧ c ≠ 10) ∧ ((cutL s).1.length = s.length ∨ s[(cutL s).1.length]? = some 10)
  | [] => ⟨rfl, rfl, fun j hj => absurd hj (Nat.not_lt_zero _), .inl rfl⟩
  | c :: r => by
    obtain ⟨h1, h2, h3, h4⟩ := cut_scan r
    rw [cutL]
    by_cases hc : c = 10
    · rw [if_pos hc]
      exact ⟨rfl, rfl, fun j hj => absurd hj (Nat.not_lt_zero _), .inr (by rw [hc]; rfl)⟩
    · rw [if_neg hc]
      refine ⟨?_, ?_, fun j hj => ?_, ?_⟩
      · show c :: (cutL r).1 = c :: r.take (cutL r).1.length
        rw [← h1]
      · show (cutL r).2 = r.drop ((cutL r).1.length + 1)
        exact h2
      · cases j with
        | zero => exact ⟨c, rfl, hc⟩
        | succ j => exact h3 j (by simpa using hj)
      · show (cutL r).1.length + 1 = r.length + 1 ∨ r[(cutL r).1.length]? = some 10
        rcases h4 with h | h
        · exact .inl (by omega)
        · exact .inr h
theorem cutSub (s : List UInt8) (a b : Nat) (h : a ≤ b ∧ b ≤ s.length) (_hs : s.length ≤ 1000000) : ∀ w0, (Instr.sliceAt 9 (.string (S s)) (some (.int .i64 (a : Int))) (some (.int .i64 (b : Int))) none).run Tryd.prog w0 = .ok (.string (S ((s.drop a).take (b - a)))) w0 := by
  intro w0
  have hb1 : (0 : Int) ≤ (b : Int) ∧ (b : Int) ≤ (s.length : Int) := by omega
  have hb3 : (0 : Int) ≤ (a : Int) ∧ (a : Int) ≤ (b : Int) := by omega
  have hx' : (S s).extract a b = S ((s.drop a).take (b - a)) := by
    apply ByteArray.ext
    rw [ByteArray.data_extract]
    apply Array.toList_inj.1
    rw [Array.toList_extract]
    simp [S_data]
  simp [Instr.sliceAt, Instr.slice, run_underlying Tryd.underlying9, Instr.sliceBounds, Instr.sliceBound, asIntOf, S_size, hb1, hb3, hx', h.1, h.2]
theorem built_cf (a b c d e f : Int) : Tryd.prog.built 46 [(0, .int .i64 a), (1, .int .i64 b), (2, .int .i64 c), (3, .int .i64 d), (4, .int .i64 e), (5, .int .i64 f)] = some (cfA ⟨a, b, c, d, e, f⟩) := by kernel_rfl
theorem infoEF2 : (Tryd.prog.info? 37).map (fun i => (i.zero, i.size, i.bytes)) = some (some (.agg zE), 103, 184) := by kernel_rfl
/-- the list that the document's Parse made -/
def LF (b : Nat) (l : List ER) (p : Option Addr) (cap : Nat) (W : World) : Prop := W.ownsRow b 37 103 (.slice p l.length cap) l.length (l.flatMap ER.l) ∧ ∀ r ∈ l, r.At W ∧ Far r b (.slice p l.length cap)
theorem LF.turns {S : Nat → Prop} {b : Nat} {l : List ER} {p : Option Addr} {cap : Nat} {W W' : World} (h : LF b l p cap W) (ht : Turns S W W') (hS : ∀ k, S k → k < b ∨ ∃ o, W.heap[k]? = some o ∧ o.isCells = false) : LF b l p cap W' :=
  ⟨own_off ht hS h.1, fun r hr => by
    obtain ⟨a1, a2⟩ := h.2 r hr
    exact ⟨⟨a1.wf, sl_off ht hS a1.bs (fun a ha h0 => (a2.pb a ha h0).1), ⟨sl_off ht hS a1.ids.sl (fun a ha h0 => (a2.q a ha h0).1), a1.ids.each, a1.ids.count⟩⟩, a2⟩⟩
theorem LF.below {b : Nat} {l : List ER} {p : Option Addr} {cap : Nat} {W W' : World} (h : LF b l p cap W) (hb : Below W.heap.size W W') : LF b l p cap W' := h.turns (Turns.of_below (S := fun _ => False) hb) (fun _ h => h.elim)
theorem LF.es {b : Nat} {l : List ER} {p : Option Addr} {cap : Nat} {W : World} (h : LF b l p cap W) : Es W p l.length cap l := by
  obtain ⟨p1, c1, he, hs⟩ := own_sl h.1
  cases he
  exact ⟨hs, fun r hr => (h.2 r hr).1, rfl⟩
theorem LF.nil (b : Nat) (W : World) : LF b [] none 0 W := ⟨World.ownsRow_nil _ _ _ _, fun _r hr => nomatch hr⟩
theorem LF.far {b : Nat} {l : List ER} {p : Option Addr} {cap : Nat} {W : World} (h : LF b l p cap W) {m : Nat} (hm : W.heap.size ≤ m) (hb : b ≤ m) {r : ER} (h1 : ∀ a, r.pb = some a → m ≤ a.block) (h2 : ∀ a, r.q = some a → m ≤ a.block) : Far r b (.slice p l.length cap) := by
  have key : ∀ a : Addr, m ≤ a.block → b ≤ a.block ∧ ¬ (Value.slice p l.length cap).ownBlock = some a.block := fun a ha => ⟨by omega, fun hk => by have := (h.1.lt _ hk).2; omega⟩
  exact ⟨fun a ha _ => key a (h1 a ha), fun a ha _ => key a (h2 a ha)⟩
theorem LF.push {b : Nat} {l : List ER} {W w9 : World} {tmp : Obj} {p p' : Option Addr} {cap cap' : Nat} {r : ER} (h : LF b l p cap W) (hr : r.At W ∧ Far r b (.slice p l.length cap))
    (ho : w9.ownsRow b 37 103 (.slice p' (l.length + 1) cap') (l.length + 1) (l.flatMap ER.l ++ r.l)) (hg : (W.alloc tmp).grownBy w9 (Value.slice p l.length cap).ownBlock)
    (hn : ∀ k, (Value.slice p' (l.length + 1) cap').ownBlock = some k → (Value.slice p l.length cap).ownBlock = some k ∨ k = (W.alloc tmp).heap.size) : LF b (l ++ [r]) p' cap' w9 ∧ Turns (fun k => b ≤ k) W w9 := by
  have ht : Turns (fun k => (Value.slice p l.length cap).ownBlock = some k) W w9 := (Turns.of_below (S := fun k => (Value.slice p l.length cap).ownBlock = some k) (Below.allocs W tmp)).trans (Turns.grown hg (fun k h => h)) (fun _ _ h => h)
  have hS : ∀ k, (Value.slice p l.length cap).ownBlock = some k → k < b ∨ (Value.slice p l.length cap).ownBlock = some k := fun k hk => .inr hk
  refine ⟨⟨by rw [List.length_append, List.flatMap_append]; simpa using ho, fun x hx => ?_⟩, turns_wide ht (fun k hk => (h.1.lt k hk).1)⟩
  have hx : x.At W ∧ Far x b (.slice p l.length cap) := by
    rcases List.mem_append.1 hx with hx | hx
    · exact h.2 x hx
    · rw [List.mem_singleton] at hx; rw [hx]; exact hr
  obtain ⟨a1, a2⟩ := hx
  rw [List.length_append]
  exact ⟨⟨a1.wf, sl_away ht hS a1.bs a2.pb, ⟨sl_away ht hS a1.ids.sl a2.q, a1.ids.each, a1.ids.count⟩⟩, ⟨away_next (by simp) hn a1.bs a2.pb, away_next (by simp) hn a1.ids.sl a2.q⟩⟩
/-- the document's Parse, behind n lines, at the sign k -/
structure RP (w : World) (s : List UInt8) (st : Option (Cf × List Ev)) (l : List ER) (p : Option Addr) (cap k n : Nat) (W : World) : Prop where
  kk : k ≤ s.length + 1
  nn : n ≤ k
  ll : l.length ≤ n
  go : parseB s = goB st (linesL (s.drop k)) n
  ev : evs l = (st.map (·.2)).getD []
  r0 : W.heap[w.heap.size]? = some (.cells (cfA Cf.zero) 46 (0, 0))
  r1 : W.heap[w.heap.size + 1]? = some (.cells (cfA Cf.zero) 46 (0, 0))
  c2 : W.heap[w.heap.size + 2]? = some (.cells (cfA ((st.map (·.1)).getD Cf.zero)) 46 (0, 0))
  lf : LF (w.heap.size + 3) l p cap W
  low : Below w.heap.size w W
theorem RP.size {w : World} {s : List UInt8} {st : Option (Cf × List Ev)} {l : List ER} {p : Option Addr} {cap k n : Nat} {W : World} (h : RP w s st l p cap k n W) : w.heap.size + 3 ≤ W.heap.size := by
  have := (Array.getElem?_eq_some_iff.1 h.c2).1
  omega
/-- a line, and how it is found -/
structure LineAt (s x : List UInt8) (k en : Nat) : Prop where
  lo : k ≤ en
  hi : en ≤ s.length
  sub : (s.drop k).take (en - k) = x
  no : ∀ j, k ≤ j → j < en → ∃ c, s[j]? = some c ∧ c ≠ 10
  fin : en = s.length ∨ (en < s.length ∧ s[en]? = some 10)
  lines : linesL (s.drop k) = x :: linesL (s.drop (en + 1))
  len : x.length ≤ s.length
theorem line_at (s : List UInt8) (k : Nat) (h : k < s.length) : ∃ x en, LineAt s x k en := by
  obtain ⟨h1, h2, h3, h4⟩ := cut_scan (s.drop k)
  have hl : (s.drop k).length = s.length - k := List.length_drop
  have hm := cut_len (s.drop k)
  have hne : s.drop k ≠ [] := fun e => by rw [e] at hl; simp at hl; omega
  have hc := lines_cut _ hne
  generalize hx : (cutL (s.drop k)).1 = x at *
  refine ⟨x, k + x.length, by omega, by omega, by rw [Nat.add_sub_cancel_left]; exact h1.symm, fun j hk hj => ?_, ?_, ?_, by omega⟩
  · obtain ⟨c, e1, e2⟩ := h3 (j - k) (by omega)
    rw [List.getElem?_drop, show k + (j - k) = j by omega] at e1
    exact ⟨c, e1, e2⟩
  · rcases h4 with h4 | h4
    · exact .inl (by omega)
    · rw [List.getElem?_drop] at h4
      exact .inr ⟨(List.getElem?_eq_some_iff.1 h4).1, h4⟩
  · rw [hc, h2, List.drop_drop]
    rfl
theorem RP.next {w : World} {s x : List UInt8} {st st' : Option (Cf × List Ev)} {l : List ER} {p : Option Addr} {cap k n en : Nat} {W : World} (h : RP w s st l p cap k n W) (hl : LineAt s x k en) (hs : stepL st x = some st') : parseB s = goB st' (linesL (s.drop (en + 1))) (n + 1) := by
  rw [h.go, hl.lines, go_cons, hs]
theorem RP.bad {w : World} {s x : List UInt8} {st : Option (Cf × List Ev)} {l : List ER} {p : Option Addr} {cap k n en : Nat} {W : World} (h : RP w s st l p cap k n W) (hl : LineAt s x k en) (hs : stepL st x = none) : parseB s = (Cf.zero, [], (n : Int) + 1, 4) := by
  rw [h.go, hl.lines, go_cons, hs]
  rfl
theorem RP.step {w : World} {s x : List UInt8} {st st' : Option (Cf × List Ev)} {l l' : List ER} {p p' : Option Addr} {cap cap' k n en : Nat} {W W' : World} (h : RP w s st l p cap k n W) (hl : LineAt s x k en) (hs : stepL st x = some st') (hb : Below w.heap.size w W')
    (r0 : W'.heap[w.heap.size]? = some (.cells (cfA Cf.zero) 46 (0, 0))) (r1 : W'.heap[w.heap.size + 1]? = some (.cells (cfA Cf.zero) 46 (0, 0))) (c2 : W'.heap[w.heap.size + 2]? = some (.cells (cfA ((st'.map (·.1)).getD Cf.zero)) 46 (0, 0)))
    (lf : LF (w.heap.size + 3) l' p' cap' W') (he : evs l' = (st'.map (·.2)).getD []) (hll : l'.length ≤ l.length + 1) : RP w s st' l' p' cap' (en + 1) (n + 1) W' :=
  ⟨by have := hl.hi; omega, by have := h.nn; have := hl.lo; omega, by have := h.ll; omega, h.next hl hs, he, r0, r1, c2, lf, hb⟩
theorem RP.same {w : World} {s x : List UInt8} {st : Option (Cf × List Ev)} {l : List ER} {p : Option Addr} {cap k n en : Nat} {W : World} (h : RP w s st l p cap k n W) (hl : LineAt s x k en) (hs : stepL st x = some st) : RP w s st l p cap (en + 1) (n + 1) W :=
  h.step hl hs h.low h.r0 h.r1 h.c2 h.lf h.ev (by omega)
theorem RP.below {w : World} {s : List UInt8} {st : Option (Cf × List Ev)} {l : List ER} {p : Option Addr} {cap k n : Nat} {W W' : World} (h : RP w s st l p cap k n W) (hb : Below W.heap.size W W') : RP w s st l p cap k n W' :=
  ⟨h.kk, h.nn, h.ll, h.go, h.ev, Below.keepOld hb h.r0, Below.keepOld hb h.r1, Below.keepOld hb h.c2, h.lf.below hb, h.low.trans (hb.mono h.low.size)⟩
theorem two_at (w : World) : ∀ X, X = ((w.alloc (.cells (cfA Cf.zero) 46)).alloc (.cells (cfA Cf.zero) 46)).setRow (w.heap.size + 1) (cfA Cf.zero) →
    X.heap[w.heap.size]? = some (.cells (cfA Cf.zero) 46 (0, 0)) ∧ X.heap[w.heap.size + 1]? = some (.cells (cfA Cf.zero) 46 (0, 0)) ∧ X.heap.size = w.heap.size + 2 ∧ Below w.heap.size w X := by
  rintro X rfl
  obtain ⟨h1, h2, h3, h4⟩ := Go.Mir.two_allocs w (.cells (cfA Cf.zero) 46) (.cells (cfA Cf.zero) 46)
  have ht := turns_setRow ((w.alloc (.cells (cfA Cf.zero) 46)).alloc (.cells (cfA Cf.zero) 46)) (w.heap.size + 1) (cfA Cf.zero)
  refine ⟨ht.keep h1 (by omega), setRow_heap _ _ _ (cfA Cf.zero) _ _ h2, ?_, below_setRow h4 (by omega) _⟩
  rw [← h3]
  simp [World.setRow]
end Go.Proofs.YtcddgbobbogpgaaDoor.Scr

namespace Go.Proofs.YtcddgbobbogpgaaDoor.Scr
open Go.RowKit Go.Mir Go.Mir.Hx Go.Mir.Parts HexW Rpl

set_option maxRecDepth 100000 in
set_option maxHeartbeats 3200000 in
theorem rparse_any (s : List UInt8) (w : World) (hs : s.length ≤ 900000) : Calls Tryd.prog 18 #[.string (S s)] w (ParseP s w) := by
  have hz := zeroF
  have hzc := zeroCf
  have HCO : Hid ((cfA Cf.zero).all (·.oneCell') = true) := by show _ = _; kernel_rfl
  have HA2 := Lib.hid (Go.Mir.two_allocs w (.cells (cfA Cf.zero) 46) (.cells (cfA Cf.zero) 46)).2.1
  by_cases b1 : 20000 < s.length
  · have d1 : decide ((20000 : Int) < (s.length : Int)) = true := decide_eq_true (by omega)
    have d1' : decide (20000 < s.length) = true := decide_eq_true b1
    have HPB : Hid (parseB s = (Cf.zero, [], 0, 3)) := by show _ = _; unfold parseB; rw [if_pos b1]
    clear b1
    go_enter Tryd.func18, Tryd.ntmps18
    go_upto_region 3 with (first
      | refine Rdr.wpList_build rfl 46 _ rfl [] rfl (cfA Cf.zero) (by kernel_rfl) ?_
      | refine wpList_store_row rfl 46 _ _ rfl (w.heap.size + 1) (cfA Cf.zero) rfl rfl 46 (cfA Cf.zero) HA2.out (infoCf _ rfl) rfl HCO.out ?_)
    generalize hX : ((w.alloc (.cells (cfA Cf.zero) 46)).alloc (.cells (cfA Cf.zero) 46)).setRow (w.heap.size + 1) (cfA Cf.zero) = X at *
    obtain ⟨h0, h1, h2, h3⟩ := two_at w X hX.symm
    have HR0 := Lib.hid h0
    have HR1 := Lib.hid h1
    have HLOW := Lib.hid h3
    clear h0 h1 h2 h3 hX HA2
    skip
    -- an error: none is told. In the world WX: HR0, HR1 (rows), HLOW, and HPB : parseB s = (zero, [], NN, EE)
    go_wp2_with (first
      | refine wpList_load_row rfl 46 _ rfl (w.heap.size + 1) rfl 46 (cfA Cf.zero) (0, 0) _ HR1.out Tryd.underlying46 rfl (infoCf _ rfl) ?_
      | refine wpList_store_row rfl 46 _ _ rfl w.heap.size (cfA Cf.zero) rfl rfl 46 (cfA Cf.zero) HR0.out (infoCf _ rfl) rfl HCO.out ?_)
    refine bodyPost_ret (results_c3 rfl _ _ _ _ _ _ _ rfl (setRow_heap _ _ _ (cfA Cf.zero) _ _ HR0.out) Tryd.underlying46 rfl (infoCf _ rfl)) rfl ?_
    exact ⟨none, 0, [], by rw [HPB.out]; rfl, by rw [HPB.out]; rfl, Es.nil _, below_setRow HLOW.out (Nat.le_refl _) _⟩
  have d1 : decide ((20000 : Int) < (s.length : Int)) = false := decide_eq_false (by omega)
  have d1' : decide (20000 < s.length) = false := decide_eq_false b1
  have HS : Hid (s.length ≤ 20000) := by show _ ≤ _; omega
  have HPB : Hid (parseB s = goB none (linesL s) 0) := by show _ = _; unfold parseB; rw [if_neg b1]
  clear b1 hs
  go_enter Tryd.func18, Tryd.ntmps18
  go_upto_region 4 with (first
    | refine Rdr.wpList_build rfl 46 _ rfl [] rfl (cfA Cf.zero) (by kernel_rfl) ?_
    | refine wpList_store_row rfl 46 _ _ rfl (w.heap.size + 1) (cfA Cf.zero) rfl rfl 46 (cfA Cf.zero) HA2.out (infoCf _ rfl) rfl HCO.out ?_)
  generalize hX : ((w.alloc (.cells (cfA Cf.zero) 46)).alloc (.cells (cfA Cf.zero) 46)).setRow (w.heap.size + 1) (cfA Cf.zero) = X at *
  obtain ⟨h0, h1, h2, h3⟩ := two_at w X hX.symm
  have hal := Below.allocs X (.cells (cfA Cf.zero) 46)
  have HRP0 : Hid (RP w s none [] none 0 0 0 (X.alloc (.cells (cfA Cf.zero) 46))) := ⟨by omega, Nat.le_refl _, Nat.le_refl _, HPB.out, rfl, Below.keepOld hal h0, Below.keepOld hal h1, by have := heap_alloc_last X (.cells (cfA Cf.zero) 46); rw [h2] at this; exact this, LF.nil _ _, h3.trans (hal.mono h3.size)⟩
  clear h0 h1 h3 hX HA2 hal d1 d1' HPB
  go_wp2_with fail
  generalize X.alloc (.cells (cfA Cf.zero) 46) = X1 at *
  clear h2
  go_loopw [8, 9, 10, 11, 12, 13, 14, 15, 16, 17, 18] (fun v8 v9 v10 v11 _ _ _ _ _ _ _ wr => ∃ (k n : Nat) (st : Option (Cf × List Ev)) (l : List ER) (p : Option Addr) (cap : Nat), v8 = .slice p l.length cap ∧ v9 = .bool st.isSome ∧ v10 = .int .i64 k ∧ v11 = .int .i64 n ∧ RP w s st l p cap k n wr) (fun _ _ v10 _ _ _ _ _ _ _ _ _ => s.length + 1 - (intOf v10).toNat)
  case atStart => exact ⟨0, 0, none, [], none, 0, rfl, rfl, rfl, rfl, HRP0.out⟩
  case round =>
    clear HRP0
    obtain ⟨k, n, st, l, p, cap, rfl, rfl, rfl, rfl, hrp⟩ := hrel
    have HRP := Lib.hid hrp
    clear hrp
    by_cases hlt : k < s.length
    · have hd1 : decide ((k : Int) < (s.length : Int)) = true := decide_eq_true (by omega)
      have hd2 : decide (k < s.length) = true := decide_eq_true hlt
      obtain ⟨x, en, hln⟩ := line_at s k hlt
      have HLN := Lib.hid hln
      have hke := hln.lo
      have hes : en ≤ 20000 := by have := hln.hi; have := HS.out; omega
      have hnn : n ≤ 20001 := by have := HRP.out.nn; have := HRP.out.kk; have := HS.out; omega
      have HCS := Lib.hid (cutSub s k en ⟨hln.lo, hln.hi⟩ (by have := HS.out; omega))
      rw [hln.sub] at HCS
      have HKL : Hid (k < s.length) := hlt
      clear hln hlt
      go_wp2_with fail
      clear hd1 hd2
      go_loopw [12] (fun v12 wr => ∃ j : Nat, k ≤ j ∧ j ≤ en ∧ v12 = .int .i64 j ∧ RP w s st l p cap k n wr) (fun v12 _ => en - (intOf v12).toNat)
      case atStart => exact ⟨k, Nat.le_refl _, hke, rfl, HRP.out⟩
      case round =>
        clear HRP
        obtain ⟨j, hkj, hje, rfl, hrp⟩ := hrel
        have HRP := Lib.hid hrp
        clear hrp
        by_cases hj : j < en
        · obtain ⟨c, hgc, hcn⟩ := HLN.out.no j hkj hj
          have hjs : j < s.length := (List.getElem?_eq_some_iff.1 hgc).1
          have hd1 : decide ((j : Int) < (s.length : Int)) = true := decide_eq_true (by omega)
          have hd2 : decide (j < s.length) = true := decide_eq_true hjs
          have hji : (j : Int) < (s.length : Int) := by omega
          have hsc : s[j] = c := by rw [List.getElem?_eq_getElem hjs] at hgc; exact Option.some.inj hgc
          have hcn' : ¬ (s[j]).toNat = 10 := fun e => hcn (by rw [← hsc]; exact UInt8.toNat_inj.1 e)
          have q1 : (((s[j]).toNat : Int) == 10) = false := beq_eq_false_iff_ne.2 (by omega)
          have q2 : (((s[j]).toNat : Int) != 10) = true := bne_iff_ne.2 (by omega)
          clear hcn hcn' hsc hgc
          go_wp2_with fail
          go_roundw
          case rel => exact ⟨j + 1, by omega, by omega, by go_num, HRP.out⟩
          case measure => simp [intOf]; omega
        · obtain rfl : j = en := by omega
          rcases HLN.out.fin with hfin | ⟨hfin, hgc⟩
          · have hd1 : decide ((j : Int) < (s.length : Int)) = false := decide_eq_false (by omega)
            have hd2 : decide (j < s.length) = false := decide_eq_false (by omega)
            clear hfin
            skip
            -- behind the line's end: j = en
            have hcs := HCS.out
            have HXL : Hid (x.length ≤ 20000) := by show _ ≤ _; have := HLN.out.len; have := HS.out; omega
            go_upto_region 16 with fail
            clear hcs HCS
            clear hd1 hd2
            have HKJ : Hid (k ≤ j) := hkj
            clear hke hkj hje
            cases hx : x with
            | nil =>
              have HSTEP : Hid (stepL st x = some st) := by show _ = _; unfold stepL; rw [if_pos (.inl hx)]
              subst hx
              go_wp2_with fail
              go_roundw
              case rel => exact ⟨j + 1, n + 1, st, l, p, cap, rfl, rfl, by go_num, by go_num, HRP.out.same HLN.out HSTEP.out⟩
              case measure => have := HKL.out; have := HKJ.out; simp [intOf]; omega
            | cons c0 xt =>
              rw [← hx]
              have h0x : 0 < x.length := by rw [hx]; simp
              have h0i : (0 : Int) < (x.length : Int) := by omega
              have e1 : (x == []) = false := by rw [hx]; rfl
              have hgz : x[0] = c0 := by simp [hx]
              have hhd : x.head? = some c0 := by rw [hx]; rfl
              have hxn : ¬ x = [] := by rw [hx]; simp
              clear hx
              by_cases h35 : c0 = 35
              · have HSTEP : Hid (stepL st x = some st) := by show _ = _; unfold stepL; rw [if_pos (.inr (by rw [hhd, h35]))]
                have e2 : (((x[0]).toNat : Int) == 35) = true := by rw [hgz, h35]; rfl
                clear hgz hhd hxn h35
                go_wp2_with fail
                go_roundw
                case rel => exact ⟨j + 1, n + 1, st, l, p, cap, rfl, rfl, by go_num, by go_num, HRP.out.same HLN.out HSTEP.out⟩
                case measure => have := HKL.out; have := HKJ.out; simp [intOf]; omega
              · have HSK : Hid (¬ (x = [] ∨ x.head? = some 35)) := fun h => by
                  rcases h with h | h
                  · exact hxn h
                  · rw [hhd] at h; exact h35 (Option.some.inj h)
                have h35' : ¬ c0.toNat = 35 := fun e => h35 (UInt8.toNat_inj.1 e)
                have e2 : (((x[0]).toNat : Int) == 35) = false := by rw [hgz]; exact beq_eq_false_iff_ne.2 (by omega)
                clear hgz hhd hxn h35 h35'
                cases st with
                | none =>
                  go_wp2_with fail
                  refine (rsplit_any x wr (by have := HXL.out; omega)).mono ?_
                  rintro e w2 ⟨p2, c2, rfl, hws, hb2⟩
                  obtain ⟨s0, r, hsp⟩ := sp_form x
                  have HWL := Lib.hid (sp_len x)
                  have hlnx := sp_length x
                  have HCF : Hid (stepL none x = (if s0 = confW then (if r.length = 6 then (numsM 100000 r).map Cf.of else none) else none).map fun c => some (c, [])) := by
                    show _ = _
                    unfold stepL
                    rw [if_neg HSK.out]
                    show (confB x).map _ = _
                    unfold confB
                    rw [hsp]; rfl
                  rw [hsp] at hws HWL hlnx ⊢
                  rw [List.length_cons] at hlnx
                  obtain ⟨b2, o2, rfl⟩ := hws.addr (by simp) (by omega)
                  have HR2 := Lib.hid (HRP.out.below hb2)
                  have HWS := Lib.hid hws
                  have HC0 : Hid (w2.cell? ⟨b2, o2, none⟩ = some (.string (S s0))) := hws.str (j := 0) (by simp)
                  have hle := hws.le
                  have hmx := hws.max
                  clear hws hb2 hsp
                  obtain ⟨NL, hNL⟩ : ∃ NL, (s0 :: r).length = NL := ⟨_, rfl⟩
                  rw [hNL] at HWS hle ⊢
                  have h1n : 1 ≤ NL := by rw [← hNL]; simp
                  have h1i : (1 : Int) ≤ (NL : Int) := by omega
                  have h0n : 0 < NL := by omega
                  have h0l : (0 : Int) < (NL : Int) := by omega
                  clear hNL
                  have hcut := cutSR HWS.out 1 1 rfl h1n
                  have HNM := Lib.hid (rnumbers_any 6 100000 (by omega) (by omega) (cutS (some ⟨b2, o2, none⟩) c2 1) (NL - 1) (c2 - 1) r w2 (ws_drop HWS.out 1 h1n) (fun y hy => by have := HWL.out y (List.mem_cons_of_mem _ hy); have := HXL.out; omega))
                  go_wp2_with fail
                  refine HNM.out.mono ?_
                  rintro y w3 ⟨hb3, hcase⟩
                  have HR3 := Lib.hid (HR2.out.below hb3)
                  have hcw : w3.cell? ⟨b2, o2, none⟩ = some (.string (S s0)) := cell_below HC0.out hb3
                  clear hb3 hcut HNM
                  by_cases hcf : s0 = confW
                  · have q3 : (s0 == [99, 111, 110, 102, 105, 103]) = true := beq_iff_eq.2 hcf
                    have q4 : (s0 != [99, 111, 110, 102, 105, 103]) = false := by rw [bne_eq_false_iff_eq]; exact hcf
                    rw [if_pos hcf] at HCF
                    clear hcf
                    rcases hcase with ⟨hlen, lns, pl, cl, hnl, rfl, hsl, hap⟩ | ⟨hbad, rfl⟩
                    · have hl6 : lns.length = 6 := (numsM_back hnl).2.2.trans hlen
                      have HSTEP : Hid (stepL none x = some (some (Cf.of lns, []))) := by show _ = _; rw [HCF.out, if_pos hlen, hnl]; rfl
                      clear hlen hnl HCF
                      obtain ⟨v0, v1, v2, v3, v4, v5, rfl⟩ : ∃ v0 v1 v2 v3 v4 v5, lns = [v0, v1, v2, v3, v4, v5] := by
                        match lns, hl6 with
                        | [a, b, c, d, e, f], _ => exact ⟨a, b, c, d, e, f, rfl⟩
                      have hsl : Sl w3 pl 6 cl 1 (natsV [v0, v1, v2, v3, v4, v5]) := hsl
                      have h6 : ([v0, v1, v2, v3, v4, v5] : List Nat).length = 6 := rfl
                      rw [h6]
                      have hcc := hsl.le
                      have hcm := hsl.max
                      obtain ⟨b1, o1, rfl⟩ := hsl.addr (by show 0 < 6; omega) (by omega)
                      have HSL := Lib.hid hsl
                      have HBN : Hid (¬ b1 = w.heap.size + 2) := by have h1 : w2.heap.size ≤ b1 := hap _ rfl; have := HR2.out.size; show ¬ _; omega
                      clear hsl hl6 h6 hap
                      go_upto_region 26 with fail
                      have HC : ∀ (i v : Nat), (natsV [v0, v1, v2, v3, v4, v5])[i]? = some (.int .i64 (v : Int)) → Hid (∀ w', Turns (fun k => k = w.heap.size + 2) w3 w' → w'.cell? ⟨b1, o1 + i, none⟩ = some (.int .i64 (v : Int))) := fun i v h w' hb => hb.cell (HSL.out.at (j := i) h) HBN.out
                      have HC0 : Hid (∀ w', Turns (fun k => k = w.heap.size + 2) w3 w' → w'.cell? ⟨b1, o1, none⟩ = some (.int .i64 (v0 : Int))) := HC 0 v0 rfl
                      have HC1 := HC 1 v1 rfl
                      have HC2 := HC 2 v2 rfl
                      have HC3 := HC 3 v3 rfl
                      have HC4 := HC 4 v4 rfl
                      have HC5 := HC 5 v5 rfl
                      have HBK := Lib.hid (built_cf (v0 : Int) (v1 : Int) (v2 : Int) (v3 : Int) (v4 : Int) (v5 : Int))
                      clear HC
                      refine wp_region_tree (Turns (fun k => k = w.heap.size + 2) w3) (.take 0 (.take 1 (.take 2 (.take 3 (.take 4 (.take 5 (.take 6 (.take 7 (.take 8 (.take 9 (.take 10 (.take 11 (.take 12 (.take 13 (.take 14 (.take 15 (.take 16 (.take 17 (.take 18 (.one 19 .nil)))))))))))))))))))) (by kernel_rfl) (by kernel_rfl) (Turns.of_below (below_drew1 _ _)) ?_
                      have hy0 : Below w3.heap.size w3 w3.drew := below_drew1 _ _
                      have ht0 : Turns (fun k => k = w.heap.size + 2) w3 w3.drew := Turns.of_below hy0
                      repeat (first
                        | (refine tree_build rfl (by rfl) 46 _ rfl [(0, .int .i64 (v0 : Int)), (1, .int .i64 (v1 : Int)), (2, .int .i64 (v2 : Int)), (3, .int .i64 (v3 : Int)), (4, .int .i64 (v4 : Int)), (5, .int .i64 (v5 : Int))] rfl _ HBK.out ?_; try simp only [Act.put, List.setIfInBounds_toArray, List.set_cons_zero, List.set_cons_succ])
                        | (apply tree_take; (· rfl); (· rfl); (· (intro w' hb'; go_simp; try with_reducible rfl)); try simp only [Act.put, List.setIfInBounds_toArray, List.set_cons_zero, List.set_cons_succ])
                        | (apply tree_take; (· rfl); (· rfl); (· (intro w' hb'; have hk' := (HC0.out) w' hb'; go_simp; try with_reducible rfl)); try simp only [Act.put, List.setIfInBounds_toArray, List.set_cons_zero, List.set_cons_succ])
                        | (apply tree_take; (· rfl); (· rfl); (· (intro w' hb'; have hk' := (HC1.out) w' hb'; go_simp; try with_reducible rfl)); try simp only [Act.put, List.setIfInBounds_toArray, List.set_cons_zero, List.set_cons_succ])
                        | (apply tree_take; (· rfl); (· rfl); (· (intro w' hb'; have hk' := (HC2.out) w' hb'; go_simp; try with_reducible rfl)); try simp only [Act.put, List.setIfInBounds_toArray, List.set_cons_zero, List.set_cons_succ])
                        | (apply tree_take; (· rfl); (· rfl); (· (intro w' hb'; have hk' := (HC3.out) w' hb'; go_simp; try with_reducible rfl)); try simp only [Act.put, List.setIfInBounds_toArray, List.set_cons_zero, List.set_cons_succ])
                        | (apply tree_take; (· rfl); (· rfl); (· (intro w' hb'; have hk' := (HC4.out) w' hb'; go_simp; try with_reducible rfl)); try simp only [Act.put, List.setIfInBounds_toArray, List.set_cons_zero, List.set_cons_succ])
                        | (apply tree_take; (· rfl); (· rfl); (· (intro w' hb'; have hk' := (HC5.out) w' hb'; go_simp; try with_reducible rfl)); try simp only [Act.put, List.setIfInBounds_toArray, List.set_cons_zero, List.set_cons_succ]))
                      have HRD := Lib.hid (HR3.out.below hy0)
                      clear HC0 HC1 HC2 HC3 HC4 HC5 HSL HBK HR2 HR3 hcw HWS
                      generalize w3.drew = Z at *
                      have hrow := setRow_heap _ _ _ (cfA (Cf.of [v0, v1, v2, v3, v4, v5])) _ _ HRD.out.c2
                      have htr := turns_setRow Z (w.heap.size + 2) (cfA (Cf.of [v0, v1, v2, v3, v4, v5]))
                      have HRZ : Hid (RP w s (some (Cf.of [v0, v1, v2, v3, v4, v5], [])) l p cap (j + 1) (n + 1) (Z.setRow (w.heap.size + 2) (cfA (Cf.of [v0, v1, v2, v3, v4, v5])))) :=
                        HRD.out.step HLN.out HSTEP.out (below_setRow HRD.out.low (by omega) _) (htr.keep HRD.out.r0 (by omega)) (htr.keep HRD.out.r1 (by omega)) hrow (HRD.out.lf.turns htr (fun k hk => .inl (by omega))) HRD.out.ev (by omega)
                      refine tree_one rfl (by rfl) (fun K hK => oper_of_list rfl ?_)
                      refine wpList_store_row rfl 46 _ _ rfl (w.heap.size + 2) (cfA (Cf.of [v0, v1, v2, v3, v4, v5])) rfl rfl 46 (cfA Cf.zero) HRD.out.c2 (infoCf _ rfl) rfl (cfA_one _) ?_
                      have hy1 := ht0.trans htr (fun _ _ h => h)
                      refine only_end (Shut.out hK _ _ hy1 ?_)
                      clear hK K hy0 hy1 ht0 hrow htr HRD
                      try simp only [Act.put]
                      refine tree_nil ?_
                      generalize Z.setRow (w.heap.size + 2) (cfA (Cf.of [v0, v1, v2, v3, v4, v5])) = ZF at *
                      go_wp2_with fail
                      go_roundw
                      case rel => exact ⟨j + 1, n + 1, some (Cf.of [v0, v1, v2, v3, v4, v5], []), l, p, cap, rfl, rfl, by go_num, by go_num, HRZ.out⟩
                      case measure => have := HKL.out; have := HKJ.out; simp [intOf]; omega
                    · have HSTEP : Hid (stepL none x = none) := by
                        show _ = _
                        rw [HCF.out]
                        rcases hbad with hb | hb
                        · have hb : ¬ r.length = 6 := hb
                          rw [if_neg hb]; rfl
                        · rw [hb]
                          split <;> rfl
                      have HPB := Lib.hid (HRP.out.bad HLN.out HSTEP.out)
                      have HR0 := Lib.hid HR3.out.r0
                      have HR1 := Lib.hid HR3.out.r1
                      have HLOW := Lib.hid HR3.out.low
                      clear hbad HCF
                      skip
                      -- an error: none is told. In the world WX: HR0, HR1 (rows), HLOW, and HPB : parseB s = (zero, [], NN, EE)
                      go_wp2_with (first
                        | refine wpList_load_row rfl 46 _ rfl (w.heap.size + 1) rfl 46 (cfA Cf.zero) (0, 0) _ HR1.out Tryd.underlying46 rfl (infoCf _ rfl) ?_
                        | refine wpList_store_row rfl 46 _ _ rfl w.heap.size (cfA Cf.zero) rfl rfl 46 (cfA Cf.zero) HR0.out (infoCf _ rfl) rfl HCO.out ?_)
                      refine bodyPost_ret (results_c3 rfl _ _ _ _ _ _ _ rfl (setRow_heap _ _ _ (cfA Cf.zero) _ _ HR0.out) Tryd.underlying46 rfl (infoCf _ rfl)) rfl ?_
                      exact ⟨none, 0, [], by rw [HPB.out]; rfl, by rw [HPB.out]; rfl, Es.nil _, below_setRow HLOW.out (Nat.le_refl _) _⟩
                  · have q3 : (s0 == [99, 111, 110, 102, 105, 103]) = false := beq_eq_false_iff_ne.2 hcf
                    have q4 : (s0 != [99, 111, 110, 102, 105, 103]) = true := bne_iff_ne.2 hcf
                    have HSTEP : Hid (stepL none x = none) := by show _ = _; rw [HCF.out, if_neg hcf]; rfl
                    have HPB := Lib.hid (HRP.out.bad HLN.out HSTEP.out)
                    have HR0 := Lib.hid HR3.out.r0
                    have HR1 := Lib.hid HR3.out.r1
                    have HLOW := Lib.hid HR3.out.low
                    clear hcf HCF
                    rcases hcase with ⟨hlen, lns, pl, cl, hnl, rfl, hsl, hap⟩ | ⟨hbad, rfl⟩
                    · clear hlen hnl hsl hap
                      skip
                      -- an error: none is told. In the world WX: HR0, HR1 (rows), HLOW, and HPB : parseB s = (zero, [], NN, EE)
                      go_wp2_with (first
                        | refine wpList_load_row rfl 46 _ rfl (w.heap.size + 1) rfl 46 (cfA Cf.zero) (0, 0) _ HR1.out Tryd.underlying46 rfl (infoCf _ rfl) ?_
                        | refine wpList_store_row rfl 46 _ _ rfl w.heap.size (cfA Cf.zero) rfl rfl 46 (cfA Cf.zero) HR0.out (infoCf _ rfl) rfl HCO.out ?_)
                      refine bodyPost_ret (results_c3 rfl _ _ _ _ _ _ _ rfl (setRow_heap _ _ _ (cfA Cf.zero) _ _ HR0.out) Tryd.underlying46 rfl (infoCf _ rfl)) rfl ?_
                      exact ⟨none, 0, [], by rw [HPB.out]; rfl, by rw [HPB.out]; rfl, Es.nil _, below_setRow HLOW.out (Nat.le_refl _) _⟩
                    · clear hbad
                      skip
                      -- an error: none is told. In the world WX: HR0, HR1 (rows), HLOW, and HPB : parseB s = (zero, [], NN, EE)
                      go_wp2_with (first
                        | refine wpList_load_row rfl 46 _ rfl (w.heap.size + 1) rfl 46 (cfA Cf.zero) (0, 0) _ HR1.out Tryd.underlying46 rfl (infoCf _ rfl) ?_
                        | refine wpList_store_row rfl 46 _ _ rfl w.heap.size (cfA Cf.zero) rfl rfl 46 (cfA Cf.zero) HR0.out (infoCf _ rfl) rfl HCO.out ?_)
                      refine bodyPost_ret (results_c3 rfl _ _ _ _ _ _ _ rfl (setRow_heap _ _ _ (cfA Cf.zero) _ _ HR0.out) Tryd.underlying46 rfl (infoCf _ rfl)) rfl ?_
                      exact ⟨none, 0, [], by rw [HPB.out]; rfl, by rw [HPB.out]; rfl, Es.nil _, below_setRow HLOW.out (Nat.le_refl _) _⟩
                | some cl =>
                  obtain ⟨cc0, l0⟩ := cl
                  have HEV : Hid (evs l = l0) := HRP.out.ev
                  have HSR : Hid (stepL (some (cc0, l0)) x = (readE x).map fun e => some (cc0, l0 ++ [e])) := by show _ = _; unfold stepL; rw [if_neg HSK.out]
                  go_wp2_with fail
                  refine (rreadQ_any x wr (by have := HXL.out; omega)).mono ?_
                  rintro e w2 ⟨pb, cb, q, cq, rfl, hat, hfar, hb2⟩
                  obtain ⟨R, hR⟩ : ∃ R, (readE x).getD (Ev.zero 0) = R := ⟨_, rfl⟩
                  rw [hR] at hat ⊢
                  obtain ⟨A, hA⟩ : ∃ A, A = evA R pb cb q cq := ⟨_, rfl⟩
                  have HAS : Hid (A.size = 103) := by show _ = _; rw [hA]; exact evA_size hat.wf _ _ _ _
                  have HAO : Hid (A.all (·.oneCell') = true) := by show _ = _; rw [hA]; exact evA_one _ _ _ _ _
                  have HAE := Lib.hid hA
                  have HZS : Hid (zE.size = 103) := zE_size
                  rw [← hA]
                  have hbx := box_below w2 zE A 37
                  have HQ := Lib.hid (setRow_heap _ _ _ A _ _ (heap_alloc_last w2 (.cells zE 37)))
                  have HR2 := Lib.hid ((HRP.out.below hb2).below hbx)
                  have HAT := Lib.hid (hat.below hbx)
                  have HFAR : Hid (Far ⟨R, pb, cb, q, cq⟩ (w.heap.size + 3) (.slice p l.length cap)) := HRP.out.lf.far (Nat.le_refl _) HRP.out.size hfar.1 hfar.2
                  clear hat hfar hb2 hA hbx
                  cases hre : readE x with
                  | none =>
                    have HSTEP : Hid (stepL (some (cc0, l0)) x = none) := by show _ = _; rw [HSR.out, hre]; rfl
                    have HPB := Lib.hid (HRP.out.bad HLN.out HSTEP.out)
                    have HR0 := Lib.hid HR2.out.r0
                    have HR1 := Lib.hid HR2.out.r1
                    have HLOW := Lib.hid HR2.out.low
                    clear hre hR HSR
                    go_upto_region 19 with (refine wpList_store_row rfl 37 _ _ rfl w2.heap.size A rfl rfl 37 zE (heap_alloc_last _ _) (infoF _ HAS.out) (by rw [HAS.out]; exact HZS.out) HAO.out ?_)
                    generalize (w2.alloc (.cells zE 37)).setRow w2.heap.size A = Z at *
                    skip
                    -- an error: none is told. In the world WX: HR0, HR1 (rows), HLOW, and HPB : parseB s = (zero, [], NN, EE)
                    go_wp2_with (first
                      | refine wpList_load_row rfl 46 _ rfl (w.heap.size + 1) rfl 46 (cfA Cf.zero) (0, 0) _ HR1.out Tryd.underlying46 rfl (infoCf _ rfl) ?_
                      | refine wpList_store_row rfl 46 _ _ rfl w.heap.size (cfA Cf.zero) rfl rfl 46 (cfA Cf.zero) HR0.out (infoCf _ rfl) rfl HCO.out ?_)
                    refine bodyPost_ret (results_c3 rfl _ _ _ _ _ _ _ rfl (setRow_heap _ _ _ (cfA Cf.zero) _ _ HR0.out) Tryd.underlying46 rfl (infoCf _ rfl)) rfl ?_
                    exact ⟨none, 0, [], by rw [HPB.out]; rfl, by rw [HPB.out]; rfl, Es.nil _, below_setRow HLOW.out (Nat.le_refl _) _⟩
                  | some ev =>
                    have hev : ev = R := by rw [← hR, hre]; rfl
                    subst hev
                    have HSTEP : Hid (stepL (some (cc0, l0)) x = some (some (cc0, l0 ++ [ev]))) := by show _ = _; rw [HSR.out, hre]; rfl
                    obtain ⟨r, hr⟩ : ∃ r : ER, r = ⟨ev, pb, cb, q, cq⟩ := ⟨_, rfl⟩
                    have hrA : r.A = A := by rw [hr, HAE.out]; rfl
                    have HRE : Hid (r.e = ev) := by show _ = _; rw [hr]
                    have HFZ : Hid (r.At _ ∧ Far r (w.heap.size + 3) (.slice p l.length cap)) := ⟨by rw [hr]; exact HAT.out, by rw [hr]; exact HFAR.out⟩
                    have HLR : Hid (r.l.length = 103) := ER.len HFZ.out.1
                    clear hre hR HSR hr HAT HAE HFAR
                    subst hrA
                    go_upto_region 19 with (refine wpList_store_row rfl 37 _ _ rfl w2.heap.size r.A rfl rfl 37 zE (heap_alloc_last _ _) (infoF _ HAS.out) (by rw [HAS.out]; exact HZS.out) HAO.out ?_)
                    generalize (w2.alloc (.cells zE 37)).setRow w2.heap.size r.A = Z at *
                    generalize w2.heap.size = gx at *
                    have HX8 := Lib.hid (made_er Z r 37 HLR.out)
                    have hal := Below.allocs Z (.cells r.A 37)
                    have HO8 := Lib.hid (own_touch HR2.out.lf.1 (Turns.of_below (S := fun _ => False) hal) (fun _ _ h => h))
                    have HS8 : Hid (w.heap.size + 3 ≤ (Z.alloc (.cells r.A 37)).heap.size) := Nat.le_trans HR2.out.size hal.size
                    have hnl : l.length ≤ 20001 := by have := HR2.out.ll; omega
                    clear hal
                    go_wp2_with (first
                      | refine wpList_load_row rfl 37 _ rfl gx rfl 37 r.A (0, 0) _ HQ.out Tryd.underlying37 rfl (infoF _ HAS.out) ?_
                      | refine wpList_buildOne rfl 52 37 _ rfl r.A rfl 103 Tryd.underlying52 (by kernel_rfl) (by omega) (by omega) HAS.out ?_
                      | (at_builtin; refine wpList_append_nx rfl _ _ 52 rfl (base := w.heap.size + 3) Tryd.underlying52 infoEF2 (by rw [show (Value.agg zE).cells = zE from rfl]; exact zE_size) (by omega) rfl HO8.out rfl HX8.out (ER.ones r) ⟨by omega, by omega⟩ HS8.out ?_))
                    intro p9 c9 w9 ho9 hgr hnx _
                    obtain ⟨hl9, ht9⟩ := HR2.out.lf.push HFZ.out ho9 hgr (fun k hk => by rw [World.size_alloc]; exact hnx k hk)
                    have HRZ : Hid (RP w s (some (cc0, l0 ++ [ev])) (l ++ [r]) p9 c9 (j + 1) (n + 1) w9) :=
                      HR2.out.step HLN.out HSTEP.out (HR2.out.low.trans (ht9.below HR2.out.low.size (fun k hk => by omega))) (ht9.keep HR2.out.r0 (by omega)) (ht9.keep HR2.out.r1 (by omega)) (ht9.keep HR2.out.c2 (by omega)) hl9 (by unfold evs; rw [List.map_append]; show evs l ++ [r.e] = _; rw [HEV.out, HRE.out]; rfl) (by rw [List.length_append]; exact Nat.le_refl _)
                    have hln1 : (l ++ [r]).length = l.length + 1 := by rw [List.length_append]; rfl
                    clear ho9 hgr hnx hl9 ht9 HO8 HX8 HS8
                    go_wp2_with fail
                    go_roundw
                    case rel => exact ⟨j + 1, n + 1, some (cc0, l0 ++ [ev]), l ++ [r], p9, c9, by rw [hln1], rfl, by go_num, by go_num, HRZ.out⟩
                    case measure => have := HKL.out; have := HKJ.out; simp [intOf]; omega
          · have hd1 : decide ((j : Int) < (s.length : Int)) = true := decide_eq_true (by omega)
            have hd2 : decide (j < s.length) = true := decide_eq_true hfin
            have hji : (j : Int) < (s.length : Int) := by omega
            have hsc : s[j] = 10 := by rw [List.getElem?_eq_getElem hfin] at hgc; exact Option.some.inj hgc
            have hcn' : (s[j]).toNat = 10 := by rw [hsc]; rfl
            have q1 : (((s[j]).toNat : Int) == 10) = true := beq_iff_eq.2 (by omega)
            have q2 : (((s[j]).toNat : Int) != 10) = false := by rw [bne_eq_false_iff_eq]; omega
            clear hcn' hsc hgc
            skip
            -- behind the line's end: j = en
            have hcs := HCS.out
            have HXL : Hid (x.length ≤ 20000) := by show _ ≤ _; have := HLN.out.len; have := HS.out; omega
            go_upto_region 16 with fail
            clear hcs HCS
            clear hd1 hd2
            have HKJ : Hid (k ≤ j) := hkj
            clear hke hkj hje
            cases hx : x with
            | nil =>
              have HSTEP : Hid (stepL st x = some st) := by show _ = _; unfold stepL; rw [if_pos (.inl hx)]
              subst hx
              go_wp2_with fail
              go_roundw
              case rel => exact ⟨j + 1, n + 1, st, l, p, cap, rfl, rfl, by go_num, by go_num, HRP.out.same HLN.out HSTEP.out⟩
              case measure => have := HKL.out; have := HKJ.out; simp [intOf]; omega
            | cons c0 xt =>
              rw [← hx]
              have h0x : 0 < x.length := by rw [hx]; simp
              have h0i : (0 : Int) < (x.length : Int) := by omega
              have e1 : (x == []) = false := by rw [hx]; rfl
              have hgz : x[0] = c0 := by simp [hx]
              have hhd : x.head? = some c0 := by rw [hx]; rfl
              have hxn : ¬ x = [] := by rw [hx]; simp
              clear hx
              by_cases h35 : c0 = 35
              · have HSTEP : Hid (stepL st x = some st) := by show _ = _; unfold stepL; rw [if_pos (.inr (by rw [hhd, h35]))]
                have e2 : (((x[0]).toNat : Int) == 35) = true := by rw [hgz, h35]; rfl
                clear hgz hhd hxn h35
                go_wp2_with fail
                go_roundw
                case rel => exact ⟨j + 1, n + 1, st, l, p, cap, rfl, rfl, by go_num, by go_num, HRP.out.same HLN.out HSTEP.out⟩
                case measure => have := HKL.out; have := HKJ.out; simp [intOf]; omega
              · have HSK : Hid (¬ (x = [] ∨ x.head? = some 35)) := fun h => by
                  rcases h with h | h
                  · exact hxn h
                  · rw [hhd] at h; exact h35 (Option.some.inj h)
                have h35' : ¬ c0.toNat = 35 := fun e => h35 (UInt8.toNat_inj.1 e)
                have e2 : (((x[0]).toNat : Int) == 35) = false := by rw [hgz]; exact beq_eq_false_iff_ne.2 (by omega)
                clear hgz hhd hxn h35 h35'
                cases st with
                | none =>
                  go_wp2_with fail
                  refine (rsplit_any x wr (by have := HXL.out; omega)).mono ?_
                  rintro e w2 ⟨p2, c2, rfl, hws, hb2⟩
                  obtain ⟨s0, r, hsp⟩ := sp_form x
                  have HWL := Lib.hid (sp_len x)
                  have hlnx := sp_length x
                  have HCF : Hid (stepL none x = (if s0 = confW then (if r.length = 6 then (numsM 100000 r).map Cf.of else none) else none).map fun c => some (c, [])) := by
                    show _ = _
                    unfold stepL
                    rw [if_neg HSK.out]
                    show (confB x).map _ = _
                    unfold confB
                    rw [hsp]; rfl
                  rw [hsp] at hws HWL hlnx ⊢
                  rw [List.length_cons] at hlnx
                  obtain ⟨b2, o2, rfl⟩ := hws.addr (by simp) (by omega)
                  have HR2 := Lib.hid (HRP.out.below hb2)
                  have HWS := Lib.hid hws
                  have HC0 : Hid (w2.cell? ⟨b2, o2, none⟩ = some (.string (S s0))) := hws.str (j := 0) (by simp)
                  have hle := hws.le
                  have hmx := hws.max
                  clear hws hb2 hsp
                  obtain ⟨NL, hNL⟩ : ∃ NL, (s0 :: r).length = NL := ⟨_, rfl⟩
                  rw [hNL] at HWS hle ⊢
                  have h1n : 1 ≤ NL := by rw [← hNL]; simp
                  have h1i : (1 : Int) ≤ (NL : Int) := by omega
                  have h0n : 0 < NL := by omega
                  have h0l : (0 : Int) < (NL : Int) := by omega
                  clear hNL
                  have hcut := cutSR HWS.out 1 1 rfl h1n
                  have HNM := Lib.hid (rnumbers_any 6 100000 (by omega) (by omega) (cutS (some ⟨b2, o2, none⟩) c2 1) (NL - 1) (c2 - 1) r w2 (ws_drop HWS.out 1 h1n) (fun y hy => by have := HWL.out y (List.mem_cons_of_mem _ hy); have := HXL.out; omega))
                  go_wp2_with fail
                  refine HNM.out.mono ?_
                  rintro y w3 ⟨hb3, hcase⟩
                  have HR3 := Lib.hid (HR2.out.below hb3)
                  have hcw : w3.cell? ⟨b2, o2, none⟩ = some (.string (S s0)) := cell_below HC0.out hb3
                  clear hb3 hcut HNM
                  by_cases hcf : s0 = confW
                  · have q3 : (s0 == [99, 111, 110, 102, 105, 103]) = true := beq_iff_eq.2 hcf
                    have q4 : (s0 != [99, 111, 110, 102, 105, 103]) = false := by rw [bne_eq_false_iff_eq]; exact hcf
                    rw [if_pos hcf] at HCF
                    clear hcf
                    rcases hcase with ⟨hlen, lns, pl, cl, hnl, rfl, hsl, hap⟩ | ⟨hbad, rfl⟩
                    · have hl6 : lns.length = 6 := (numsM_back hnl).2.2.trans hlen
                      have HSTEP : Hid (stepL none x = some (some (Cf.of lns, []))) := by show _ = _; rw [HCF.out, if_pos hlen, hnl]; rfl
                      clear hlen hnl HCF
                      obtain ⟨v0, v1, v2, v3, v4, v5, rfl⟩ : ∃ v0 v1 v2 v3 v4 v5, lns = [v0, v1, v2, v3, v4, v5] := by
                        match lns, hl6 with
                        | [a, b, c, d, e, f], _ => exact ⟨a, b, c, d, e, f, rfl⟩
                      have hsl : Sl w3 pl 6 cl 1 (natsV [v0, v1, v2, v3, v4, v5]) := hsl
                      have h6 : ([v0, v1, v2, v3, v4, v5] : List Nat).length = 6 := rfl
                      rw [h6]
                      have hcc := hsl.le
                      have hcm := hsl.max
                      obtain ⟨b1, o1, rfl⟩ := hsl.addr (by show 0 < 6; omega) (by omega)
                      have HSL := Lib.hid hsl
                      have HBN : Hid (¬ b1 = w.heap.size + 2) := by have h1 : w2.heap.size ≤ b1 := hap _ rfl; have := HR2.out.size; show ¬ _; omega
                      clear hsl hl6 h6 hap
                      go_upto_region 26 with fail
                      have HC : ∀ (i v : Nat), (natsV [v0, v1, v2, v3, v4, v5])[i]? = some (.int .i64 (v : Int)) → Hid (∀ w', Turns (fun k => k = w.heap.size + 2) w3 w' → w'.cell? ⟨b1, o1 + i, none⟩ = some (.int .i64 (v : Int))) := fun i v h w' hb => hb.cell (HSL.out.at (j := i) h) HBN.out
                      have HC0 : Hid (∀ w', Turns (fun k => k = w.heap.size + 2) w3 w' → w'.cell? ⟨b1, o1, none⟩ = some (.int .i64 (v0 : Int))) := HC 0 v0 rfl
                      have HC1 := HC 1 v1 rfl
                      have HC2 := HC 2 v2 rfl
                      have HC3 := HC 3 v3 rfl
                      have HC4 := HC 4 v4 rfl
                      have HC5 := HC 5 v5 rfl
                      have HBK := Lib.hid (built_cf (v0 : Int) (v1 : Int) (v2 : Int) (v3 : Int) (v4 : Int) (v5 : Int))
                      clear HC
                      refine wp_region_tree (Turns (fun k => k = w.heap.size + 2) w3) (.take 0 (.take 1 (.take 2 (.take 3 (.take 4 (.take 5 (.take 6 (.take 7 (.take 8 (.take 9 (.take 10 (.take 11 (.take 12 (.take 13 (.take 14 (.take 15 (.take 16 (.take 17 (.take 18 (.one 19 .nil)))))))))))))))))))) (by kernel_rfl) (by kernel_rfl) (Turns.of_below (below_drew1 _ _)) ?_
                      have hy0 : Below w3.heap.size w3 w3.drew := below_drew1 _ _
                      have ht0 : Turns (fun k => k = w.heap.size + 2) w3 w3.drew := Turns.of_below hy0
                      repeat (first
                        | (refine tree_build rfl (by rfl) 46 _ rfl [(0, .int .i64 (v0 : Int)), (1, .int .i64 (v1 : Int)), (2, .int .i64 (v2 : Int)), (3, .int .i64 (v3 : Int)), (4, .int .i64 (v4 : Int)), (5, .int .i64 (v5 : Int))] rfl _ HBK.out ?_; try simp only [Act.put, List.setIfInBounds_toArray, List.set_cons_zero, List.set_cons_succ])
                        | (apply tree_take; (· rfl); (· rfl); (· (intro w' hb'; go_simp; try with_reducible rfl)); try simp only [Act.put, List.setIfInBounds_toArray, List.set_cons_zero, List.set_cons_succ])
                        | (apply tree_take; (· rfl); (· rfl); (· (intro w' hb'; have hk' := (HC0.out) w' hb'; go_simp; try with_reducible rfl)); try simp only [Act.put, List.setIfInBounds_toArray, List.set_cons_zero, List.set_cons_succ])
                        | (apply tree_take; (· rfl); (· rfl); (· (intro w' hb'; have hk' := (HC1.out) w' hb'; go_simp; try with_reducible rfl)); try simp only [Act.put, List.setIfInBounds_toArray, List.set_cons_zero, List.set_cons_succ])
                        | (apply tree_take; (· rfl); (· rfl); (· (intro w' hb'; have hk' := (HC2.out) w' hb'; go_simp; try with_reducible rfl)); try simp only [Act.put, List.setIfInBounds_toArray, List.set_cons_zero, List.set_cons_succ])
                        | (apply tree_take; (· rfl); (· rfl); (· (intro w' hb'; have hk' := (HC3.out) w' hb'; go_simp; try with_reducible rfl)); try simp only [Act.put, List.setIfInBounds_toArray, List.set_cons_zero, List.set_cons_succ])
                        | (apply tree_take; (· rfl); (· rfl); (· (intro w' hb'; have hk' := (HC4.out) w' hb'; go_simp; try with_reducible rfl)); try simp only [Act.put, List.setIfInBounds_toArray, List.set_cons_zero, List.set_cons_succ])
                        | (apply tree_take; (· rfl); (· rfl); (· (intro w' hb'; have hk' := (HC5.out) w' hb'; go_simp; try with_reducible rfl)); try simp only [Act.put, List.setIfInBounds_toArray, List.set_cons_zero, List.set_cons_succ]))
                      have HRD := Lib.hid (HR3.out.below hy0)
                      clear HC0 HC1 HC2 HC3 HC4 HC5 HSL HBK HR2 HR3 hcw HWS
                      generalize w3.drew = Z at *
                      have hrow := setRow_heap _ _ _ (cfA (Cf.of [v0, v1, v2, v3, v4, v5])) _ _ HRD.out.c2
                      have htr := turns_setRow Z (w.heap.size + 2) (cfA (Cf.of [v0, v1, v2, v3, v4, v5]))
                      have HRZ : Hid (RP w s (some (Cf.of [v0, v1, v2, v3, v4, v5], [])) l p cap (j + 1) (n + 1) (Z.setRow (w.heap.size + 2) (cfA (Cf.of [v0, v1, v2, v3, v4, v5])))) :=
                        HRD.out.step HLN.out HSTEP.out (below_setRow HRD.out.low (by omega) _) (htr.keep HRD.out.r0 (by omega)) (htr.keep HRD.out.r1 (by omega)) hrow (HRD.out.lf.turns htr (fun k hk => .inl (by omega))) HRD.out.ev (by omega)
                      refine tree_one rfl (by rfl) (fun K hK => oper_of_list rfl ?_)
                      refine wpList_store_row rfl 46 _ _ rfl (w.heap.size + 2) (cfA (Cf.of [v0, v1, v2, v3, v4, v5])) rfl rfl 46 (cfA Cf.zero) HRD.out.c2 (infoCf _ rfl) rfl (cfA_one _) ?_
                      have hy1 := ht0.trans htr (fun _ _ h => h)
                      refine only_end (Shut.out hK _ _ hy1 ?_)
                      clear hK K hy0 hy1 ht0 hrow htr HRD
                      try simp only [Act.put]
                      refine tree_nil ?_
                      generalize Z.setRow (w.heap.size + 2) (cfA (Cf.of [v0, v1, v2, v3, v4, v5])) = ZF at *
                      go_wp2_with fail
                      go_roundw
                      case rel => exact ⟨j + 1, n + 1, some (Cf.of [v0, v1, v2, v3, v4, v5], []), l, p, cap, rfl, rfl, by go_num, by go_num, HRZ.out⟩
                      case measure => have := HKL.out; have := HKJ.out; simp [intOf]; omega
                    · have HSTEP : Hid (stepL none x = none) := by
                        show _ = _
                        rw [HCF.out]
                        rcases hbad with hb | hb
                        · have hb : ¬ r.length = 6 := hb
                          rw [if_neg hb]; rfl
                        · rw [hb]
                          split <;> rfl
                      have HPB := Lib.hid (HRP.out.bad HLN.out HSTEP.out)
                      have HR0 := Lib.hid HR3.out.r0
                      have HR1 := Lib.hid HR3.out.r1
                      have HLOW := Lib.hid HR3.out.low
                      clear hbad HCF
                      skip
                      -- an error: none is told. In the world WX: HR0, HR1 (rows), HLOW, and HPB : parseB s = (zero, [], NN, EE)
                      go_wp2_with (first
                        | refine wpList_load_row rfl 46 _ rfl (w.heap.size + 1) rfl 46 (cfA Cf.zero) (0, 0) _ HR1.out Tryd.underlying46 rfl (infoCf _ rfl) ?_
                        | refine wpList_store_row rfl 46 _ _ rfl w.heap.size (cfA Cf.zero) rfl rfl 46 (cfA Cf.zero) HR0.out (infoCf _ rfl) rfl HCO.out ?_)
                      refine bodyPost_ret (results_c3 rfl _ _ _ _ _ _ _ rfl (setRow_heap _ _ _ (cfA Cf.zero) _ _ HR0.out) Tryd.underlying46 rfl (infoCf _ rfl)) rfl ?_
                      exact ⟨none, 0, [], by rw [HPB.out]; rfl, by rw [HPB.out]; rfl, Es.nil _, below_setRow HLOW.out (Nat.le_refl _) _⟩
                  · have q3 : (s0 == [99, 111, 110, 102, 105, 103]) = false := beq_eq_false_iff_ne.2 hcf
                    have q4 : (s0 != [99, 111, 110, 102, 105, 103]) = true := bne_iff_ne.2 hcf
                    have HSTEP : Hid (stepL none x = none) := by show _ = _; rw [HCF.out, if_neg hcf]; rfl
                    have HPB := Lib.hid (HRP.out.bad HLN.out HSTEP.out)
                    have HR0 := Lib.hid HR3.out.r0
                    have HR1 := Lib.hid HR3.out.r1
                    have HLOW := Lib.hid HR3.out.low
                    clear hcf HCF
                    rcases hcase with ⟨hlen, lns, pl, cl, hnl, rfl, hsl, hap⟩ | ⟨hbad, rfl⟩
                    · clear hlen hnl hsl hap
                      skip
                      -- an error: none is told. In the world WX: HR0, HR1 (rows), HLOW, and HPB : parseB s = (zero, [], NN, EE)
                      go_wp2_with (first
                        | refine wpList_load_row rfl 46 _ rfl (w.heap.size + 1) rfl 46 (cfA Cf.zero) (0, 0) _ HR1.out Tryd.underlying46 rfl (infoCf _ rfl) ?_
                        | refine wpList_store_row rfl 46 _ _ rfl w.heap.size (cfA Cf.zero) rfl rfl 46 (cfA Cf.zero) HR0.out (infoCf _ rfl) rfl HCO.out ?_)
                      refine bodyPost_ret (results_c3 rfl _ _ _ _ _ _ _ rfl (setRow_heap _ _ _ (cfA Cf.zero) _ _ HR0.out) Tryd.underlying46 rfl (infoCf _ rfl)) rfl ?_
                      exact ⟨none, 0, [], by rw [HPB.out]; rfl, by rw [HPB.out]; rfl, Es.nil _, below_setRow HLOW.out (Nat.le_refl _) _⟩
                    · clear hbad
                      skip
                      -- an error: none is told. In the world WX: HR0, HR1 (rows), HLOW, and HPB : parseB s = (zero, [], NN, EE)
                      go_wp2_with (first
                        | refine wpList_load_row rfl 46 _ rfl (w.heap.size + 1) rfl 46 (cfA Cf.zero) (0, 0) _ HR1.out Tryd.underlying46 rfl (infoCf _ rfl) ?_
                        | refine wpList_store_row rfl 46 _ _ rfl w.heap.size (cfA Cf.zero) rfl rfl 46 (cfA Cf.zero) HR0.out (infoCf _ rfl) rfl HCO.out ?_)
                      refine bodyPost_ret (results_c3 rfl _ _ _ _ _ _ _ rfl (setRow_heap _ _ _ (cfA Cf.zero) _ _ HR0.out) Tryd.underlying46 rfl (infoCf _ rfl)) rfl ?_
                      exact ⟨none, 0, [], by rw [HPB.out]; rfl, by rw [HPB.out]; rfl, Es.nil _, below_setRow HLOW.out (Nat.le_refl _) _⟩
                | some cl =>
                  obtain ⟨cc0, l0⟩ := cl
                  have HEV : Hid (evs l = l0) := HRP.out.ev
                  have HSR : Hid (stepL (some (cc0, l0)) x = (readE x).map fun e => some (cc0, l0 ++ [e])) := by show _ = _; unfold stepL; rw [if_neg HSK.out]
                  go_wp2_with fail
                  refine (rreadQ_any x wr (by have := HXL.out; omega)).mono ?_
                  rintro e w2 ⟨pb, cb, q, cq, rfl, hat, hfar, hb2⟩
                  obtain ⟨R, hR⟩ : ∃ R, (readE x).getD (Ev.zero 0) = R := ⟨_, rfl⟩
                  rw [hR] at hat ⊢
                  obtain ⟨A, hA⟩ : ∃ A, A = evA R pb cb q cq := ⟨_, rfl⟩
                  have HAS : Hid (A.size = 103) := by show _ = _; rw [hA]; exact evA_size hat.wf _ _ _ _
                  have HAO : Hid (A.all (·.oneCell') = true) := by show _ = _; rw [hA]; exact evA_one _ _ _ _ _
                  have HAE := Lib.hid hA
                  have HZS : Hid (zE.size = 103) := zE_size
                  rw [← hA]
                  have hbx := box_below w2 zE A 37
                  have HQ := Lib.hid (setRow_heap _ _ _ A _ _ (heap_alloc_last w2 (.cells zE 37)))
                  have HR2 := Lib.hid ((HRP.out.below hb2).below hbx)
                  have HAT := Lib.hid (hat.below hbx)
                  have HFAR : Hid (Far ⟨R, pb, cb, q, cq⟩ (w.heap.size + 3) (.slice p l.length cap)) := HRP.out.lf.far (Nat.le_refl _) HRP.out.size hfar.1 hfar.2
                  clear hat hfar hb2 hA hbx
                  cases hre : readE x with
                  | none =>
                    have HSTEP : Hid (stepL (some (cc0, l0)) x = none) := by show _ = _; rw [HSR.out, hre]; rfl
                    have HPB := Lib.hid (HRP.out.bad HLN.out HSTEP.out)
                    have HR0 := Lib.hid HR2.out.r0
                    have HR1 := Lib.hid HR2.out.r1
                    have HLOW := Lib.hid HR2.out.low
                    clear hre hR HSR
                    go_upto_region 19 with (refine wpList_store_row rfl 37 _ _ rfl w2.heap.size A rfl rfl 37 zE (heap_alloc_last _ _) (infoF _ HAS.out) (by rw [HAS.out]; exact HZS.out) HAO.out ?_)
                    generalize (w2.alloc (.cells zE 37)).setRow w2.heap.size A = Z at *
                    skip
                    -- an error: none is told. In the world WX: HR0, HR1 (rows), HLOW, and HPB : parseB s = (zero, [], NN, EE)
                    go_wp2_with (first
                      | refine wpList_load_row rfl 46 _ rfl (w.heap.size + 1) rfl 46 (cfA Cf.zero) (0, 0) _ HR1.out Tryd.underlying46 rfl (infoCf _ rfl) ?_
                      | refine wpList_store_row rfl 46 _ _ rfl w.heap.size (cfA Cf.zero) rfl rfl 46 (cfA Cf.zero) HR0.out (infoCf _ rfl) rfl HCO.out ?_)
                    refine bodyPost_ret (results_c3 rfl _ _ _ _ _ _ _ rfl (setRow_heap _ _ _ (cfA Cf.zero) _ _ HR0.out) Tryd.underlying46 rfl (infoCf _ rfl)) rfl ?_
                    exact ⟨none, 0, [], by rw [HPB.out]; rfl, by rw [HPB.out]; rfl, Es.nil _, below_setRow HLOW.out (Nat.le_refl _) _⟩
                  | some ev =>
                    have hev : ev = R := by rw [← hR, hre]; rfl
                    subst hev
                    have HSTEP : Hid (stepL (some (cc0, l0)) x = some (some (cc0, l0 ++ [ev]))) := by show _ = _; rw [HSR.out, hre]; rfl
                    obtain ⟨r, hr⟩ : ∃ r : ER, r = ⟨ev, pb, cb, q, cq⟩ := ⟨_, rfl⟩
                    have hrA : r.A = A := by rw [hr, HAE.out]; rfl
                    have HRE : Hid (r.e = ev) := by show _ = _; rw [hr]
                    have HFZ : Hid (r.At _ ∧ Far r (w.heap.size + 3) (.slice p l.length cap)) := ⟨by rw [hr]; exact HAT.out, by rw [hr]; exact HFAR.out⟩
                    have HLR : Hid (r.l.length = 103) := ER.len HFZ.out.1
                    clear hre hR HSR hr HAT HAE HFAR
                    subst hrA
                    go_upto_region 19 with (refine wpList_store_row rfl 37 _ _ rfl w2.heap.size r.A rfl rfl 37 zE (heap_alloc_last _ _) (infoF _ HAS.out) (by rw [HAS.out]; exact HZS.out) HAO.out ?_)
                    generalize (w2.alloc (.cells zE 37)).setRow w2.heap.size r.A = Z at *
                    generalize w2.heap.size = gx at *
                    have HX8 := Lib.hid (made_er Z r 37 HLR.out)
                    have hal := Below.allocs Z (.cells r.A 37)
                    have HO8 := Lib.hid (own_touch HR2.out.lf.1 (Turns.of_below (S := fun _ => False) hal) (fun _ _ h => h))
                    have HS8 : Hid (w.heap.size + 3 ≤ (Z.alloc (.cells r.A 37)).heap.size) := Nat.le_trans HR2.out.size hal.size
                    have hnl : l.length ≤ 20001 := by have := HR2.out.ll; omega
                    clear hal
                    go_wp2_with (first
                      | refine wpList_load_row rfl 37 _ rfl gx rfl 37 r.A (0, 0) _ HQ.out Tryd.underlying37 rfl (infoF _ HAS.out) ?_
                      | refine wpList_buildOne rfl 52 37 _ rfl r.A rfl 103 Tryd.underlying52 (by kernel_rfl) (by omega) (by omega) HAS.out ?_
                      | (at_builtin; refine wpList_append_nx rfl _ _ 52 rfl (base := w.heap.size + 3) Tryd.underlying52 infoEF2 (by rw [show (Value.agg zE).cells = zE from rfl]; exact zE_size) (by omega) rfl HO8.out rfl HX8.out (ER.ones r) ⟨by omega, by omega⟩ HS8.out ?_))
                    intro p9 c9 w9 ho9 hgr hnx _
                    obtain ⟨hl9, ht9⟩ := HR2.out.lf.push HFZ.out ho9 hgr (fun k hk => by rw [World.size_alloc]; exact hnx k hk)
                    have HRZ : Hid (RP w s (some (cc0, l0 ++ [ev])) (l ++ [r]) p9 c9 (j + 1) (n + 1) w9) :=
                      HR2.out.step HLN.out HSTEP.out (HR2.out.low.trans (ht9.below HR2.out.low.size (fun k hk => by omega))) (ht9.keep HR2.out.r0 (by omega)) (ht9.keep HR2.out.r1 (by omega)) (ht9.keep HR2.out.c2 (by omega)) hl9 (by unfold evs; rw [List.map_append]; show evs l ++ [r.e] = _; rw [HEV.out, HRE.out]; rfl) (by rw [List.length_append]; exact Nat.le_refl _)
                    have hln1 : (l ++ [r]).length = l.length + 1 := by rw [List.length_append]; rfl
                    clear ho9 hgr hnx hl9 ht9 HO8 HX8 HS8
                    go_wp2_with fail
                    go_roundw
                    case rel => exact ⟨j + 1, n + 1, some (cc0, l0 ++ [ev]), l ++ [r], p9, c9, by rw [hln1], rfl, by go_num, by go_num, HRZ.out⟩
                    case measure => have := HKL.out; have := HKJ.out; simp [intOf]; omega
    · have hd1 : decide ((k : Int) < (s.length : Int)) = false := decide_eq_false (by omega)
      have hd2 : decide (k < s.length) = false := decide_eq_false hlt
      have HGO : Hid (parseB s = goB st [] n) := by
        show _ = _
        rw [HRP.out.go, List.drop_of_length_le (by omega)]; rfl
      cases st with
      | none =>
        have HPB : Hid (parseB s = (Cf.zero, [], (n : Int) + 1, 4)) := HGO.out
        have HR0 := Lib.hid HRP.out.r0
        have HR1 := Lib.hid HRP.out.r1
        have HLOW := Lib.hid HRP.out.low
        have hnn : n ≤ 20001 := by have := HRP.out.nn; have := HRP.out.kk; have := HS.out; omega
        clear HGO hlt
        skip
        -- an error: none is told. In the world WX: HR0, HR1 (rows), HLOW, and HPB : parseB s = (zero, [], NN, EE)
        go_wp2_with (first
          | refine wpList_load_row rfl 46 _ rfl (w.heap.size + 1) rfl 46 (cfA Cf.zero) (0, 0) _ HR1.out Tryd.underlying46 rfl (infoCf _ rfl) ?_
          | refine wpList_store_row rfl 46 _ _ rfl w.heap.size (cfA Cf.zero) rfl rfl 46 (cfA Cf.zero) HR0.out (infoCf _ rfl) rfl HCO.out ?_)
        refine bodyPost_ret (results_c3 rfl _ _ _ _ _ _ _ rfl (setRow_heap _ _ _ (cfA Cf.zero) _ _ HR0.out) Tryd.underlying46 rfl (infoCf _ rfl)) rfl ?_
        exact ⟨none, 0, [], by rw [HPB.out]; rfl, by rw [HPB.out]; rfl, Es.nil _, below_setRow HLOW.out (Nat.le_refl _) _⟩
      | some cl =>
        obtain ⟨cc0, l0⟩ := cl
        have HEV : Hid (evs l = l0) := HRP.out.ev
        have HPB : Hid (parseB s = (cc0, l0, 0, 0)) := HGO.out
        have HR0 := Lib.hid HRP.out.r0
        have HR2 : Hid (wr.heap[w.heap.size + 2]? = some (.cells (cfA cc0) 46 (0, 0))) := HRP.out.c2
        clear HGO hlt
        go_wp2_with (first
          | refine wpList_load_row rfl 46 _ rfl (w.heap.size + 2) rfl 46 (cfA cc0) (0, 0) _ HR2.out Tryd.underlying46 rfl (infoCf _ rfl) ?_
          | refine wpList_store_row rfl 46 _ _ rfl w.heap.size (cfA cc0) rfl rfl 46 (cfA Cf.zero) HR0.out (infoCf _ rfl) rfl (cfA_one _) ?_)
        refine bodyPost_ret (results_c3 rfl _ _ _ _ _ _ _ rfl (setRow_heap _ _ _ (cfA cc0) _ _ HR0.out) Tryd.underlying46 rfl (infoCf _ rfl)) rfl ?_
        exact ⟨p, cap, l, by rw [HPB.out]; exact HEV.out, by rw [HPB.out]; rfl, (HRP.out.lf.turns (turns_setRow wr w.heap.size (cfA cc0)) (fun k hk => .inl (by omega))).es, below_setRow HRP.out.low (Nat.le_refl _) _⟩
end Go.Proofs.YtcddgbobbogpgaaDoor.Scr

namespace Go.Proofs.YtcddgbobbogpgaaDoor.Scr
open Go.Mir Go.Mir.Hx HexW Rpl
open Go.Lib (join joinTail)

def sumL (ls : List (List UInt8)) : Nat := (ls.map fun x => x.length + 1).sum
theorem sumL_cons (x : List UInt8) (ls : List (List UInt8)) : sumL (x :: ls) = x.length + 1 + sumL ls := by simp [sumL]
theorem conf_back {s : List UInt8} {c : Cf} (h : confB s = some c) : headL c = s ∧ ∀ x ∈ c.l, okC x := by
  unfold confB at h
  split at h
  · rename_i h0
    split at h
    · rename_i h6
      obtain ⟨ns, hn, rfl⟩ := Option.map_eq_some_iff.1 h
      obtain ⟨h1, h2, h3⟩ := numsM_back hn
      rw [h6] at h3
      match ns, h3 with
      | [a, b, c, d, e, f], _ =>
        have hl : (Cf.of [a, b, c, d, e, f]).l = [(a : Int), b, c, d, e, f] := rfl
        refine ⟨?_, fun x hx => ?_⟩
        · have hw : confW :: ((Cf.of [a, b, c, d, e, f]).l.map fun x => decL x.toNat) = sp s := by
            rw [hl]
            show confW :: [a, b, c, d, e, f].map decL = sp s
            rw [h1]
            obtain ⟨s0, r, hs⟩ := sp_form s
            rw [hs] at h0 ⊢
            have h0 : s0 = confW := h0
            rw [h0]; rfl
          unfold headL
          rw [hw]
          exact join_sp s
        · rw [hl] at hx
          have key : ∀ n ∈ [a, b, c, d, e, f], okC (n : Int) := fun n hn => by have := h2 n hn; exact ⟨by omega, by omega⟩
          simp only [List.mem_cons, List.not_mem_nil, or_false] at hx key
          rcases hx with rfl | rfl | rfl | rfl | rfl | rfl <;> exact key _ (by simp)
    · cases h
  · cases h
/-- what was parsed behind the lines ls -/
def GoP (st : Option (Cf × List Ev)) (ls : List (List UInt8)) (c : Cf) (l : List Ev) (m e : Int) : Prop :=
  (e = 0 ∧ m = 0 ∧ match st with
    | none => (∀ x ∈ c.l, okC x) ∧ (∀ e ∈ l, Good e ∧ e.Wf) ∧ (textB c l).length ≤ sumL ls ∧ l.length ≤ ls.length
    | some (c0, l0) => c = c0 ∧ ∃ l1, l = l0 ++ l1 ∧ (∀ e ∈ l1, Good e ∧ e.Wf) ∧ (flatT (l1.map lineE)).length ≤ sumL ls ∧ l1.length ≤ ls.length) ∨
  (e = 4 ∧ c = Cf.zero ∧ l = [])
theorem flatT_cons (x : List UInt8) (ls : List (List UInt8)) : (flatT (x :: ls)).length = x.length + 1 + (flatT ls).length := by simp [flatT]; omega
theorem go_facts : ∀ (ls : List (List UInt8)) (st : Option (Cf × List Ev)) (n : Nat), GoP st ls (goB st ls n).1 (goB st ls n).2.1 (goB st ls n).2.2.1 (goB st ls n).2.2.2
  | [], none, n => .inr ⟨rfl, rfl, rfl⟩
  | [], some (c, l), n => .inl ⟨rfl, rfl, rfl, [], (List.append_nil l).symm, (fun _ h => nomatch h), Nat.le_refl _, Nat.le_refl _⟩
  | x :: r, st, n => by
    rw [go_cons]
    cases hs : stepL st x with
    | none => exact .inr ⟨rfl, rfl, rfl⟩
    | some st' =>
      dsimp only
      have ih := go_facts r st' (n + 1)
      generalize goB st' r (n + 1) = g at ih
      obtain ⟨c, l, m, e⟩ := g
      dsimp only at ih ⊢
      rcases ih with ⟨he, hm, ih⟩ | ih
      rotate_left
      · exact .inr ih
      refine .inl ⟨he, hm, ?_⟩
      unfold stepL at hs
      split at hs
      · obtain rfl := Option.some.inj hs
        cases st with
        | none =>
          obtain ⟨i1, i2, i3, i4⟩ := ih
          exact ⟨i1, i2, by rw [sumL_cons]; omega, by rw [List.length_cons]; omega⟩
        | some cl =>
          obtain ⟨i1, l1, i2, i3, i4, i5⟩ := ih
          exact ⟨i1, l1, i2, i3, by rw [sumL_cons]; omega, by rw [List.length_cons]; omega⟩
      · cases st with
        | none =>
          obtain ⟨c1, hc, rfl⟩ := Option.map_eq_some_iff.1 hs
          obtain ⟨rfl, l1, hl, i3, i4, i5⟩ := ih
          obtain ⟨k1, k2⟩ := conf_back hc
          obtain rfl : l = l1 := hl
          refine ⟨k2, i3, ?_, by rw [List.length_cons]; omega⟩
          unfold textB
          rw [flatT_cons, k1, sumL_cons]
          omega
        | some cl =>
          obtain ⟨c0, l0⟩ := cl
          obtain ⟨ev, hev, rfl⟩ := Option.map_eq_some_iff.1 hs
          obtain ⟨i1, l1, i2, i3, i4, i5⟩ := ih
          obtain ⟨k1, k2, k3⟩ := line_read hev
          refine ⟨i1, ev :: l1, by rw [i2]; simp, fun y hy => ?_, ?_, by rw [List.length_cons, List.length_cons]; omega⟩
          · rcases List.mem_cons.1 hy with rfl | hy
            · exact ⟨k2, k3⟩
            · exact i3 y hy
          · rw [List.map_cons, flatT_cons, k1, sumL_cons]
            omega
theorem parse_facts (s : List UInt8) : ((parseB s).2.2.2 = 0 ∧ (parseB s).2.2.1 = 0 ∧ (∀ x ∈ (parseB s).1.l, okC x) ∧ (∀ e ∈ (parseB s).2.1, Good e ∧ e.Wf) ∧ (textB (parseB s).1 (parseB s).2.1).length ≤ s.length + 1 ∧ (parseB s).2.1.length ≤ 20000 ∧ s.length ≤ 20000) ∨
    ((parseB s).2.2.2 ≠ 0 ∧ (parseB s).1 = Cf.zero ∧ (parseB s).2.1 = []) := by
  unfold parseB
  split
  · exact .inr ⟨by decide, rfl, rfl⟩
  · rename_i hs
    have h := go_facts (linesL s) none 0
    have hsum : sumL (linesL s) ≤ s.length + 1 := (lines_sum s.length s (Nat.le_refl _)).1
    have hlen : (linesL s).length ≤ sumL (linesL s) := by
      generalize linesL s = ls
      induction ls with
      | nil => exact Nat.le_refl _
      | cons x r ih => rw [sumL_cons, List.length_cons]; omega
    have hlen2 : ∀ ls : List (List UInt8), ls.length ≤ sumL ls := fun ls => by
      induction ls with
      | nil => exact Nat.le_refl _
      | cons x r ih => rw [sumL_cons, List.length_cons]; omega
    generalize goB none (linesL s) 0 = g at h
    obtain ⟨c, l, m, e⟩ := g
    dsimp only at h ⊢
    rcases h with ⟨he, hm, h1, h2, h3, h4⟩ | ⟨he, h1, h2⟩
    · refine .inl ⟨he, hm, h1, h2, by omega, ?_, by omega⟩
      have h5 : l.length + 1 ≤ (textB c l).length := by
        unfold textB
        rw [flatT_cons]
        have h6 : ∀ k : List Ev, k.length ≤ (flatT (k.map lineE)).length := fun k => by
          induction k with
          | nil => exact Nat.le_refl _
          | cons x r ih => rw [List.map_cons, flatT_cons, List.length_cons]; omega
        have := h6 l
        omega
      omega
    · exact .inr ⟨by rw [he]; decide, h1, h2⟩
theorem flat_mem {e : Ev} : ∀ l : List Ev, e ∈ l → (lineE e).length ≤ (flatT (l.map lineE)).length
  | [], h => nomatch h
  | x :: r, h => by
    rw [List.map_cons, flatT_cons]
    rcases List.mem_cons.1 h with rfl | h
    · omega
    · have := flat_mem r h; omega
theorem parsed_fit (s : List UInt8) : ∀ e ∈ (parseB s).2.1, e.b.length ≤ 21000 ∧ e.tx.length ≤ 21000 := fun e he => by
  rcases parse_facts s with ⟨_, _, _, h1, h2, _, h3⟩ | ⟨_, _, h⟩
  · have h4 := flat_mem _ he
    have h5 := lineE_ge (h1 e he).1
    unfold textB at h2
    rw [flatT_cons] at h2
    omega
  · rw [h] at he; cases he
theorem print_vals (c : Cf) (l : List Ev) : ((printB c l).2 = 0 ∧ (printB c l).1 = textB c l) ∨ (¬ (printB c l).2 = 0 ∧ (printB c l).1 = []) := by
  unfold printB
  split
  · split
    · split
      · exact .inl ⟨rfl, rfl⟩
      · exact .inr ⟨by decide, rfl⟩
    · exact .inr ⟨by decide, rfl⟩
  · exact .inr ⟨by decide, rfl⟩
/-- what was parsed, printed: it is parsed again, or it is too long -/
theorem print_again (s : List UInt8) (h : (parseB s).2.2.2 = 0) : ((printB (parseB s).1 (parseB s).2.1).2 = 0 ∧ parseB (printB (parseB s).1 (parseB s).2.1).1 = ((parseB s).1, (parseB s).2.1, 0, 0)) ∨ ((printB (parseB s).1 (parseB s).2.1).2 = 3 ∧ 19000 < s.length) := by
  rcases parse_facts s with ⟨_, _, h1, h2, h3, _, _⟩ | ⟨h0, _⟩
  · by_cases hl : (textB (parseB s).1 (parseB s).2.1).length ≤ 20000
    · have hp : printB (parseB s).1 (parseB s).2.1 = (textB (parseB s).1 (parseB s).2.1, 0) := by
        unfold printB
        rw [if_pos h1, if_pos (fun e he => (h2 e he).1), if_pos hl]
      exact .inl ⟨by rw [hp], print_parse (fun e he => (h2 e he).2) (by rw [hp])⟩
    · have hp : printB (parseB s).1 (parseB s).2.1 = ([], 3) := by
        unfold printB
        rw [if_pos h1, if_pos (fun e he => (h2 e he).1), if_neg hl]
      exact .inr ⟨by rw [hp], by omega⟩
  · exact absurd h h0
end Go.Proofs.YtcddgbobbogpgaaDoor.Scr

namespace Go.Proofs.YtcddgbobbogpgaaDoor.Scr
open Go.RowKit Go.Mir Go.Mir.Hx Go.Mir.Parts HexW Rpl

set_option maxRecDepth 100000 in
set_option maxHeartbeats 1600000 in
theorem ronly1 (b hh p : List UInt8) (tx : List (List UInt8)) (id : List UInt8) (n u0 u1 u2 : Int) (pb : Option Addr) (cb : Nat) (q : Option Addr) (c : Nat) (w : World) (h : EvAt w ⟨1, b, hh, p, tx, id, n, u0, u1, u2⟩ pb cb q c) :
    Calls Tryd.prog 26 #[.agg (evA ⟨1, b, hh, p, tx, id, n, u0, u1, u2⟩ pb cb q c)] w (EvP ⟨1, b, zeros, zeros, [], zeros, 0, 0, 0, 0⟩ w) := by
  skip
  have hz := zeroF
  obtain ⟨a1, a2, a3, a4⟩ := Go.Mir.two_allocs w (.cells (evA ⟨1, b, hh, p, tx, id, n, u0, u1, u2⟩ pb cb q c) 37) (.cells zE 37)
  have HC := Lib.hid (ev_row h.wf a1)
  have HB := Lib.hid a4
  have HZ := Lib.hid a2
  have hk : _ = some (Value.int .i64 1) := HC.out.k
  have hP1 : _ = some (Value.slice pb b.length cb) := HC.out.b
  have hP99 : _ = some (Value.int .i64 n) := HC.out.n
  have HWF := Lib.hid h.wf
  have HIN := Lib.hid h
  obtain ⟨A, hA⟩ : ∃ A, A = evA ⟨1, b, hh, p, tx, id, n, u0, u1, u2⟩ pb cb q c := ⟨_, rfl⟩
  rw [← hA]
  rw [← hA] at HC HB HZ hk hP1 hP99
  obtain ⟨X, hX⟩ : ∃ X, X = evA (⟨1, b, zeros, zeros, [], zeros, 0, 0, 0, 0⟩) pb cb none 0 := ⟨_, rfl⟩
  have HWX : Hid (Ev.Wf (⟨1, b, zeros, zeros, [], zeros, 0, 0, 0, 0⟩)) := ⟨rfl, rfl, rfl, no_tx, HWF.out.k, zero_i64, zero_i64, zero_i64, zero_i64⟩
  have HXS : Hid (X.size = 103 ∧ X.all (·.oneCell') = true) := by show _ ∧ _; rw [hX]; exact ⟨evA_size HWX.out _ _ _ _, evA_one _ _ _ _ _⟩
  have hbu : Tryd.prog.built 37 [(0, .int .i64 1), (1, .slice pb b.length cb)] = some X := by rw [hX]; exact built_f1 pb b.length cb
  have HBU := Lib.hid hbu
  have HXE := Lib.hid hX
  clear a1 a2 a3 a4 h hA hX hbu
  go_enter Tryd.func26, Tryd.ntmps26
  go_upto_region 1 with fail
  generalize (w.alloc (.cells A 37)).alloc (.cells zE 37) = w1 at *
  go_wp2_with (first
    | refine loadM (by rfl) 28 _ rfl w.heap.size 2 rfl (blkA hh p q tx.length c) _ HC.out.blk Tryd.underlying28 rfl (infoBl _ (blkA_size HWF.out.h HWF.out.p _ _ _)) ?_
    | refine loadM (by rfl) 25 _ rfl w.heap.size 67 rfl (idA id) _ HC.out.id Tryd.underlying25 rfl (infoId _ (by rw [idA_size]; exact HWF.out.id)) ?_
    | refine loadM (by rfl) 29 _ rfl w.heap.size 100 rfl #[.int .i64 u0, .int .i64 u1, .int .i64 u2] _ HC.out.us Tryd.underlying29 rfl (infoU3 _ rfl) ?_
    | refine Rdr.wpList_build rfl 37 _ rfl [(0, .int .i64 1), (1, .slice pb b.length cb)] rfl _ HBU.out ?_
    | refine wpList_store_row rfl 37 _ _ rfl (w.heap.size + 1) X rfl rfl 37 zE HZ.out (infoF _ HXS.out.1) (by rw [HXS.out.1]; exact zE_size) HXS.out.2 ?_)
  have HS := Lib.hid (setRow_heap _ _ _ X _ _ HZ.out)
  have hbe := below_setRow HB.out (show w.heap.size ≤ w.heap.size + 1 by omega) X
  refine bodyPost_ret (results_cell_row rfl _ _ _ _ _ _ _ rfl HS.out Tryd.underlying37 rfl (infoF _ HXS.out.1)) rfl ?_
  refine ⟨pb, cb, none, 0, congrArg (fun z => Ending.returned (Value.agg z)) HXE.out, ⟨HWX.out, ?_, ?_⟩, hbe⟩
  · exact HIN.out.bs.below hbe
  · exact Is.nil _ _
set_option maxRecDepth 100000 in
set_option maxHeartbeats 1600000 in
theorem ronly2 (b hh p : List UInt8) (tx : List (List UInt8)) (id : List UInt8) (n u0 u1 u2 : Int) (pb : Option Addr) (cb : Nat) (q : Option Addr) (c : Nat) (w : World) (h : EvAt w ⟨2, b, hh, p, tx, id, n, u0, u1, u2⟩ pb cb q c) :
    Calls Tryd.prog 26 #[.agg (evA ⟨2, b, hh, p, tx, id, n, u0, u1, u2⟩ pb cb q c)] w (EvP ⟨2, [], hh, p, tx, zeros, 0, 0, 0, 0⟩ w) := by
  skip
  have hz := zeroF
  obtain ⟨a1, a2, a3, a4⟩ := Go.Mir.two_allocs w (.cells (evA ⟨2, b, hh, p, tx, id, n, u0, u1, u2⟩ pb cb q c) 37) (.cells zE 37)
  have HC := Lib.hid (ev_row h.wf a1)
  have HB := Lib.hid a4
  have HZ := Lib.hid a2
  have hk : _ = some (Value.int .i64 2) := HC.out.k
  have hP1 : _ = some (Value.slice pb b.length cb) := HC.out.b
  have hP99 : _ = some (Value.int .i64 n) := HC.out.n
  have HWF := Lib.hid h.wf
  have HIN := Lib.hid h
  obtain ⟨A, hA⟩ : ∃ A, A = evA ⟨2, b, hh, p, tx, id, n, u0, u1, u2⟩ pb cb q c := ⟨_, rfl⟩
  rw [← hA]
  rw [← hA] at HC HB HZ hk hP1 hP99
  obtain ⟨X, hX⟩ : ∃ X, X = evA (⟨2, [], hh, p, tx, zeros, 0, 0, 0, 0⟩) none 0 q c := ⟨_, rfl⟩
  have HWX : Hid (Ev.Wf (⟨2, [], hh, p, tx, zeros, 0, 0, 0, 0⟩)) := ⟨HWF.out.h, HWF.out.p, rfl, HWF.out.tx, HWF.out.k, zero_i64, zero_i64, zero_i64, zero_i64⟩
  have HXS : Hid (X.size = 103 ∧ X.all (·.oneCell') = true) := by show _ ∧ _; rw [hX]; exact ⟨evA_size HWX.out _ _ _ _, evA_one _ _ _ _ _⟩
  have hbu : Tryd.prog.built 37 [(0, .int .i64 2), (2, .agg (blkA hh p q tx.length c))] = some X := by rw [hX]; exact built_f2 q tx.length c (bytesV hh) (bytesV p) (by rw [bytesV_length]; exact HWF.out.h) (by rw [bytesV_length]; exact HWF.out.p)
  have HBU := Lib.hid hbu
  have HXE := Lib.hid hX
  clear a1 a2 a3 a4 h hA hX hbu
  go_enter Tryd.func26, Tryd.ntmps26
  go_upto_region 1 with fail
  generalize (w.alloc (.cells A 37)).alloc (.cells zE 37) = w1 at *
  go_wp2_with (first
    | refine loadM (by rfl) 28 _ rfl w.heap.size 2 rfl (blkA hh p q tx.length c) _ HC.out.blk Tryd.underlying28 rfl (infoBl _ (blkA_size HWF.out.h HWF.out.p _ _ _)) ?_
    | refine loadM (by rfl) 25 _ rfl w.heap.size 67 rfl (idA id) _ HC.out.id Tryd.underlying25 rfl (infoId _ (by rw [idA_size]; exact HWF.out.id)) ?_
    | refine loadM (by rfl) 29 _ rfl w.heap.size 100 rfl #[.int .i64 u0, .int .i64 u1, .int .i64 u2] _ HC.out.us Tryd.underlying29 rfl (infoU3 _ rfl) ?_
    | refine Rdr.wpList_build rfl 37 _ rfl [(0, .int .i64 2), (2, .agg (blkA hh p q tx.length c))] rfl _ HBU.out ?_
    | refine wpList_store_row rfl 37 _ _ rfl (w.heap.size + 1) X rfl rfl 37 zE HZ.out (infoF _ HXS.out.1) (by rw [HXS.out.1]; exact zE_size) HXS.out.2 ?_)
  have HS := Lib.hid (setRow_heap _ _ _ X _ _ HZ.out)
  have hbe := below_setRow HB.out (show w.heap.size ≤ w.heap.size + 1 by omega) X
  refine bodyPost_ret (results_cell_row rfl _ _ _ _ _ _ _ rfl HS.out Tryd.underlying37 rfl (infoF _ HXS.out.1)) rfl ?_
  refine ⟨none, 0, q, c, congrArg (fun z => Ending.returned (Value.agg z)) HXE.out, ⟨HWX.out, ?_, ?_⟩, hbe⟩
  · exact Sl.nil _ _
  · exact HIN.out.ids.below hbe
set_option maxRecDepth 100000 in
set_option maxHeartbeats 1600000 in
theorem ronly3 (b hh p : List UInt8) (tx : List (List UInt8)) (id : List UInt8) (n u0 u1 u2 : Int) (pb : Option Addr) (cb : Nat) (q : Option Addr) (c : Nat) (w : World) (h : EvAt w ⟨3, b, hh, p, tx, id, n, u0, u1, u2⟩ pb cb q c) :
    Calls Tryd.prog 26 #[.agg (evA ⟨3, b, hh, p, tx, id, n, u0, u1, u2⟩ pb cb q c)] w (EvP ⟨3, [], zeros, zeros, [], id, 0, 0, 0, 0⟩ w) := by
  skip
  have hz := zeroF
  obtain ⟨a1, a2, a3, a4⟩ := Go.Mir.two_allocs w (.cells (evA ⟨3, b, hh, p, tx, id, n, u0, u1, u2⟩ pb cb q c) 37) (.cells zE 37)
  have HC := Lib.hid (ev_row h.wf a1)
  have HB := Lib.hid a4
  have HZ := Lib.hid a2
  have hk : _ = some (Value.int .i64 3) := HC.out.k
  have hP1 : _ = some (Value.slice pb b.length cb) := HC.out.b
  have hP99 : _ = some (Value.int .i64 n) := HC.out.n
  have HWF := Lib.hid h.wf
  have HIN := Lib.hid h
  obtain ⟨A, hA⟩ : ∃ A, A = evA ⟨3, b, hh, p, tx, id, n, u0, u1, u2⟩ pb cb q c := ⟨_, rfl⟩
  rw [← hA]
  rw [← hA] at HC HB HZ hk hP1 hP99
  obtain ⟨X, hX⟩ : ∃ X, X = evA (⟨3, [], zeros, zeros, [], id, 0, 0, 0, 0⟩) none 0 none 0 := ⟨_, rfl⟩
  have HWX : Hid (Ev.Wf (⟨3, [], zeros, zeros, [], id, 0, 0, 0, 0⟩)) := ⟨rfl, rfl, HWF.out.id, no_tx, HWF.out.k, zero_i64, zero_i64, zero_i64, zero_i64⟩
  have HXS : Hid (X.size = 103 ∧ X.all (·.oneCell') = true) := by show _ ∧ _; rw [hX]; exact ⟨evA_size HWX.out _ _ _ _, evA_one _ _ _ _ _⟩
  have hbu : Tryd.prog.built 37 [(0, .int .i64 3), (3, .agg (idA id))] = some X := by rw [hX]; exact built_f3 3 (bytesV id) (by rw [bytesV_length]; exact HWF.out.id)
  have HBU := Lib.hid hbu
  have HXE := Lib.hid hX
  clear a1 a2 a3 a4 h hA hX hbu
  go_enter Tryd.func26, Tryd.ntmps26
  go_upto_region 1 with fail
  generalize (w.alloc (.cells A 37)).alloc (.cells zE 37) = w1 at *
  go_wp2_with (first
    | refine loadM (by rfl) 28 _ rfl w.heap.size 2 rfl (blkA hh p q tx.length c) _ HC.out.blk Tryd.underlying28 rfl (infoBl _ (blkA_size HWF.out.h HWF.out.p _ _ _)) ?_
    | refine loadM (by rfl) 25 _ rfl w.heap.size 67 rfl (idA id) _ HC.out.id Tryd.underlying25 rfl (infoId _ (by rw [idA_size]; exact HWF.out.id)) ?_
    | refine loadM (by rfl) 29 _ rfl w.heap.size 100 rfl #[.int .i64 u0, .int .i64 u1, .int .i64 u2] _ HC.out.us Tryd.underlying29 rfl (infoU3 _ rfl) ?_
    | refine Rdr.wpList_build rfl 37 _ rfl [(0, .int .i64 3), (3, .agg (idA id))] rfl _ HBU.out ?_
    | refine wpList_store_row rfl 37 _ _ rfl (w.heap.size + 1) X rfl rfl 37 zE HZ.out (infoF _ HXS.out.1) (by rw [HXS.out.1]; exact zE_size) HXS.out.2 ?_)
  have HS := Lib.hid (setRow_heap _ _ _ X _ _ HZ.out)
  have hbe := below_setRow HB.out (show w.heap.size ≤ w.heap.size + 1 by omega) X
  refine bodyPost_ret (results_cell_row rfl _ _ _ _ _ _ _ rfl HS.out Tryd.underlying37 rfl (infoF _ HXS.out.1)) rfl ?_
  refine ⟨none, 0, none, 0, congrArg (fun z => Ending.returned (Value.agg z)) HXE.out, ⟨HWX.out, ?_, ?_⟩, hbe⟩
  · exact Sl.nil _ _
  · exact Is.nil _ _
set_option maxRecDepth 100000 in
set_option maxHeartbeats 1600000 in
theorem ronly4 (b hh p : List UInt8) (tx : List (List UInt8)) (id : List UInt8) (n u0 u1 u2 : Int) (pb : Option Addr) (cb : Nat) (q : Option Addr) (c : Nat) (w : World) (h : EvAt w ⟨4, b, hh, p, tx, id, n, u0, u1, u2⟩ pb cb q c) :
    Calls Tryd.prog 26 #[.agg (evA ⟨4, b, hh, p, tx, id, n, u0, u1, u2⟩ pb cb q c)] w (EvP ⟨4, [], zeros, zeros, [], id, 0, 0, 0, 0⟩ w) := by
  skip
  have hz := zeroF
  obtain ⟨a1, a2, a3, a4⟩ := Go.Mir.two_allocs w (.cells (evA ⟨4, b, hh, p, tx, id, n, u0, u1, u2⟩ pb cb q c) 37) (.cells zE 37)
  have HC := Lib.hid (ev_row h.wf a1)
  have HB := Lib.hid a4
  have HZ := Lib.hid a2
  have hk : _ = some (Value.int .i64 4) := HC.out.k
  have hP1 : _ = some (Value.slice pb b.length cb) := HC.out.b
  have hP99 : _ = some (Value.int .i64 n) := HC.out.n
  have HWF := Lib.hid h.wf
  have HIN := Lib.hid h
  obtain ⟨A, hA⟩ : ∃ A, A = evA ⟨4, b, hh, p, tx, id, n, u0, u1, u2⟩ pb cb q c := ⟨_, rfl⟩
  rw [← hA]
  rw [← hA] at HC HB HZ hk hP1 hP99
  obtain ⟨X, hX⟩ : ∃ X, X = evA (⟨4, [], zeros, zeros, [], id, 0, 0, 0, 0⟩) none 0 none 0 := ⟨_, rfl⟩
  have HWX : Hid (Ev.Wf (⟨4, [], zeros, zeros, [], id, 0, 0, 0, 0⟩)) := ⟨rfl, rfl, HWF.out.id, no_tx, HWF.out.k, zero_i64, zero_i64, zero_i64, zero_i64⟩
  have HXS : Hid (X.size = 103 ∧ X.all (·.oneCell') = true) := by show _ ∧ _; rw [hX]; exact ⟨evA_size HWX.out _ _ _ _, evA_one _ _ _ _ _⟩
  have hbu : Tryd.prog.built 37 [(0, .int .i64 4), (3, .agg (idA id))] = some X := by rw [hX]; exact built_f3 4 (bytesV id) (by rw [bytesV_length]; exact HWF.out.id)
  have HBU := Lib.hid hbu
  have HXE := Lib.hid hX
  clear a1 a2 a3 a4 h hA hX hbu
  go_enter Tryd.func26, Tryd.ntmps26
  go_upto_region 1 with fail
  generalize (w.alloc (.cells A 37)).alloc (.cells zE 37) = w1 at *
  go_wp2_with (first
    | refine loadM (by rfl) 28 _ rfl w.heap.size 2 rfl (blkA hh p q tx.length c) _ HC.out.blk Tryd.underlying28 rfl (infoBl _ (blkA_size HWF.out.h HWF.out.p _ _ _)) ?_
    | refine loadM (by rfl) 25 _ rfl w.heap.size 67 rfl (idA id) _ HC.out.id Tryd.underlying25 rfl (infoId _ (by rw [idA_size]; exact HWF.out.id)) ?_
    | refine loadM (by rfl) 29 _ rfl w.heap.size 100 rfl #[.int .i64 u0, .int .i64 u1, .int .i64 u2] _ HC.out.us Tryd.underlying29 rfl (infoU3 _ rfl) ?_
    | refine Rdr.wpList_build rfl 37 _ rfl [(0, .int .i64 4), (3, .agg (idA id))] rfl _ HBU.out ?_
    | refine wpList_store_row rfl 37 _ _ rfl (w.heap.size + 1) X rfl rfl 37 zE HZ.out (infoF _ HXS.out.1) (by rw [HXS.out.1]; exact zE_size) HXS.out.2 ?_)
  have HS := Lib.hid (setRow_heap _ _ _ X _ _ HZ.out)
  have hbe := below_setRow HB.out (show w.heap.size ≤ w.heap.size + 1 by omega) X
  refine bodyPost_ret (results_cell_row rfl _ _ _ _ _ _ _ rfl HS.out Tryd.underlying37 rfl (infoF _ HXS.out.1)) rfl ?_
  refine ⟨none, 0, none, 0, congrArg (fun z => Ending.returned (Value.agg z)) HXE.out, ⟨HWX.out, ?_, ?_⟩, hbe⟩
  · exact Sl.nil _ _
  · exact Is.nil _ _
set_option maxRecDepth 100000 in
set_option maxHeartbeats 1600000 in
theorem ronly5 (b hh p : List UInt8) (tx : List (List UInt8)) (id : List UInt8) (n u0 u1 u2 : Int) (pb : Option Addr) (cb : Nat) (q : Option Addr) (c : Nat) (w : World) (h : EvAt w ⟨5, b, hh, p, tx, id, n, u0, u1, u2⟩ pb cb q c) :
    Calls Tryd.prog 26 #[.agg (evA ⟨5, b, hh, p, tx, id, n, u0, u1, u2⟩ pb cb q c)] w (EvP ⟨5, [], zeros, zeros, [], zeros, n, 0, 0, 0⟩ w) := by
  skip
  have hz := zeroF
  obtain ⟨a1, a2, a3, a4⟩ := Go.Mir.two_allocs w (.cells (evA ⟨5, b, hh, p, tx, id, n, u0, u1, u2⟩ pb cb q c) 37) (.cells zE 37)
  have HC := Lib.hid (ev_row h.wf a1)
  have HB := Lib.hid a4
  have HZ := Lib.hid a2
  have hk : _ = some (Value.int .i64 5) := HC.out.k
  have hP1 : _ = some (Value.slice pb b.length cb) := HC.out.b
  have hP99 : _ = some (Value.int .i64 n) := HC.out.n
  have HWF := Lib.hid h.wf
  have HIN := Lib.hid h
  obtain ⟨A, hA⟩ : ∃ A, A = evA ⟨5, b, hh, p, tx, id, n, u0, u1, u2⟩ pb cb q c := ⟨_, rfl⟩
  rw [← hA]
  rw [← hA] at HC HB HZ hk hP1 hP99
  obtain ⟨X, hX⟩ : ∃ X, X = evA (⟨5, [], zeros, zeros, [], zeros, n, 0, 0, 0⟩) none 0 none 0 := ⟨_, rfl⟩
  have HWX : Hid (Ev.Wf (⟨5, [], zeros, zeros, [], zeros, n, 0, 0, 0⟩)) := ⟨rfl, rfl, rfl, no_tx, HWF.out.k, HWF.out.n, zero_i64, zero_i64, zero_i64⟩
  have HXS : Hid (X.size = 103 ∧ X.all (·.oneCell') = true) := by show _ ∧ _; rw [hX]; exact ⟨evA_size HWX.out _ _ _ _, evA_one _ _ _ _ _⟩
  have hbu : Tryd.prog.built 37 [(0, .int .i64 5), (4, .int .i64 n)] = some X := by rw [hX]; exact built_f5 n
  have HBU := Lib.hid hbu
  have HXE := Lib.hid hX
  clear a1 a2 a3 a4 h hA hX hbu
  go_enter Tryd.func26, Tryd.ntmps26
  go_upto_region 1 with fail
  generalize (w.alloc (.cells A 37)).alloc (.cells zE 37) = w1 at *
  go_wp2_with (first
    | refine loadM (by rfl) 28 _ rfl w.heap.size 2 rfl (blkA hh p q tx.length c) _ HC.out.blk Tryd.underlying28 rfl (infoBl _ (blkA_size HWF.out.h HWF.out.p _ _ _)) ?_
    | refine loadM (by rfl) 25 _ rfl w.heap.size 67 rfl (idA id) _ HC.out.id Tryd.underlying25 rfl (infoId _ (by rw [idA_size]; exact HWF.out.id)) ?_
    | refine loadM (by rfl) 29 _ rfl w.heap.size 100 rfl #[.int .i64 u0, .int .i64 u1, .int .i64 u2] _ HC.out.us Tryd.underlying29 rfl (infoU3 _ rfl) ?_
    | refine Rdr.wpList_build rfl 37 _ rfl [(0, .int .i64 5), (4, .int .i64 n)] rfl _ HBU.out ?_
    | refine wpList_store_row rfl 37 _ _ rfl (w.heap.size + 1) X rfl rfl 37 zE HZ.out (infoF _ HXS.out.1) (by rw [HXS.out.1]; exact zE_size) HXS.out.2 ?_)
  have HS := Lib.hid (setRow_heap _ _ _ X _ _ HZ.out)
  have hbe := below_setRow HB.out (show w.heap.size ≤ w.heap.size + 1 by omega) X
  refine bodyPost_ret (results_cell_row rfl _ _ _ _ _ _ _ rfl HS.out Tryd.underlying37 rfl (infoF _ HXS.out.1)) rfl ?_
  refine ⟨none, 0, none, 0, congrArg (fun z => Ending.returned (Value.agg z)) HXE.out, ⟨HWX.out, ?_, ?_⟩, hbe⟩
  · exact Sl.nil _ _
  · exact Is.nil _ _
set_option maxRecDepth 100000 in
set_option maxHeartbeats 1600000 in
theorem ronly6 (b hh p : List UInt8) (tx : List (List UInt8)) (id : List UInt8) (n u0 u1 u2 : Int) (pb : Option Addr) (cb : Nat) (q : Option Addr) (c : Nat) (w : World) (h : EvAt w ⟨6, b, hh, p, tx, id, n, u0, u1, u2⟩ pb cb q c) :
    Calls Tryd.prog 26 #[.agg (evA ⟨6, b, hh, p, tx, id, n, u0, u1, u2⟩ pb cb q c)] w (EvP ⟨6, [], zeros, zeros, [], zeros, n, u0, u1, u2⟩ w) := by
  skip
  have hz := zeroF
  obtain ⟨a1, a2, a3, a4⟩ := Go.Mir.two_allocs w (.cells (evA ⟨6, b, hh, p, tx, id, n, u0, u1, u2⟩ pb cb q c) 37) (.cells zE 37)
  have HC := Lib.hid (ev_row h.wf a1)
  have HB := Lib.hid a4
  have HZ := Lib.hid a2
  have hk : _ = some (Value.int .i64 6) := HC.out.k
  have hP1 : _ = some (Value.slice pb b.length cb) := HC.out.b
  have hP99 : _ = some (Value.int .i64 n) := HC.out.n
  have HWF := Lib.hid h.wf
  have HIN := Lib.hid h
  obtain ⟨A, hA⟩ : ∃ A, A = evA ⟨6, b, hh, p, tx, id, n, u0, u1, u2⟩ pb cb q c := ⟨_, rfl⟩
  rw [← hA]
  rw [← hA] at HC HB HZ hk hP1 hP99
  obtain ⟨X, hX⟩ : ∃ X, X = evA (⟨6, [], zeros, zeros, [], zeros, n, u0, u1, u2⟩) none 0 none 0 := ⟨_, rfl⟩
  have HWX : Hid (Ev.Wf (⟨6, [], zeros, zeros, [], zeros, n, u0, u1, u2⟩)) := ⟨rfl, rfl, rfl, no_tx, HWF.out.k, HWF.out.n, HWF.out.u0, HWF.out.u1, HWF.out.u2⟩
  have HXS : Hid (X.size = 103 ∧ X.all (·.oneCell') = true) := by show _ ∧ _; rw [hX]; exact ⟨evA_size HWX.out _ _ _ _, evA_one _ _ _ _ _⟩
  have hbu : Tryd.prog.built 37 [(0, .int .i64 6), (4, .int .i64 n), (5, .agg #[.int .i64 u0, .int .i64 u1, .int .i64 u2])] = some X := by rw [hX]; exact built_f6 6 n u0 u1 u2
  have HBU := Lib.hid hbu
  have HXE := Lib.hid hX
  clear a1 a2 a3 a4 h hA hX hbu
  go_enter Tryd.func26, Tryd.ntmps26
  go_upto_region 1 with fail
  generalize (w.alloc (.cells A 37)).alloc (.cells zE 37) = w1 at *
  go_wp2_with (first
    | refine loadM (by rfl) 28 _ rfl w.heap.size 2 rfl (blkA hh p q tx.length c) _ HC.out.blk Tryd.underlying28 rfl (infoBl _ (blkA_size HWF.out.h HWF.out.p _ _ _)) ?_
    | refine loadM (by rfl) 25 _ rfl w.heap.size 67 rfl (idA id) _ HC.out.id Tryd.underlying25 rfl (infoId _ (by rw [idA_size]; exact HWF.out.id)) ?_
    | refine loadM (by rfl) 29 _ rfl w.heap.size 100 rfl #[.int .i64 u0, .int .i64 u1, .int .i64 u2] _ HC.out.us Tryd.underlying29 rfl (infoU3 _ rfl) ?_
    | refine Rdr.wpList_build rfl 37 _ rfl [(0, .int .i64 6), (4, .int .i64 n), (5, .agg #[.int .i64 u0, .int .i64 u1, .int .i64 u2])] rfl _ HBU.out ?_
    | refine wpList_store_row rfl 37 _ _ rfl (w.heap.size + 1) X rfl rfl 37 zE HZ.out (infoF _ HXS.out.1) (by rw [HXS.out.1]; exact zE_size) HXS.out.2 ?_)
  have HS := Lib.hid (setRow_heap _ _ _ X _ _ HZ.out)
  have hbe := below_setRow HB.out (show w.heap.size ≤ w.heap.size + 1 by omega) X
  refine bodyPost_ret (results_cell_row rfl _ _ _ _ _ _ _ rfl HS.out Tryd.underlying37 rfl (infoF _ HXS.out.1)) rfl ?_
  refine ⟨none, 0, none, 0, congrArg (fun z => Ending.returned (Value.agg z)) HXE.out, ⟨HWX.out, ?_, ?_⟩, hbe⟩
  · exact Sl.nil _ _
  · exact Is.nil _ _
theorem ronly_any (e : Ev) (hk : 1 ≤ e.k ∧ e.k ≤ 6) (pb : Option Addr) (cb : Nat) (q : Option Addr) (c : Nat) (w : World) (h : EvAt w e pb cb q c) :
    Calls Tryd.prog 26 #[.agg (evA e pb cb q c)] w (EvP (only e) w) := by
  obtain ⟨k, b, hh, p, tx, id, n, u0, u1, u2⟩ := e
  have h1 : 1 ≤ k := hk.1
  have h2 : k ≤ 6 := hk.2
  have hc : k = 1 ∨ k = 2 ∨ k = 3 ∨ k = 4 ∨ k = 5 ∨ k = 6 := by omega
  rcases hc with rfl | rfl | rfl | rfl | rfl | rfl
  · exact ronly1 b hh p tx id n u0 u1 u2 pb cb q c w h
  · exact ronly2 b hh p tx id n u0 u1 u2 pb cb q c w h
  · exact ronly3 b hh p tx id n u0 u1 u2 pb cb q c w h
  · exact ronly4 b hh p tx id n u0 u1 u2 pb cb q c w h
  · exact ronly5 b hh p tx id n u0 u1 u2 pb cb q c w h
  · exact ronly6 b hh p tx id n u0 u1 u2 pb cb q c w h
end Go.Proofs.YtcddgbobbogpgaaDoor.Scr
