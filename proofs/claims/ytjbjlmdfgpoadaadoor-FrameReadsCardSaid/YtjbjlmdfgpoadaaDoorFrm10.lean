/- FRAMES: Scan. Conditions: the laid cell of errors.errorType; at most 4000 bytes. -/
import Derived.Test.YtjbjlmdfgpoadaaDoorFrm9
namespace Go.Proofs.YtjbjlmdfgpoadaaDoor.Frm
open Go.RowKit Go.Mir Go.Mir.Parts Go.Shelf Wr Cod Cut Rdr
attribute [local go_sem] Oper.semAt_some

theorem sl_kept {w w' : World} {p : Option Addr} {n c size : Nat} {vs : List Value} (h : Sl w p n c size vs) {row : Option Nat} (hg : w.grownBy w' row) (hr : ∀ r, row = some r → ∃ o : Obj, w.heap[r]? = some o ∧ o.isCells = false) : Sl w' p n c size vs :=
  ⟨h.len, h.le, h.max, h.nil0, fun a ha j u hu => cell_kept (h.cell a ha j u hu) hg hr⟩
theorem own_kept {w w' : World} {base e size n : Nat} {v : Value} {vs : List Value} (h : w.ownsRow base e size v n vs) {row : Option Nat} (hg : w.grownBy w' row) (hr : ∀ r, row = some r → ∃ o : Obj, w.heap[r]? = some o ∧ o.isCells = false) : w'.ownsRow base e size v n vs :=
  (own_own (β := Unit) base e size (fun _ => v) (fun _ => n) (fun _ => vs)) () _ _ row h hg hr
theorem ls_kept {w w' : World} {base : Nat} {v : Value} {ls : List (List UInt8)} (h : LsO w base v ls) {row : Option Nat} (hg : w.grownBy w' row) (hr : ∀ r, row = some r → ∃ o : Obj, w.heap[r]? = some o ∧ o.isCells = false) : LsO w' base v ls := by
  obtain ⟨hs, h1, h2⟩ := h.all
  refine ⟨hs, own_kept h1 hg hr, fun j hj => ?_⟩
  obtain ⟨q, k, a, b⟩ := h2 j hj
  exact ⟨q, k, a, own_kept b hg hr⟩
theorem boxed_kept {w w' : World} {B : Nat} {t : TypeId} {v : Value} (h : Boxed w B t v) {row : Option Nat} (hg : w.grownBy w' row) (hr : ∀ r, row = some r → ∃ o : Obj, w.heap[r]? = some o ∧ o.isCells = false) : Boxed w' B t v :=
  h.kept hg (fun e => by
    obtain ⟨o, ho, hc⟩ := hr B e.symm
    rw [show w.heap[B]? = _ from h] at ho; cases ho; cases hc)
structure SI (w : World) (l : List UInt8) (pre : List FX) (W : World) : Prop where
  out : ∃ v, Boxed W w.heap.size 32 v ∧ LsO W (w.heap.size + 3) v (bodies pre)
  stop : ∃ k : Nat, Boxed W (w.heap.size + 1) 3 (.int .i64 (k : Int)) ∧ At l (bodies pre) k
  low : Below w.heap.size w W
  big : w.heap.size + 3 ≤ W.heap.size
theorem si_own (w : World) (l : List UInt8) (B : Nat) (hB : w.heap.size ≤ B) : OwnFrom B (SI w l) := fun s A C row hs hg hr => by
  have hr' : ∀ r, row = some r → ∃ o : Obj, A.heap[r]? = some o ∧ o.isCells = false := fun r e => (hr r e).2
  obtain ⟨⟨v, b1, l1⟩, ⟨k, b2, a2⟩, lo, bg⟩ := hs
  exact ⟨⟨v, boxed_kept b1 hg hr', ls_kept l1 hg hr'⟩, ⟨k, boxed_kept b2 hg hr', a2⟩, lo.grown hg lo.size (fun k e => by have := (hr k e).1; omega), Nat.le_trans bg hg.size⟩
def ScanP (l : List UInt8) (w : World) (e : Ending) (w' : World) : Prop := ∃ v, e = .returned (.tuple #[v, .int .i64 ((scan l).2 : Int)]) ∧ Ls w' w.heap.size v (scan l).1 ∧ Below w.heap.size w w'
set_option maxRecDepth 100000 in
set_option maxHeartbeats 2000000 in
theorem scan_any (p : Option Addr) (n c : Nat) (l : List UInt8) (w : World) (hE : EType w) (hB : Bs w p n c l) (hpb : 0 < n → ∀ a, p = some a → a.block < w.heap.size) (hn : n ≤ 1000000) :
    Calls Tryd.prog 12 #[.slice p n c] w (ScanP l w) := by
  have HB := Lib.hid hB
  have HN := Lib.hid hB.length
  have hle := hB.le
  have hmax := hB.max
  refine (callsIn_wide (n := 9)).1 ?_
  refine callsIn_of_wp_marks Tryd.func12 rfl trivial ?_ rfl
  simp only [Tryd.ntmps12, List.size_toArray, List.length_cons, List.length_nil, Nat.reduceAdd, Nat.reduceSub, Array.replicate_succ, Array.replicate_zero, List.push_toArray, List.append_toArray, List.nil_append, List.cons_append]
  gi_wp2_with (refine ⟨trivial, ?_⟩; gi_at_call 15; refine (callsIn_wide.2 (all_any p n c _)).mono ?_; rintro e w' ⟨rfl, rfl⟩)
  have bO := Boxed.new w 32 (.slice none 0 0)
  have bE := Boxed.new (w.alloc (.cells #[.slice none 0 0] 32)) 3 (.int .i64 0)
  have bN := Boxed.new ((w.alloc (.cells #[.slice none 0 0] 32)).alloc (.cells #[.int .i64 0] 3)) 22 (.slice p n c)
  rw [World.size_alloc] at bE
  rw [World.size_alloc, World.size_alloc] at bN
  have hB0 : Below w.heap.size w (((w.alloc (.cells #[.slice none 0 0] 32)).alloc (.cells #[.int .i64 0] 3)).alloc (.cells #[.slice p n c] 22)) := (((Below.refl _ w).alloc (Nat.le_refl _) _).alloc (by simp) _).alloc (by simp; omega) _
  have hs0 : (((w.alloc (.cells #[.slice none 0 0] 32)).alloc (.cells #[.int .i64 0] 3)).alloc (.cells #[.slice p n c] 22)).heap.size = w.heap.size + 3 := by simp
  have bO := (bO.alloc (.cells #[.int .i64 0] 3)).alloc (.cells #[.slice p n c] 22)
  have bE := bE.alloc (.cells #[.slice p n c] 22)
  generalize ((w.alloc (.cells #[.slice none 0 0] 32)).alloc (.cells #[.int .i64 0] 3)).alloc (.cells #[.slice p n c] 22) = W0 at *
  have hE0 := hE.lt
  have hseq := all1_seq 8 (by omega) (w.heap.size + 2) w.heap.size (w.heap.size + 3) p n c l W0 (hE.below hB0 hE0) hE0 (by omega) bN.cell (fun W' ht => bs_touch (hB.below hB0) ht (fun h0 a ha h => by have := hpb h0 a ha; have := h.1; omega)) hn
  have HSI : Hid (SI w l [] W0) := ⟨⟨_, bO, LsO.nil _ _⟩, ⟨0, bE, At.zero l⟩, hB0, by omega⟩
  refine rangeG (by omega) rfl (enters_of Tryd.func30 (by kernel_rfl) rfl) hseq (fun k hk => ⟨by omega, by omega⟩) (Below.refl _ _) (fun _ => rfl) (fg_own l _ _) (SI w l) (fun _ _ _ => False) (si_own w l _ (by omega)) (fun _ _ _ _ _ hs _ _ => hs) HSI.out
    (fun x => { tmps := #[.slice p n c, undef, .slice none 0 0, .int .i64 0, .pointer (some ⟨w.heap.size, 0, none⟩), .pointer (some ⟨w.heap.size + 1, 0, none⟩), .int .i64 (x.at_ : Int), .slice x.p x.body.length x.c, .slice p n c, .func (.func 30) #[] #[.pointer (some ⟨w.heap.size + 1 + 1, 0, none⟩)], .int .i64 (x.at_ : Int), .slice x.p x.body.length x.c, undef, undef, undef, undef, undef, undef, undef, undef, undef, undef], defers := [] }) ?assign ?body ?done ?stop
  case assign =>
    intro l x W K hK
    unfold FX.enc
    gi_wp2
    exact hK
  case body =>
    rintro L pre x W ⟨⟨v, b1, l1⟩, ⟨k, b2, a2⟩, lo, hWs⟩ ⟨⟨g1, g2, g3⟩, g4⟩
    have hc1 := b1.cell
    have hf1 := b1.frozen
    have hc2 := b2.cell
    have hf2 := b2.frozen
    obtain ⟨hs, h1, h2⟩ := l1.all
    obtain ⟨i0, hi, hz0, hz1, hz2⟩ := info_parts infoS
    have hpl : 9 * (bodies pre).length ≤ x.at_ ∧ x.at_ ≤ n := by have := g1.1; have := g1.2.1.1; have := hB.length; omega
    have hnx := g1.next g2
    rw [← g3, ← bodies_snoc] at hnx
    have hsz1 := one_ok g2
    rw [← g3] at hsz1
    obtain ⟨sz1, sz2, sz3, _⟩ := hsz1
    rw [sz3] at hnx
    rw [List.length_drop, hB.length] at sz2
    have hxl : x.body.length ≤ 1000000 := by omega
    have HNX := Lib.hid hnx
    clear hnx g1 g2 g3
    gi_wp2_with (first
      | (gi_at_builtin; refine wpListIn_append_own _ rfl _ _ 32 rfl (w.heap.size + 3) 22 i0 (.slice none 0 0) 1 24 Tryd.underlying32 hi hz0 hz1 hz2 rfl (by decide) _ _ _ rfl (h1.alloc _) ⟨W.heap.size, 0, none⟩ 1 1 [.slice x.p x.body.length x.c] rfl rfl (cell_one_new _ _ _) (by simp [Value.oneCell']) (by simp [maxLen]; omega) (by omega) (by simp; omega) ?_; intro v' w1 hown' hgrow _; obtain ⟨g', cap', rfl⟩ := ownsRow_succ hown'; obtain ⟨hv1, hv2, hr2, hk2, hb2⟩ := b1.appended (by decide) (own_base (base' := w.heap.size) h1 (fun i hi => by have := (h1.lt i hi).1; omega)) lo.size (Nat.le_refl _) (own_base (base' := w.heap.size) hown' (fun i hi => by have := (hown'.lt i hi).1; omega)) hgrow; have hc1 := hv1.cell; have hf1 := hv1.frozen; have bE2 := ((b2.alloc _).kept hgrow (b2.not_row (by decide) h1)).other (show w.heap.size + 1 ≠ w.heap.size by omega) (.slice (some ⟨g', 0, none⟩) ((bodies pre).length + 1) cap'); have hc3 := bE2.cell; have hf3 := bE2.frozen)
      | (refine ⟨trivial, ?_⟩; gi_at_call 9; refine (CallsIn.inRound L (callsIn_wide.2 (size_any _ _ _ (by omega) _))).mono ?_; rintro e w' ⟨rfl, rfl⟩))
    have hpu := (LsO.push h1 h2 g4 hown' hgrow).set hv1 (by decide) (by decide) (.slice (some ⟨g', 0, none⟩) ((bodies pre).length + 1) cap')
    rw [← bodies_snoc] at hpu
    have hcast : (x.at_ : Int) + (8 + (x.body.length : Int)) = ((x.at_ + (8 + x.body.length) : Nat) : Int) := by omega
    rw [hcast]
    refine ⟨(hk2.from _).trans ((KeepsOthers.setCell _ _ _).from _), ?_, ⟨_, hv2.other (by omega) _, hpu.set bE2 (by decide) (by decide) _⟩, ⟨_, bE2.set _, HNX.out⟩, (lo.trans hb2).setCell (p := ⟨w.heap.size + 1, 0, none⟩) (by simp) _, ?_⟩
    rotate_left
    · have := hgrow.size; simp [World.setCell] at this ⊢; omega
    exact (((Turns.of_below (Below.allocs W _)).trans (Turns.grown hgrow (fun i hi => ⟨by have := (h1.lt i hi).1; omega, by have := (h1.lt i hi).1; omega⟩)) (fun _ _ h => h)).setCell (p := ⟨w.heap.size, 0, none⟩) (fun _ => ⟨Nat.le_refl _, by simp⟩) _).setCell (p := ⟨w.heap.size + 1, 0, none⟩) (fun _ => ⟨by simp, by simp⟩) _
  case done =>
    rintro D xs W hD ⟨k, hk, hk2⟩ ⟨⟨v, b1, l1⟩, ⟨k1, b2, a2⟩, lo, hWs⟩ hK
    have hc1 := b1.cell
    have hc2 := b2.cell
    have hsc := hk.last hk2 a2
    have HSC := Lib.hid hsc
    clear hsc hk hk2 a2
    gi_wp2
    refine wpIn_wide.2 ?_
    go_region
    gi_wp2
    refine ⟨by simp, .inl ⟨_, _, rfl, run_takeDeferred (w := W.drew) hK, ?_⟩⟩
    have hput : Below w.heap.size w (W.drew.putObj D (.deferred none)) := lo.drew.trans (belowK_b (w := w) (Nat.le_refl _) W.drew D _ _ (by omega) hK rfl rfl)
    have hl2 := ls_kept (w := W.drew) (l1.below (below_drew1 _ _)) (w' := W.drew.putObj D (.deferred none)) (row := some D) (grownBy_putObj' W.drew D (.deferred none)) (fun r e => by cases e; exact ⟨_, hK, rfl⟩)
    refine ⟨_, results_tmp2 rfl _ _ _, v, by rw [HSC.out]; rfl, ?_, hput⟩
    rw [HSC.out]
    exact hl2.ls.low (by omega)
  case stop =>
    rintro D c pre W _ _ h _
    exact h.elim
end Go.Proofs.YtjbjlmdfgpoadaaDoor.Frm
