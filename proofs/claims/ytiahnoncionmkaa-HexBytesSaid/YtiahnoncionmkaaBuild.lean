/- THE WALKS OF strings.Builder: one that the call made, written byte by byte, and read once. Conditions: its bytes stay below 2^46. -/
import Derived.Test.YtiahnoncionmkaaLib
import Derived.Test.YtiahnoncionmkaaProg
import Derived.Lib.FrozenHead2
import Derived.Lib.OthersKept
import Derived.Shelf.Strings.BuilderK
import Derived.RegionTactic
import Derived.ChangeAlike
import Derived.Outline
namespace Go.Proofs.Ytiahnoncionmkaa.Bld
open Go.RowKit Go.Mir

theorem infoB : (Try.prog.info? 5).map (fun i => (i.zero, i.size, i.bytes)) = some (some (.int .u8 0), 1, 1) := by kernel_rfl

/-- a builder that a call made: its block, its bytes' slice, bytes -/
structure BAt (w : World) (b : Nat) (v : Value) (l : List UInt8) : Prop where
  blk : ∃ a, (a = .pointer none ∨ a = .pointer (some ⟨b, 0, none⟩)) ∧ w.heap[b]? = some (.cells #[a, v] 47 (0, 0))
  own : w.ownsRow 0 5 1 v l.length (bytesV l)
  sep : v.ownBlock ≠ some b
/-- its blocks -/
def foot (b : Nat) (v : Value) (k : Nat) : Prop := k = b ∨ v.ownBlock = some k
theorem BAt.touch {S : Nat → Prop} {w w' : World} {b : Nat} {v : Value} {l : List UInt8} (h : BAt w b v l) (ht : Turns S w w') (hS : ∀ k, foot b v k → ¬ S k) : BAt w' b v l := by
  obtain ⟨a, ha, hb⟩ := h.blk
  exact ⟨⟨a, ha, ht.keep hb (hS _ (.inl rfl))⟩, own_touch h.own ht (fun k hk => hS k (.inr hk)), h.sep⟩
theorem BAt.lt {w : World} {b : Nat} {v : Value} {l : List UInt8} (h : BAt w b v l) : ∀ k, foot b v k → k < w.heap.size := by
  intro k hk
  rcases hk with rfl | hk
  · obtain ⟨a, ha, hb⟩ := h.blk
    exact (Array.getElem?_eq_some_iff.1 hb).1
  · exact (h.own.lt k hk).2
theorem BAt.fresh (w : World) (fr : Nat) (h : fr = w.heap.size) : BAt (w.alloc (.cells #[.pointer none, .slice none 0 0] 47)) fr (.slice none 0 0) [] := by
  subst h
  exact ⟨⟨_, .inl rfl, heap_alloc_last _ _⟩, ⟨rfl, .inl ⟨rfl, rfl⟩⟩, by simp [Value.ownBlock]⟩

/-- what a call leaves of a builder -/
def Left (b : Nat) (v : Value) (l : List UInt8) (w w' : World) : Prop := ∃ v', BAt w' b v' l ∧ Turns (foot b v) w w' ∧ NextV w v v'

theorem sizeB : ∃ j, Try.prog.info? 47 = some j ∧ j.size = 2 := Option.map_eq_some_iff.1 (by kernel_rfl)
theorem liesB : liesAt Try.prog Try.prog.depth 47 (2 / Try.prog.cellsOf 47) 0 47 1 = true := by kernel_rfl

set_option maxRecDepth 100000 in
theorem check_any (b : Nat) (v : Value) (l : List UInt8) (w : World) (h : BAt w b v l) :
    Calls Try.prog 26 #[.pointer (some ⟨b, 0, none⟩)] w fun e w' => e = .returned (.tuple #[]) ∧ (w'.heap[b]? = some (.cells #[.pointer (some ⟨b, 0, none⟩), v] 47 (0, 0)) ∧ w'.ownsRow 0 5 1 v l.length (bytesV l) ∧ Turns (fun k => k = b) w w') := by
  obtain ⟨a, ha, hb⟩ := h.blk
  obtain ⟨j, hj, hjs⟩ := sizeB
  have HOWN := Lib.hid h.own
  have HSEP := Lib.hid h.sep
  have c0 : w.cell? ⟨b, 0, none⟩ = some a := by rw [cell_of_row _ _ _ _ _ _ hb]; rfl
  have f0 : w.frozen? ⟨b, 0, none⟩ = false := frozen_of_row _ _ _ _ _ hb
  have HSH : Hid (w.shape? b = some (47, 2)) := by show _ = _; simp [World.shape?, hb]
  have HB := Lib.hid hb
  have HJ := Lib.hid hj
  have HJS := Lib.hid hjs
  clear h hb hj hjs
  rcases ha with rfl | rfl
  · go_enter Try.func26, Try.ntmps26
    go_wp2
    rw [Lib.run_to_unsafe w ⟨b, 0, none⟩ Try.underlying45 Try.underlying56 HJ.out (by rw [HJS.out]; decide) HSH.out (Nat.zero_lt_succ 1)]
    simp only [Result.andThen]
    rw [Oper.upon_value]
    go_wp2
    rw [run_callFunc_extern Try.func27 (by kernel_rfl) (by kernel_rfl) (by kernel_rfl) (e := Extern.AbiNoEscape.same) (by kernel_rfl)]
    rw [Lib.run_noEscape]
    simp only [Result.andThen]
    rw [Oper.upon_value]
    go_wp2
    rw [Lib.run_from_unsafe w ⟨b, 0, none⟩ Try.underlying56 Try.underlying45 HJ.out HSH.out liesB]
    simp only [Result.andThen]
    rw [Oper.upon_value]
    go_wp2
    go_end0
    refine ⟨rfl, ?_, own_touch HOWN.out ((Turns.refl (fun k => k = b) _).setCell (fun _ => rfl) _) (fun k hk e => HSEP.out (by rw [hk, e])), (Turns.refl (fun k => k = b) _).setCell (fun _ => rfl) _⟩
    rw [heap_setCell_same _ _ _ _ _ _ HB.out]; rfl
  · go_enter Try.func26, Try.ntmps26
    go_wp2
    rw [Lib.run_neq_ptr_same w _ Try.underlying45 HJ.out]
    go_wp2
    go_end0
    exact ⟨rfl, HB.out, HOWN.out, Turns.refl _ _⟩

set_option maxRecDepth 100000 in
theorem writeByte_any (b : Nat) (v : Value) (l : List UInt8) (c : UInt8) (w : World) (h : BAt w b v l) (hl : l.length ≤ 70368744177664) :
    Calls Try.prog 23 #[.pointer (some ⟨b, 0, none⟩), .int .u8 (c.toNat : Int)] w fun e w' => e = .returned .nilIface ∧ Left b v (l ++ [c]) w w' := by
  have H := Lib.hid h
  clear h
  go_enter Try.func23, Try.ntmps23
  go_wp2_with fail
  refine (check_any b v l w H.out).mono ?_
  rintro e w1 ⟨rfl, hb1, ho1, ht1⟩
  have c1 : w1.cell? ⟨b, 1, none⟩ = some v := by rw [cell_of_row _ _ _ _ _ _ hb1]; rfl
  have f1 : w1.frozen? ⟨b, 1, none⟩ = false := frozen_of_row _ _ _ _ _ hb1
  have HS : Hid (Bs (w1.alloc (.cells #[.int .u8 (c.toNat : Int)] 5)) (some ⟨w1.heap.size, 0, none⟩) 1 1 [c]) := Bs.made w1 [c] _ _ _ 1 rfl rfl (by omega)
  have HO : Hid ((w1.alloc (.cells #[.int .u8 (c.toNat : Int)] 5)).ownsRow 0 5 1 v l.length (bytesV l)) := ho1.alloc _
  have HO1 := Lib.hid ho1
  have HB1 := Lib.hid hb1
  have HT1 := Lib.hid ht1
  have hsep : ¬ b = w1.heap.size := by have := (Array.getElem?_eq_some_iff.1 hb1).1; omega
  clear ho1 hb1 ht1
  go_wp2_with (at_builtin; refine wpList_append_nx rfl _ _ 30 rfl (base := 0) Try.underlying30 infoB rfl (by omega) rfl HO.out rfl HS.out (bytesV_one _) (by omega) (Nat.zero_le _) ?_)
  intro p' c' w3 hown hg hnx hne
  have hlt : b < (w1.alloc (.cells #[.int .u8 (c.toNat : Int)] 5)).heap.size := by have := (Array.getElem?_eq_some_iff.1 HB1.out).1; simp; omega
  have hb3 : w3.heap[b]? = some (.cells #[.pointer (some ⟨b, 0, none⟩), v] 47 (0, 0)) := by
    rw [hg.block b hlt (fun e => H.out.sep e.symm)]
    exact block_old _ HB1.out
  have e1 : w3.cell? ⟨b, 1, none⟩ = some v := by rw [cell_of_row _ _ _ _ _ _ hb3]; rfl
  have g1 : w3.frozen? ⟨b, 1, none⟩ = false := frozen_of_row _ _ _ _ _ hb3
  have HB3 := Lib.hid hb3
  have HO3 := Lib.hid hown
  have HG := Lib.hid hg
  have HNX := Lib.hid hnx
  clear hb3 hown hg hnx hne c1 f1
  go_wp2_with fail
  go_ret
  have hsz1 : (w1.alloc (.cells #[.int .u8 (c.toNat : Int)] 5)).heap.size = w1.heap.size + 1 := by simp
  have hs3 : ¬ (Value.slice p' (l.length + 1) c').ownBlock = some b := by
    intro e
    rcases HNX.out b e with h | h
    · exact H.out.sep h
    · have := (Array.getElem?_eq_some_iff.1 HB1.out).1; omega
  refine ⟨rfl, .slice p' (l.length + 1) c', ⟨⟨_, .inr rfl, by rw [heap_setCell_same _ _ _ _ _ _ HB3.out]; rfl⟩, ?_, hs3⟩, ?_, ?_⟩
  · have := own_touch HO3.out ((Turns.refl (fun k => k = b) _).setCell (p := ⟨b, 1, none⟩) (fun _ => rfl) (.slice p' (l.length + 1) c')) (fun k hk e => hs3 (by rw [hk, e]))
    rw [bytesV_append, List.length_append, List.length_singleton]
    exact this
  · exact (HT1.out.imp (S' := foot b v) (fun i _ h => .inl h)).trans (((Turns.of_below (S := foot b v) (Below.allocs w1 _)).trans (Turns.grown (S := foot b v) HG.out (fun k hk => .inr hk)) (fun _ _ h => h)).setCell (fun _ => .inl rfl) _) (fun _ _ h => h)
  · intro j hj hjl
    rcases HNX.out j hj with h | h
    · exact h
    · have := HT1.out.size; omega

/-- read: the bytes as a string; behind it the builder is not written again -/
theorem below_freeze' (w : World) (p : Addr) (n B : Nat) (h : B ≤ p.block) : Below B w (w.freeze p n) := Lib.below_freeze (Below.refl B w) (p := p) h n
set_option maxRecDepth 100000 in
set_option maxHeartbeats 400000 in
theorem string_any (b : Nat) (v : Value) (l : List UInt8) (w : World) (h : BAt w b v l) (h0 : l ≠ []) (B : Nat) (hB : ∀ k, foot b v k → B ≤ k) :
    Calls Try.prog 24 #[.pointer (some ⟨b, 0, none⟩)] w fun e w' => e = .returned (.string ⟨l.toArray⟩) ∧ Below B w w' := by
  obtain ⟨a, ha, hb⟩ := h.blk
  have hl0 : l.length ≠ 0 := by simpa using h0
  obtain ⟨g, cap, hv, _, hcap, _⟩ := own_some h.own (fun e => by
    have := h.own.2
    rcases this with ⟨_, h1⟩ | ⟨g, cap, cur, h1, _⟩
    · exact hl0 h1
    · rw [e] at h1; cases h1)
  subst hv
  have hg : B ≤ g := hB g (.inr rfl)
  obtain ⟨cur, hgb⟩ : ∃ cur, w.heap[g]? = some (.cells cur 5 (0, 0)) ∧ cur.size = cap := by
    rcases h.own.2 with ⟨h1, _⟩ | ⟨g', cap', cur, h1, _, h2, _, _, h3, _⟩
    · cases h1
    · cases h1; exact ⟨cur, h2, by simpa using h3⟩
  have c1 : w.drew.cell? ⟨b, 1, none⟩ = some (.slice (some ⟨g, 0, none⟩) l.length cap) := by
    have : w.drew.heap[b]? = some (.cells #[a, .slice (some ⟨g, 0, none⟩) l.length cap] 47 (0, 0)) := hb
    rw [cell_of_row _ _ _ _ _ _ this]; rfl
  have hSD : (Builtin.unsafeSliceData_ #[30] 55 #[.slice (some ⟨g, 0, none⟩) l.length cap]).run Try.prog w.drew = .ok (.pointer (some ⟨g, 0, none⟩)) w.drew :=
    Lib.run_unsafeSliceData_row _ _ _ _ _ _ (by omega)
  have hUS : (Builtin.unsafeString_ #[55, 3] 9 #[.pointer (some ⟨g, 0, none⟩), .int .i64 l.length]).run Try.prog w.drew = .ok (.string ⟨l.toArray⟩) (w.drew.freeze ⟨g, 0, none⟩ l.length) := by
    have hmx := h.own
    refine Lib.run_unsafeString_row w.drew 55 3 9 5 Try.underlying55 (by kernel_rfl) g cur.size (by have hg' : w.drew.heap[g]? = some (.cells cur 5 (0, 0)) := hgb.1; simp [World.shape?, hg']) l h0 (by rw [hgb.2]; omega) ?_ ?_
    · obtain ⟨p, c, e1, hs⟩ := own_sl h.own
      have := hs.le; have := hs.max; omega
    · intro j x hx
      have := h.own.cells (g := g) rfl j (.int .u8 x.toNat) (by simp [bytesV, hx])
      exact this
  have HBEL : Hid (Below B w (w.drew.freeze ⟨g, 0, none⟩ l.length)) := Lib.below_freeze (Below.drew (Below.refl B w)) (p := ⟨g, 0, none⟩) hg _
  clear h ha hb hgb hB
  go_enter Try.func24, Try.ntmps24
  go_wp2
  go_region
  all_goals (go_wp2; go_ret; exact ⟨rfl, HBEL.out⟩)
end Go.Proofs.Ytiahnoncionmkaa.Bld
