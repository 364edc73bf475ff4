/- THE CALLS OF A STATEMENT ON DISKS, as they lie in memory; are there not too many? Conditions: none. -/
import Derived.Test.YtlmlcedjhpfeiaaDk15
import Derived.Test.YtlmlcedjhpfeiaaDk9
import Derived.Test.YtlmlcedjhpfeiaaRow
namespace Go.Proofs.Ytlmlcedjhpfeiaa.Dk
open Go.RowKit Go.Mir Go.Mir.Parts

/-- what a call of the statement is -/
structure DOp where
  kind : Int
  file : Int
  n : Int
  b : List UInt8
  us : List Int
def dopA (o : DOp) (pb : Option Addr) (cb : Nat) (pu : Option Addr) (cu : Nat) : Array Value := #[.int .i64 o.kind, .int .i64 o.file, .int .i64 o.n, .slice pb o.b.length cb, .slice pu o.us.length cu]
structure DOpAt (w : World) (cs : List Value) (o : DOp) : Prop where
  form : ∃ pb cb pu cu, cs = (dopA o pb cb pu cu).toList ∧ Bs w pb o.b.length cb o.b ∧ Ns w pu o.us.length cu o.us
  kindB : -9223372036854775808 ≤ o.kind ∧ o.kind ≤ 9223372036854775807
  fileB : -9223372036854775808 ≤ o.file ∧ o.file ≤ 9223372036854775807
  nB : -9223372036854775808 ≤ o.n ∧ o.n ≤ 9223372036854775807
theorem Ns.below {w w' : World} {p : Option Addr} {n c : Nat} {us : List Int} (h : Ns w p n c us) (hb : Below w.heap.size w w') : Ns w' p n c us := ⟨h.sl.below hb, h.count, h.bd⟩
theorem DOpAt.below {w w' : World} {cs : List Value} {o : DOp} (h : DOpAt w cs o) (hb : Below w.heap.size w w') : DOpAt w' cs o := by
  obtain ⟨pb, cb, pu, cu, h1, h2, h3⟩ := h.form
  exact ⟨⟨pb, cb, pu, cu, h1, h2.below hb, h3.below hb⟩, h.kindB, h.fileB, h.nB⟩
structure DOps (w : World) (p : Option Addr) (n c : Nat) (os : List DOp) (rows : List (List Value)) : Prop where
  rs : Rs w p n c 5 rows
  count : os.length = n
  each : ∀ (i : Nat) r o, rows[i]? = some r → os[i]? = some o → DOpAt w r o
theorem DOps.below {w w' : World} {p : Option Addr} {n c : Nat} {os : List DOp} {rows : List (List Value)} (h : DOps w p n c os rows) (hb : Below w.heap.size w w') : DOps w' p n c os rows :=
  ⟨h.rs.below hb, h.count, fun i r o h1 h2 => (h.each i r o h1 h2).below hb⟩
theorem DOps.at {w : World} {b o n c : Nat} {os : List DOp} {rows : List (List Value)} (h : DOps w (some ⟨b, o, none⟩) n c os rows) (k : Nat) (hk : k < os.length) : ∃ pb cb pu cu, Bs w pb os[k].b.length cb os[k].b ∧ Ns w pu os[k].us.length cu os[k].us ∧ w.rangeAt b (o + k * 5) (dopA os[k] pb cb pu cu).toList := by
  have hkr : k < rows.length := by rw [h.rs.count, ← h.count]; exact hk
  obtain ⟨pb, cb, pu, cu, e, h1, h2⟩ := (h.each k _ os[k] (List.getElem?_eq_getElem hkr) (List.getElem?_eq_getElem hk)).form
  refine ⟨pb, cb, pu, cu, h1, h2, ?_⟩
  rw [← e]
  exact h.rs.row k hkr
theorem dopA_cell {w : World} {b : Nat} {o : DOp} {pb : Option Addr} {cb : Nat} {pu : Option Addr} {cu : Nat} {t : TypeId} {fr : Nat × Nat} (h : w.heap[b]? = some (.cells (dopA o pb cb pu cu) t fr)) :
    w.cell? ⟨b, 0, none⟩ = some (.int .i64 o.kind) ∧ w.cell? ⟨b, 1, none⟩ = some (.int .i64 o.file) ∧ w.cell? ⟨b, 2, none⟩ = some (.int .i64 o.n) ∧ w.cell? ⟨b, 3, none⟩ = some (.slice pb o.b.length cb) ∧ w.cell? ⟨b, 4, none⟩ = some (.slice pu o.us.length cu) := by
  refine ⟨?_, ?_, ?_, ?_, ?_⟩ <;> (rw [cell_of_row _ _ _ _ _ _ h]; rfl)
theorem dopA_one (o : DOp) (pb : Option Addr) (cb : Nat) (pu : Option Addr) (cu : Nat) : (dopA o pb cb pu cu).all (·.oneCell') = true := by
  unfold dopA
  simp [Value.oneCell']
theorem infoDOp (n : Nat) (h : n = 5) : (Try.prog.info? 54).map (·.size) = some n := by subst h; kernel_rfl
theorem zDOp : ∃ Z : Array Value, (∀ w0, (zeroValue 54).run Try.prog w0 = .ok (.agg Z) w0) ∧ Z.size = 5 := ⟨#[.int .i64 0, .int .i64 0, .int .i64 0, .slice none 0 0, .slice none 0 0], fun w0 => by kernel_rfl, by kernel_rfl⟩
def SmallP (w : World) (e : Ending) (w' : World) : Prop := ∃ sb : Bool, e = .returned (.bool sb) ∧ Below w.heap.size w w'
set_option maxRecDepth 100000 in
set_option maxHeartbeats 800000 in
theorem small_any (os : List DOp) (p : Option Addr) (c : Nat) (rows : List (List Value)) (w : World) (h : DOps w p os.length c os rows) (hbl : ∀ o ∈ os, o.b.length ≤ 140737488355328 ∧ o.us.length ≤ 140737488355328) :
    Calls Try.prog 17 #[.slice p os.length c] w (SmallP w) := by
  obtain ⟨Z, hz, hZ⟩ := zDOp
  have HZZ := Lib.hid hZ
  have H := Lib.hid h
  have HBL := Lib.hid hbl
  have hle := h.rs.sl.le
  have hmax := h.rs.sl.max
  clear h hZ hbl
  go_enter Try.func17, Try.ntmps17
  go_wp2_with fail
  go_loopw [3, 10] (fun a j wr => ∃ k : Nat, k ≤ os.length ∧ j = .int .i64 k ∧ (∃ z : Int, a = .int .i64 z) ∧ Below w.heap.size w wr) (fun _ j _ => os.length - (intOf j).toNat)
  case atStart => exact ⟨0, by omega, rfl, ⟨_, rfl⟩, Below.refl _ _⟩
  case round =>
    obtain ⟨k, hk, rfl, ⟨z, rfl⟩, hb0⟩ := hrel
    have HB0 := Lib.hid hb0
    clear hb0
    by_cases hlt : k < os.length
    · have hd : decide ((k : Int) < (os.length : Int)) = true := decide_eq_true (by omega)
      have hd2 : decide (k < os.length) = true := decide_eq_true hlt
      obtain ⟨b, o, rfl⟩ := H.out.rs.sl.addr (by omega) (by omega)
      obtain ⟨pb, cb, pu, cu, hbs, hns, hrg⟩ := H.out.at k hlt
      have HRG := Lib.hid (range_below hrg HB0.out)
      have hx1 : (os[k]).b.length ≤ 140737488355328 := (HBL.out _ (List.getElem_mem hlt)).1
      have hx2 : (os[k]).us.length ≤ 140737488355328 := (HBL.out _ (List.getElem_mem hlt)).2
      clear hbs hns hrg
      generalize os[k] = oo at *
      obtain ⟨A, hA⟩ : ∃ A, A = dopA oo pb cb pu cu := ⟨_, rfl⟩
      have HOS : Hid (A.size = 5) := by show _ = _; rw [hA]; rfl
      have HOO : Hid (A.all (·.oneCell') = true) := by show _ = _; rw [hA]; exact dopA_one _ _ _ _ _
      have HOL : Hid (A.toList.length = 5) := by show _ = _; rw [Array.length_toList]; exact HOS.out
      have HNW := Lib.hid (box_new wr Z 54)
      have hbr := box_row wr Z A 54
      have HBB := Lib.hid (box_below wr Z A 54)
      have HB3 := Lib.hid (HB0.out.trans (HBB.out.mono HB0.out.size))
      rw [hA] at hbr
      obtain ⟨_, _, _, hc3, hc4⟩ := dopA_cell hbr
      rw [← hA] at hc3 hc4 HRG
      clear hbr hA
      have hw1 : IntKind.i64.wrap ((oo.b.length : Int) + (oo.us.length : Int)) = (oo.b.length : Int) + (oo.us.length : Int) := IntWalk.i64_in _ (by omega)
      obtain ⟨z2, hw2⟩ : ∃ z2, IntKind.i64.wrap (z + ((oo.b.length : Int) + (oo.us.length : Int))) = z2 := ⟨_, rfl⟩
      go_wp2_with (first
        | ((with_reducible refine wpAt 13 ?_); refine wpList_load_mid rfl 54 _ rfl b (o + k * 5) rfl A.toList _ HRG.out Try.underlying54 rfl (infoDOp _ HOL.out) ?_)
        | ((with_reducible refine wpStoreAt 5 ?_); refine wpList_store_row rfl 54 _ _ rfl wr.heap.size A rfl rfl 54 Z HNW.out (infoDOp _ HOS.out) (HZZ.out.trans HOS.out.symm) HOO.out ?_))
      go_roundw
      case rel => exact ⟨k + 1, by omega, by go_num, ⟨_, rfl⟩, HB3.out⟩
      case measure => simp [intOf]; omega
    · have hd : decide ((k : Int) < (os.length : Int)) = false := decide_eq_false (by omega)
      have hd2 : decide (k < os.length) = false := decide_eq_false hlt
      obtain rfl : k = os.length := by omega
      go_wp2_with fail
      go_ret
      exact ⟨_, rfl, HB0.out⟩
end Go.Proofs.Ytlmlcedjhpfeiaa.Dk
