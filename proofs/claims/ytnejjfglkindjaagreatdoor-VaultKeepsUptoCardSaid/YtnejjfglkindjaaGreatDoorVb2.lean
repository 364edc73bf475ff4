/- PARTS, JOINED: THE WALKS OF A READER: a number; bytes; a count. Conditions: none. A REGION THAT DRAWS ITS ORDER, WALKED IN ONE ORDER, WHOSE LAST OPERATIONS MAY TURN WHAT THE EARLIER ONES READ. No program is named. Conditions: none. THE WALKS OF A READER: an id; a hint. Conditions: none. THE WALKS OF A READER: ids. Conditions: none. errors.Is AND errors.As AT A FAULT OF THE READER's, by their contracts: Go's own text walked. Conditions: for errors.As the laid cell of errors.errorType. THE WALKS OF A READER: Err, Done. Conditions: the laid cell of errors.errorType. WHAT THE ROWS OF A DOOR LIST, AND A WORLD THAT MEETS IT: errors.errorType's one cell. Conditions: none. WHAT COMES IN, OPENED: a law's argument that can be read as data, as the walks' own readings. No program is named. Conditions: none. SLICES OF STRUCTS, AND A STRUCT COPIED WHOLE INTO A NEW BLOCK. No program is named. Conditions: none. A SLICE THAT THE PROGRAM OWNS, AND THAT MAY HAVE BEEN CUT TO ITS LENGTH ('s[:n:n]'): as it reads, appended to, cut. No program is named. Conditions: none. A DISK IN MEMORY, and what it holds, plain. Conditions: none. -/
import Derived.Test.YtnejjfglkindjaaGreatDoorVb1
import Derived.Laws.BitsAllLaws
import Derived.Deep.MidRow
import Derived.Test.YtnejjfglkindjaaGreatDoorProg
import Derived.WalkKit
import Derived.LaidEql
import Derived.Stop.Asserts
import Derived.RowKitTokens
import Derived.Test.YtnejjfglkindjaaGreatDoorRows
import Derived.Test.YtnejjfglkindjaaGreatDoorCards
import Derived.Test.YtnejjfglkindjaaGreatDoorTie
import Derived.LaidLaws
import Derived.LaidHandle
import Derived.Deep.Slices
import Derived.ArgAppend
import Derived.Maps.AppendAt
import Derived.IntWalk
import Derived.Outline
namespace Go.Proofs.YtnejjfglkindjaaGreatDoor.Rdr
open Go.RowKit Go.Mir Go.Mir.Parts

/-! ### plain -/
def beN (l : List UInt8) : Nat := l.foldl (fun a b => 256 * a + b.toNat) 0
theorem beN_snoc (l : List UInt8) (b : UInt8) : beN (l ++ [b]) = 256 * beN l + b.toNat := by simp [beN, List.foldl_append]
theorem beN_lt_pow (l : List UInt8) : beN l < 256 ^ l.length := by
  suffices h : ∀ (a : Nat) (l : List UInt8), l.foldl (fun a b => 256 * a + b.toNat) a < (a + 1) * 256 ^ l.length by
    have := h 0 l
    rwa [Nat.zero_add, Nat.one_mul] at this
  intro a l
  induction l generalizing a with
  | nil => simp
  | cons b l ih =>
    have h1 := ih (256 * a + b.toNat)
    have h2 := b.toNat_lt
    have h3 : (256 * a + b.toNat + 1) * 256 ^ l.length ≤ ((a + 1) * 256) * 256 ^ l.length := Nat.mul_le_mul_right _ (by omega)
    rw [List.foldl_cons, List.length_cons, Nat.pow_succ, Nat.mul_comm (256 ^ l.length) 256, ← Nat.mul_assoc]
    omega
theorem beN_lt (l : List UInt8) (h : l.length ≤ 8) : beN l < 18446744073709551616 := by
  have h1 := beN_lt_pow l
  have h2 : 256 ^ l.length ≤ 256 ^ 8 := Nat.pow_le_pow_right (by omega) h
  have h3 : (256 : Nat) ^ 8 = 18446744073709551616 := by decide
  omega
theorem or_byte (x b : Nat) (hb : b < 256) : (256 * x ||| b) = 256 * x + b := by
  have := Nat.two_pow_add_eq_or_of_lt (i := 8) (b := b) (by omega) x
  rw [show (2 : Nat) ^ 8 = 256 from rfl] at this
  exact this.symm
def fitsW (n : Int) : Bool := decide (1 ≤ n) && decide (n ≤ 8)
def RD.numV (s : RD) (n : Int) : Nat := beN (s.takeB n (fitsW n))
def RD.numS (s : RD) (n : Int) : RD := s.takeS n (fitsW n)
theorem takeB_len (s : RD) (n : Int) (fits : Bool) : ((s.takeB n fits).length : Int) ≤ (if 0 ≤ n then n else 0) := by
  unfold RD.takeB
  split
  · rename_i h
    rw [List.length_take, if_pos h.2.2.1]
    omega
  · split <;> simp <;> omega
theorem takeW_len (s : RD) (n : Int) : (s.takeB n (fitsW n)).length ≤ 8 := by
  unfold RD.takeB
  split
  · rename_i h
    have h2 := h.2.1
    simp [fitsW] at h2
    rw [List.length_take]
    omega
  · simp
def NumP (base rb : Nat) (s : RD) (n : Int) (w : World) (e : Ending) (w' : World) : Prop := e = .returned (.int .u64 (s.numV n : Int)) ∧ LeftR base rb (s.numS n) w w'

set_option maxRecDepth 100000 in
set_option maxHeartbeats 1600000 in
theorem num_any {base rb : Nat} {s : RD} (w : World) (h : RAt w base rb s) (n : Int) (hn : -9223372036854775808 ≤ n ∧ n ≤ 9223372036854775807) :
    Calls Tryz.prog 108 #[.pointer (some ⟨rb, 0, none⟩), .int .i64 n] w (NumP base rb s n w) := by
  have HT := Lib.hid (take_any w h n hn (fitsW n))
  have HF : Hid (∀ w', LeftR base rb (s.numS n) w w' → NumP base rb s n w (.returned (.int .u64 (s.numV n : Int))) w') := fun w' hl => ⟨rfl, hl⟩
  have hl8 := takeW_len s n
  clear h
  generalize hfw : fitsW n = fw at *
  have hnumS : s.numS n = s.takeS n fw := by unfold RD.numS; rw [hfw]
  have hnumV : s.numV n = beN (s.takeB n fw) := by unfold RD.numV; rw [hfw]
  rw [hnumS, hnumV] at HF
  generalize hL : s.takeB n fw = L at *
  have HLE := Lib.hid hL
  clear hL hnumS hnumV
  have hmain : ∀ a b : Bool, decide ((1 : Int) ≤ n) = a → decide (n ≤ 8) = b → fw = (a && b) → Calls Tryz.prog 108 #[.pointer (some ⟨rb, 0, none⟩), .int .i64 n] w (NumP base rb s n w) := by
    intro a b ha hb hab
    have HAB := Lib.hid hab
    clear hab
    cases a with
    | true =>
      obtain rfl : fw = b := HAB.out
      go_enter Tryz.func108, Tryz.ntmps108
      go_wp2_with fail
      refine HT.out.mono ?_
      rintro e w1 ⟨p, c, rfl, hbs, hl⟩
      rw [HLE.out] at hbs ⊢
      have HFIN := Lib.hid (HF.out _ hl)
      clear hl
      generalize hLn : L.length = m at *
      have HLN := Lib.hid hLn
      clear hLn
      have hle := hbs.le
      have hmax := hbs.max
      have HBS := Lib.hid hbs
      clear hbs
      go_wp2_with fail
      go_loop [5, 18] (fun x j => ∃ k : Nat, k ≤ m ∧ j = .int .i64 k ∧ x = .int .u64 (beN (L.take k) : Nat)) (fun _ j => m - (intOf j).toNat)
      case atStart => exact ⟨0, by omega, rfl, rfl⟩
      case round =>
        obtain ⟨k, hk, rfl, rfl⟩ := hrel
        have HLN := HLN
        by_cases hlt : k < m
        · have hd : decide ((k:Int) < m) = true := by simp; omega
          obtain ⟨b', o', rfl⟩ := HBS.out.addr (by omega) (by omega)
          have hc' := HBS.out.byte (j := k) (by rw [HLN.out]; omega)
          have hti := take_snoc L k (by rw [HLN.out]; omega)
          have hyl : L[k]'(by rw [HLN.out]; omega) = L[k]'(by rw [HLN.out]; omega) := rfl
          have hbe := beN_snoc (L.take k) (L[k]'(by rw [HLN.out]; omega))
          rw [← hti] at hbe
          have hb1 := beN_lt (L.take (k + 1)) (by rw [List.length_take, HLN.out]; omega)
          generalize hly : L[k]'(by rw [HLN.out]; omega) = y at *
          clear hly hyl hti
          have hll : y.toNat < 256 := y.toNat_lt
          generalize hB : beN (L.take k) = B at *
          generalize hB2 : beN (L.take (k + 1)) = B2 at *
          have HB2 := Lib.hid hB2
          have HBE := Lib.hid hbe
          have hw : IntKind.u64.wrap ((B : Int) * 256) = ((256 * B : Nat) : Int) := by
            rw [IntKind.wrap_u64]
            omega
          have hor : bits .or .u64 ((256 * B : Nat) : Int) ((y.toNat : Nat) : Int) = (B2 : Int) := by
            rw [u64_or_nat _ _ (by omega) (by omega), or_byte _ _ hll, hbe]
          have HOR := Lib.hid hor
          have HW := Lib.hid hw
          clear hB hB2 hbe hor hw
          go_wp2_with fail
          go_round
          case rel =>
            exact ⟨k + 1, by omega, by go_num, by rw [HW.out, HOR.out, HB2.out]⟩
          case measure => simp [intOf]; omega
        · obtain rfl : k = m := by omega
          rw [← HLN.out, List.take_length]
          go_wp2_with fail
          go_ret
          exact HFIN.out
    | false =>
      obtain rfl : fw = false := HAB.out
      clear hb
      go_enter Tryz.func108, Tryz.ntmps108
      go_wp2_with fail
      refine HT.out.mono ?_
      rintro e w1 ⟨p, c, rfl, hbs, hl⟩
      rw [HLE.out] at hbs ⊢
      have HFIN := Lib.hid (HF.out _ hl)
      clear hl
      generalize hLn : L.length = m at *
      have HLN := Lib.hid hLn
      clear hLn
      have hle := hbs.le
      have hmax := hbs.max
      have HBS := Lib.hid hbs
      clear hbs
      go_wp2_with fail
      go_loop [5, 18] (fun x j => ∃ k : Nat, k ≤ m ∧ j = .int .i64 k ∧ x = .int .u64 (beN (L.take k) : Nat)) (fun _ j => m - (intOf j).toNat)
      case atStart => exact ⟨0, by omega, rfl, rfl⟩
      case round =>
        obtain ⟨k, hk, rfl, rfl⟩ := hrel
        have HLN := HLN
        by_cases hlt : k < m
        · have hd : decide ((k:Int) < m) = true := by simp; omega
          obtain ⟨b', o', rfl⟩ := HBS.out.addr (by omega) (by omega)
          have hc' := HBS.out.byte (j := k) (by rw [HLN.out]; omega)
          have hti := take_snoc L k (by rw [HLN.out]; omega)
          have hyl : L[k]'(by rw [HLN.out]; omega) = L[k]'(by rw [HLN.out]; omega) := rfl
          have hbe := beN_snoc (L.take k) (L[k]'(by rw [HLN.out]; omega))
          rw [← hti] at hbe
          have hb1 := beN_lt (L.take (k + 1)) (by rw [List.length_take, HLN.out]; omega)
          generalize hly : L[k]'(by rw [HLN.out]; omega) = y at *
          clear hly hyl hti
          have hll : y.toNat < 256 := y.toNat_lt
          generalize hB : beN (L.take k) = B at *
          generalize hB2 : beN (L.take (k + 1)) = B2 at *
          have HB2 := Lib.hid hB2
          have HBE := Lib.hid hbe
          have hw : IntKind.u64.wrap ((B : Int) * 256) = ((256 * B : Nat) : Int) := by
            rw [IntKind.wrap_u64]
            omega
          have hor : bits .or .u64 ((256 * B : Nat) : Int) ((y.toNat : Nat) : Int) = (B2 : Int) := by
            rw [u64_or_nat _ _ (by omega) (by omega), or_byte _ _ hll, hbe]
          have HOR := Lib.hid hor
          have HW := Lib.hid hw
          clear hB hB2 hbe hor hw
          go_wp2_with fail
          go_round
          case rel =>
            exact ⟨k + 1, by omega, by go_num, by rw [HW.out, HOR.out, HB2.out]⟩
          case measure => simp [intOf]; omega
        · obtain rfl : k = m := by omega
          rw [← HLN.out, List.take_length]
          go_wp2_with fail
          go_ret
          exact HFIN.out
  exact hmain _ _ rfl rfl (by rw [← hfw]; rfl)

def BytesP (base rb : Nat) (s : RD) (n : Int) (w : World) (e : Ending) (w' : World) : Prop :=
  ∃ p c, e = .returned (.slice p (s.takeB n true).length c) ∧ w'.ownsRow w.heap.size 5 1 (.slice p (s.takeB n true).length c) (s.takeB n true).length (bytesV (s.takeB n true)) ∧ LeftR base rb (s.takeS n true) w w'
set_option maxRecDepth 100000 in
theorem bytes_any {base rb : Nat} {s : RD} (w : World) (h : RAt w base rb s) (n : Int) (hn : -9223372036854775808 ≤ n ∧ n ≤ 9223372036854775807) :
    Calls Tryz.prog 110 #[.pointer (some ⟨rb, 0, none⟩), .int .i64 n] w (BytesP base rb s n w) := by
  have HT := Lib.hid (take_any w h n hn true)
  have hl47 : (s.takeB n true).length ≤ 140737488355328 := by
    obtain ⟨v, bv, h⟩ := h
    have h1 := h.len
    unfold RD.takeB
    split
    · rw [List.length_take, List.length_drop]; omega
    · simp
  clear h
  go_enter Tryz.func110, Tryz.ntmps110
  go_wp2_with fail
  refine HT.out.mono ?_
  rintro e w1 ⟨p, c, rfl, hbs, hl⟩
  have HL := Lib.hid hl
  clear hl
  have HF : Hid (∀ p' c' w', w'.ownsRow w1.heap.size 5 1 (.slice p' (s.takeB n true).length c') (s.takeB n true).length (bytesV (s.takeB n true)) → Below w1.heap.size w1 w' → BytesP base rb s n w (.returned (.slice p' (s.takeB n true).length c')) w') := fun p' c' w' ho hb =>
    ⟨p', c', rfl, own_base ho (fun k hk => Nat.le_trans HL.out.2.size (by
      rcases ho.2 with ⟨h1, _⟩ | ⟨g, cap, cur, h1, h2, _⟩
      · rw [h1] at hk; cases hk
      · rw [h1] at hk; simp [Value.ownBlock] at hk; omega)), HL.out.trans (LeftR.same HL.out.1 hb)⟩
  generalize s.takeB n true = L at *
  generalize hm : L.length = m at *
  clear hm
  have hle := hbs.le
  have hmax := hbs.max
  have HBS := Lib.hid hbs
  clear hbs
  go_wp2_with (refine wpList_append_nx rfl _ _ 22 rfl (base := w1.heap.size) Tryz.underlying22 info8 rfl (by omega) rfl (World.ownsRow_nil _ _ _ _) rfl HBS.out (bytesV_one _) ⟨by omega, by omega⟩ (Nat.le_refl _) ?_)
  intro p9 c9 w9 ho9 hg9 _ _
  have HX := Lib.hid (HF.out p9 c9 w9 (by simpa using ho9) ((Below.refl _ _).grown hg9 (Nat.le_refl _) (fun k hk => by simp [Value.ownBlock] at hk)))
  clear ho9 hg9
  go_wp2_with fail
  go_ret
  exact HX.out

def RD.cntS (s : RD) (width most : Int) : RD := if most < 0 ∨ most < (s.numV width : Int) then (s.numS width).fail 4 else s.numS width
def RD.cntV (s : RD) (width most : Int) : Int := if (s.cntS width most).bad = none then (s.numV width : Int) else 0
def CountP (base rb : Nat) (s : RD) (n m : Int) (w : World) (e : Ending) (w' : World) : Prop := e = .returned (.int .i64 (s.cntV n m)) ∧ LeftR base rb (s.cntS n m) w w'
theorem numV_lt (s : RD) (n : Int) : s.numV n < 18446744073709551616 := beN_lt _ (takeW_len s n)
theorem RAt.cells {w : World} {base rb : Nat} {s : RD} (h : RAt w base rb s) : ∃ bv, w.cell? ⟨rb, 3, none⟩ = some bv ∧ FaultAt w base s.bad bv := by
  obtain ⟨v, bv, h⟩ := h
  exact ⟨bv, h.cells.2.2.2.1, h.fault⟩
end Go.Proofs.YtnejjfglkindjaaGreatDoor.Rdr

namespace Go.Mir
open Go.RowKit

section
variable {P : Program} {ops : Array Oper} {S : World → Prop} {Q : Exit → Act → World → Prop} {marks : List Nat}
/-- it waits for i, by a path of edges -/
def waitsB (ops : Array Oper) : Nat → Nat → Nat → Bool
  | 0, _, _ => false
  | n + 1, j, i => match ops[j]? with
    | some o => o.after.any fun e => Region.binds .any e && (e.on == i || waitsB ops n e.on i)
    | none => false
/-- it waits for every marked operation -/
def lateB (ops : Array Oper) (marks : List Nat) (j : Nat) : Bool := marks.all fun i => waitsB ops 16 j i
/-- what is listed had all that it waits for listed -/
def closedL (ops : Array Oper) (listed : Array Bool) : Prop := ∀ (j : Nat) (o : Oper), ops[j]? = some o → listed.getD j false = true → ∀ e ∈ o.after, Region.binds .any e = true → listed.getD e.on false = true
theorem waits_listed {listed : Array Bool} (hc : closedL ops listed) {i : Nat} : ∀ (n j : Nat) (o : Oper), ops[j]? = some o → (∀ e ∈ o.after, Region.binds .any e = true → listed.getD e.on false = true) → waitsB ops n j i = true → listed.getD i false = true
  | 0, _, _, _, _, h => by cases h
  | n + 1, j, o, ho, hall, h => by
    simp only [waitsB, ho] at h
    rw [Array.any_eq_true] at h
    obtain ⟨k, hk, h4⟩ := h
    simp only [Bool.and_eq_true, Bool.or_eq_true, beq_iff_eq] at h4
    have hl := hall _ (Array.getElem_mem hk) h4.1
    rcases h4.2 with h5 | h5
    · rw [h5] at hl; exact hl
    · cases ho2 : ops[o.after[k].on]? with
      | none => cases n with
        | zero => cases h5
        | succ m => simp [waitsB, ho2] at h5
      | some o2 => exact waits_listed hc n _ o2 ho2 (hc _ o2 ho2 hl) h5
theorem closedL.set {listed : Array Bool} (hc : closedL ops listed) {j : Nat} (hj : j ∈ Region.ready .any ops listed) : closedL ops (listed.setIfInBounds j true) := fun k o ho hk e he hb => by
  obtain ⟨_, oj, hoj, hall⟩ := mem_ready.1 hj
  by_cases hjk : j = k
  · subst hjk
    rw [hoj] at ho
    cases ho
    exact getD_set_true (hall e he hb)
  · rw [getD_set_ne false hjk] at hk
    exact getD_set_true (hc k o ho hk e he hb)
/-- whichever comes up: S is asked only behind what can come ahead of a marked operation -/
def wpAnyG (P : Program) (ops : Array Oper) (Q : Exit → Act → World → Prop) (S : World → Prop) (marks : List Nat) : Nat → Array Bool → Act → World → Prop
  | 0, listed, a, w => Region.ready .any ops listed = [] ∧ Q .normal a w
  | n + 1, listed, a, w => (Region.ready .any ops listed = [] → Q .normal a w) ∧
    ∀ i ∈ Region.ready .any ops listed, wpOp P ops Q i (fun a' w' => (lateB ops marks i = false → S w') ∧ wpAnyG P ops Q S marks n (listed.setIfInBounds i true) a' w') a w
theorem wpAny_of_G : ∀ (n : Nat) (listed : Array Bool) (a : Act) (w : World), wpAnyG P ops Q S marks n listed a w → wpAny P .any ops Q n listed a w
  | 0, _, _, _, h => h
  | n + 1, _, _, _, h => ⟨h.1, fun i hi => wpOp_mono (fun a' w' h' => wpAny_of_G n _ a' w' h'.2) (h.2 i hi)⟩
theorem wpAnyG_take {i : Nat} {oi : Oper} {v : Value} (hi : ops[i]? = some oi) (hmk : i ∈ marks) (hsel : ∀ (j : Nat) (o : Oper) cs b, ops[j]? = some o → o.op ≠ .select cs b)
    (hQ : ∀ c a w, Q (.panic c) (a.put oi.dst v) w → Q (.panic c) a w) :
    ∀ (n : Nat) (listed : Array Bool) (a : Act) (w : World),
      (∀ j oj, ops[j]? = some oj → j ≠ i → listed.getD j true = false → (∀ e ∈ oj.after, Region.binds .any e = true → e.on ≠ i) → oi.apart ops oj = true) →
      i ∈ Region.ready .any ops listed → closedL ops listed → YieldsIf P ops S oi v a → S w →
      wpAnyG P ops Q S marks n (listed.setIfInBounds i true) (a.put oi.dst v) w → wpAnyG P ops Q S marks (n + 1) listed a w := by
  intro n
  induction n with
  | zero =>
    intro listed a w _ hr hcl hy hS H
    refine ⟨fun h => absurd (h ▸ hr) List.not_mem_nil, fun j hj => ?_⟩
    by_cases hji : j = i
    · subst hji; exact hy.wpOp hi hS ⟨fun _ => hS, H⟩
    · exact absurd (H.1 ▸ ready_mono hj hji) List.not_mem_nil
  | succ n ih =>
    intro listed a w hfree hr hcl hy hS H
    refine ⟨fun h => absurd (h ▸ hr) List.not_mem_nil, fun j hj => ?_⟩
    by_cases hji : j = i
    · subst hji; exact hy.wpOp hi hS ⟨fun _ => hS, H⟩
    obtain ⟨hjun, oj, hoj, hall⟩ := mem_ready.1 hj
    have hiun := (mem_ready.1 hr).1
    have hno : ∀ e ∈ oj.after, Region.binds .any e = true → e.on ≠ i := fun e he hb heq => by
      have h1 := hall e he hb
      rw [heq] at h1
      rcases Nat.lt_or_ge i listed.size with h' | h'
      · simp [h'] at hiun h1; rw [hiun] at h1; cases h1
      · simp [Array.getElem?_eq_none h'] at h1
    have hlate : lateB ops marks j = false := by
      cases hl : lateB ops marks j with
      | false => rfl
      | true =>
        simp only [lateB, List.all_eq_true] at hl
        have h3 := waits_listed hcl 16 j oj hoj hall (hl i hmk)
        rcases Nat.lt_or_ge i listed.size with h' | h'
        · simp [h'] at hiun h3; rw [hiun] at h3; cases h3
        · simp [Array.getElem?_eq_none h'] at h3
    have h2 := wpOp_putIf hoj (hfree j oj hoj hji hjun hno) (fun cs b => hsel i oi cs b hi) (fun cs b => hsel j oj cs b hoj) hQ hy (H.2 j (ready_mono hj hji))
    refine wpOp_mono (fun a' w' h3 => ⟨h3.2.1, ih (listed.setIfInBounds j true) a' w' ?_ (ready_mono hr (Ne.symm hji)) (hcl.set hj) h3.1 (h3.2.1 hlate) ?_⟩) h2
    · intro k ok hk hki hun hn'
      refine hfree k ok hk hki ?_ hn'
      by_cases hjk : j = k
      · subst hjk; exact hjun
      · rw [getD_set_ne true hjk] at hun; exact hun
    · rw [Array.setIfInBounds_comm _ _ hji]
      exact h3.2.2
/-- the plan: what is taken or called while S stands; then what is late -/
def planT (ops : Array Oper) (marks : List Nat) : List Nat → Array Bool → Bool
  | j :: t, l => (ops[j]?).isSome && Region.ready .any ops l == [j] && lateB ops marks j && planT ops marks t (l.setIfInBounds j true)
  | [], l => (Region.ready .any ops l).isEmpty
def planG (ops : Array Oper) (marks : List Nat) (t : List Nat) : List (Nat × Bool) → Array Bool → Bool
  | (i, true) :: r, l => (ops[i]?).isSome && marks.contains i && Region.free .any ops l i && (Region.ready .any ops l).contains i && planG ops marks t r (l.setIfInBounds i true)
  | (i, false) :: r, l => (ops[i]?).isSome && Region.ready .any ops l == [i] && planG ops marks t r (l.setIfInBounds i true)
  | [], l => planT ops marks t l
def tailOps (l : List Oper) : List Nat → List Oper
  | [] => []
  | j :: t => match nthO l j with
    | some o => o :: tailOps l t
    | none => tailOps l t
/-- the walk: while S stands, and on -/
def wpEagerT (P : Program) (ops : Array Oper) (S : World → Prop) (Q : Exit → Act → World → Prop) (T : List Oper) : List (Oper × Bool) → Act → World → Prop
  | [], a, w => wpList P ops Q T a w
  | (o, true) :: r, a, w => ∃ v, YieldsIf P ops S o v a ∧ wpEagerT P ops S Q T r (a.put o.dst v) w
  | (o, false) :: r, a, w => if Region.wanted o (yielded ops a.tmps) then o.wp P a w (fun a' w' => S w' ∧ wpEagerT P ops S Q T r a' w') Q else wpEagerT P ops S Q T r (a.put o.dst undef) w
theorem wpAnyG_late {l : List Oper} (hl : l.toArray = ops) (hs : Region.noSelect ops = true) : ∀ (t : List Nat) (listed : Array Bool) (a : Act) (w : World), planT ops marks t listed = true → wpList P ops Q (tailOps l t) a w → wpAnyG P ops Q S marks t.length listed a w
  | [], listed, a, w, hp, h => by
    simp only [planT, List.isEmpty_iff] at hp
    exact ⟨hp, h⟩
  | j :: t, listed, a, w, hp, h => by
    simp only [planT, Bool.and_eq_true, beq_iff_eq] at hp
    obtain ⟨⟨⟨h1, h2⟩, h3⟩, h4⟩ := hp
    obtain ⟨o, ho⟩ := Option.isSome_iff_exists.1 h1
    have hn : nthO l j = some o := by rw [← nthO_eq, hl]; exact ho
    simp only [tailOps, hn] at h
    refine ⟨fun e => (by rw [h2] at e; cases e), fun i hi => ?_⟩
    rw [h2, List.mem_singleton] at hi
    subst hi
    unfold wpOp
    simp only [ho]
    unfold wpList at h
    split at h
    · rename_i hw
      rw [if_pos hw]
      exact h.imp (fun h => Oper.wp_mono (fun a' w' h5 => ⟨fun e => (by rw [h3] at e; cases e), wpAnyG_late hl hs t _ _ _ h4 h5⟩) h) id
    · rename_i hw
      rw [if_neg hw]
      exact ⟨fun e => (by rw [h3] at e; cases e), wpAnyG_late hl hs t _ _ _ h4 h⟩
theorem wpAnyG_plan {l : List Oper} (hl : l.toArray = ops) (hs : Region.noSelect ops = true) (hQ : ∀ c a d v w, Q (.panic c) (a.put d v) w → Q (.panic c) a w) (t : List Nat) :
    ∀ (π : List (Nat × Bool)) (listed : Array Bool) (a : Act) (w : World), planG ops marks t π listed = true → closedL ops listed → S w → wpEagerT P ops S Q (tailOps l t) (planOps l π) a w → wpAnyG P ops Q S marks (π.length + t.length) listed a w
  | [], listed, a, w, hp, _, _, h => by
    rw [List.length_nil, Nat.zero_add]
    exact wpAnyG_late hl hs t _ _ _ hp h
  | (i, true) :: r, listed, a, w, hp, hcl, hS, h => by
    simp only [planG, Bool.and_eq_true] at hp
    obtain ⟨⟨⟨⟨h1, hmk⟩, h2⟩, h3⟩, h4⟩ := hp
    obtain ⟨o, ho⟩ := Option.isSome_iff_exists.1 h1
    have hn : nthO l i = some o := by rw [← nthO_eq, hl]; exact ho
    simp only [planOps, hn, wpEagerT] at h
    obtain ⟨v, hy, h⟩ := h
    rw [List.length_cons, Nat.add_right_comm]
    exact wpAnyG_take ho (by simpa using hmk) (Region.noSelect_spec hs) (fun c a w => hQ c a _ _ w) _ _ _ _ (Region.free_spec ho h2) (by simpa using h3) hcl hy hS (wpAnyG_plan hl hs hQ t r _ _ _ h4 (hcl.set (by simpa using h3)) hS h)
  | (i, false) :: r, listed, a, w, hp, hcl, hS, h => by
    simp only [planG, Bool.and_eq_true, beq_iff_eq] at hp
    obtain ⟨⟨h1, h2⟩, h4⟩ := hp
    obtain ⟨o, ho⟩ := Option.isSome_iff_exists.1 h1
    have hn : nthO l i = some o := by rw [← nthO_eq, hl]; exact ho
    simp only [planOps, hn, wpEagerT] at h
    rw [List.length_cons, Nat.add_right_comm]
    refine ⟨fun e => (by rw [h2] at e; cases e), fun j hj => ?_⟩
    rw [h2, List.mem_singleton] at hj
    subst hj
    unfold wpOp
    simp only [ho]
    split at h
    · rename_i hw
      rw [if_pos hw]
      exact .inl (Oper.wp_mono (fun a' w' ⟨h5, h6⟩ => ⟨fun _ => h5, wpAnyG_plan hl hs hQ t r _ _ _ h4 (hcl.set (by rw [h2]; exact List.mem_singleton.2 rfl)) h5 h6⟩) h)
    · rename_i hw
      rw [if_neg hw]
      exact ⟨fun _ => hS, wpAnyG_plan hl hs hQ t r _ _ _ h4 (hcl.set (by rw [h2]; exact List.mem_singleton.2 rfl)) hS h⟩
/-- the beginning -/
theorem wp_region_eager_t {id : Nat} {a : Act} {w : World} {l : List Oper} (S : World → Prop) (marks : List Nat) (π : List (Nat × Bool)) (t : List Nat) (hm : P.follows .mixedOrders = true)
    (hp : (planG l.toArray marks t π (Array.replicate l.length false) && Region.noSelect l.toArray && π.length + t.length == l.length) = true) (hS : S w.drew)
    (h : wpEagerT P l.toArray S (NoPanic Q) (tailOps l t) (planOps l π) a w.drew) : (Code.region id l.toArray true).wp P Q a w := by
  refine wp_region_noPanic ?_
  simp only [Bool.and_eq_true, beq_iff_eq] at hp
  obtain ⟨⟨h1, h2⟩, h3⟩ := hp
  have := wpAny_of_G _ _ _ _ (wpAnyG_plan (P := P) (Q := NoPanic Q) (S := S) (marks := marks) (l := l) rfl h2 (fun _ _ _ _ _ h => h) t π (Array.replicate l.length false) a w.drew h1 (fun j o _ hj => by rw [Array.getD_eq_getD_getElem?, Array.getElem?_replicate] at hj; split at hj <;> cases hj) hS h)
  refine wp_region_any hm ?_
  rw [h3] at this
  have hz : l.toArray.size = l.length := List.size_toArray ..
  rw [hz]
  exact this
/-- the next operation, written out -/
theorem eagerTOpen {l : List Oper} {T : List Oper} {i : Nat} {b : Bool} {r : List (Nat × Bool)} {a : Act} {w : World} {o : Oper} (ho : nthO l i = some o)
    (h : wpEagerT P ops S Q T ((o, b) :: planOps l r) a w) : wpEagerT P ops S Q T (planOps l ((i, b) :: r)) a w := by
  unfold planOps; rw [ho]; exact h
theorem eagerTEnd {l : List Oper} {T : List Oper} {a : Act} {w : World} (h : wpList P ops Q T a w) : wpEagerT P ops S Q T (planOps l []) a w := h
theorem tail1 {l : List Oper} {j : Nat} {a : Act} {w : World} {o : Oper} (ho : nthO l j = some o) (h : wpList P ops Q [o] a w) : wpList P ops Q (tailOps l [j]) a w := by
  simp only [tailOps, ho]; exact h
theorem tail2 {l : List Oper} {j k : Nat} {a : Act} {w : World} {o o' : Oper} (ho : nthO l j = some o) (ho' : nthO l k = some o') (h : wpList P ops Q [o, o'] a w) : wpList P ops Q (tailOps l [j, k]) a w := by
  simp only [tailOps, ho, ho']; exact h
theorem wpEagerT_tail {T : List Oper} {a : Act} {w : World} (h : wpList P ops Q T a w) : wpEagerT P ops S Q T [] a w := h
theorem wpEagerT_take {T : List Oper} {o : Oper} {r : List (Oper × Bool)} {a : Act} {w : World} {v : Value} (hw : Region.wanted o (yielded ops a.tmps) = true)
    (hy : ∀ w', S w' → (execOp a.eval o).run P w' = .ok (.value v) w') (h : wpEagerT P ops S Q T r (a.put o.dst v) w) : wpEagerT P ops S Q T ((o, true) :: r) a w := ⟨v, .inl ⟨hw, hy⟩, h⟩
theorem wpEagerT_skip {T : List Oper} {o : Oper} {r : List (Oper × Bool)} {a : Act} {w : World} (hw : Region.wanted o (yielded ops a.tmps) = false)
    (h : wpEagerT P ops S Q T r (a.put o.dst undef) w) : wpEagerT P ops S Q T ((o, true) :: r) a w := ⟨undef, .inr ⟨hw, rfl⟩, h⟩
theorem wpEagerT_load {T : List Oper} {op : Oper} {r : List (Oper × Bool)} {a : Act} {w : World} (hw : Region.wanted op (yielded ops a.tmps) = true) (ty : TypeId) (x : Operand) (ho : op.op = .load ty x)
    (b o : Nat) (hx : a.eval x = .pointer (some ⟨b, o, none⟩)) (M : Array Value) (d : TypeDesc) (hc : ∀ w', S w' → w'.rangeAt b o M.toList)
    (hu : P.underlying ty = some d) (hd : d.isRow = true) (hi : (P.info? ty).map (·.size) = some M.size)
    (h : wpEagerT P ops S Q T r (a.put op.dst (.agg M)) w) : wpEagerT P ops S Q T ((op, true) :: r) a w := by
  refine wpEagerT_take hw (fun w' hb => ?_) h
  unfold execOp
  simp only [ho, hx, Instr.loadAt, Instr.sureAddr, Sem.run_bind, Sem.run_pure, Result.andThen_ok, run_loadVar_mid w' b o ty M.toList d (hc w' hb) hu hd (by simpa using hi)]
theorem wpEagerT_op {T : List Oper} {o : Oper} {r : List (Oper × Bool)} {a : Act} {w : World} (hw : Region.wanted o (yielded ops a.tmps) = true)
    (h : ∀ K : Act → World → Prop, Shut (∀ a w, S w → wpEagerT P ops S Q T r a w → K a w) → Oper.wp P o a w K Q) : wpEagerT P ops S Q T ((o, false) :: r) a w := by
  unfold wpEagerT; rw [if_pos hw]; exact h _ fun _ _ h1 h2 => ⟨h1, h2⟩
theorem eagerTLoadAt {T : List Oper} {r : List (Oper × Bool)} {a : Act} {w : World} (n : Nat) {d : Option Nat} {ty : TypeId} {t : TypeId} {p : String} {af : Array Edge} {g : Option (Nat × Bool)} {b : Bool}
    (h : wpEagerT P ops S Q T ((⟨d, .load ty (.tmp n), t, p, af, g⟩, b) :: r) a w) : wpEagerT P ops S Q T ((⟨d, .load ty (.tmp n), t, p, af, g⟩, b) :: r) a w := h
end
/-- where an operation alone ends -/
def OnlyQ (K : Act → World → Prop) (Q : Exit → Act → World → Prop) : Exit → Act → World → Prop
  | .normal, a, w => K a w
  | .panic c, a, w => Q (.panic c) a w
  | _, _, _ => False
/-- an operation by its law for a list -/
theorem oper_of_list {P : Program} {o : Oper} {a : Act} {w : World} {K : Act → World → Prop} {Q : Exit → Act → World → Prop} (hg : o.guard = none)
    (h : wpList P #[] (OnlyQ K Q) [o] a w) : Oper.wp P o a w K Q := by
  have hno : ¬ LetsOut (OnlyQ K Q) := fun ⟨_, _, h⟩ => h
  unfold wpList at h
  rw [if_pos (by simp [Region.wanted, hg])] at h
  rcases h with h | ⟨_, h⟩
  · replace h : Oper.wp P o a w K (OnlyQ K Q) := h
    unfold Oper.wp at h ⊢
    unfold Oper.upon at h ⊢
    split at h
    · exact h
    · exact h
    · exact h
    · refine Calls.mono h ?_
      intro e w' he
      cases e with
      | returned v => exact he
      | panicked c => exact he
      | outgrown => exact absurd he hno
    · exact h
    · exact h
    · exact h.elim
  · exact absurd h hno
theorem only_end {P : Program} {ops : Array Oper} {K : Act → World → Prop} {Q : Exit → Act → World → Prop} {a : Act} {w : World} (h : K a w) : wpList P ops (OnlyQ K Q) [] a w := h
theorem noPanic_end {Q : Exit → Act → World → Prop} {a : Act} {w : World} (h : Q .normal a w) : NoPanic Q .normal a w := h
end Go.Mir

namespace Go.Proofs.YtnejjfglkindjaaGreatDoor.Rdr
open Go.RowKit Go.Mir Go.Mir.Parts

theorem wpList_copy_turn {P : Program} {w : World} {ops : Array Oper} {rest : List Oper} {o : Oper} {a : Act} {Q : Exit → Act → World → Prop} (hgd : o.guard = none) (d s : Operand) (dT sT : TypeId)
    (ho : o.op = .call { callee := .builtin .copy, args := #[d, s], argTypes := #[dT, sT] }) (elem : TypeId) (hu : P.underlying dT = some (.slice elem)) (hsz : (P.info? elem).map (·.size) = some 1)
    (dp sp : Option Addr) (dLen dCap sLen sCap : Nat) (hd : a.eval d = .slice dp dLen dCap) (hs : a.eval s = .slice sp sLen sCap)
    (g off : Nat) (cur : Array Value) (t : TypeId) (hg : w.heap[g]? = some (.cells cur t (0, 0))) (cs : List Value) (hn : cs.length = Nat.min sLen dLen)
    (hpos : 0 < cs.length → dp = some ⟨g, off, none⟩ ∧ ∃ ad, sp = some ad ∧ ∀ j v, cs[j]? = some v → w.cell? (ad.add j) = some v)
    (hfit : off + cs.length ≤ cur.size) (h1 : ∀ v ∈ cs, v.oneCell' = true)
    (h : ∀ w', Hid (w'.heap[g]? = some (.cells (cur.toList.take off ++ (cs ++ cur.toList.drop (off + cs.length))).toArray t (0, 0))) → Turns (fun k => k = g) w w' → wpList P ops Q rest (a.put o.dst (goInt cs.length)) w') :
    wpList P ops Q (o :: rest) a w := by
  by_cases h0 : cs.length = 0
  · obtain rfl : cs = [] := List.eq_nil_of_length_eq_zero h0
    refine wpList_copy_nothing hgd d s dT sT ho elem hu hsz dp sp dLen dCap sLen sCap hd hs (by simpa using hn.symm) ?_
    exact h w (show _ = _ by simpa using hg) (Turns.refl _ _)
  · obtain ⟨rfl, ad, rfl, hsrc⟩ := hpos (by omega)
    refine wpList_copy_own hgd d s dT sT ho elem hu hsz g off dLen dCap ad sLen sCap hd hs cur t hg cs hn hsrc hfit h1 ?_
    exact h _ (setRow_heap w g _ _ t _ hg) (turns_setRow w g _)
theorem bytesV_rep (n k : Nat) : (bytesV (List.replicate n 0)).drop k = bytesV (List.replicate (n - k) 0) := by unfold bytesV; rw [List.map_replicate, List.map_replicate, List.drop_replicate]
def RD.idV (s : RD) (n : Nat) : List UInt8 := s.takeB n true ++ List.replicate (n - (s.takeB n true).length) 0
def IdP (base rb : Nat) (s : RD) (n : Nat) (w : World) (e : Ending) (w' : World) : Prop := e = .returned (.agg (idA (s.idV n))) ∧ LeftR base rb (s.takeS n true) w w'
theorem RAt.touch {S : Nat → Prop} {w w' : World} {base rb : Nat} {s : RD} (h : RAt w base rb s) (ht : Turns S w w') (hS : ∀ k M t fr, w.heap[k]? = some (.cells M t fr) → (t = 5 ∨ t = 219 ∨ t = 212) → ¬ S k) : RAt w' base rb s := by
  obtain ⟨v, bv, h⟩ := h
  exact ⟨v, bv, ht.keep h.row (hS _ _ _ _ h.row (.inr (.inr rfl))), h.low, h.bytes.touch ht (fun k M fr hk => hS k M _ fr hk (.inl rfl)), h.fault.touch ht (fun k M fr hk => hS k M _ fr hk (.inr (.inl rfl))), h.at1, h.len⟩

def zid : Array Value := idA (List.replicate 32 0)
def zhint : Array Value := idA (List.replicate 16 0)
end Go.Proofs.YtnejjfglkindjaaGreatDoor.Rdr

namespace Go.Proofs.YtnejjfglkindjaaGreatDoor.Rdr
open Go.RowKit Go.Mir Go.Mir.Parts

theorem made_id (w : World) (y : List UInt8) (M : Array Value) (t : TypeId) (hM : M.toList = bytesV y) (hy : y.length = 32) : Sl (w.alloc (.cells M t)) (some ⟨w.heap.size, 0, none⟩) 1 1 32 (bytesV y) :=
  ⟨by rw [bytesV_length, hy], Nat.le_refl _, by omega, fun h => (by cases h), fun a ha j u hu => by
    obtain rfl := Option.some.inj ha
    rw [add_none, cell_of_row _ _ _ _ _ _ (heap_alloc_last _ _), ← Array.getElem?_toList, hM, Nat.zero_add]; exact hu⟩
theorem Bs.dropped {w : World} {b o n c : Nat} {l : List UInt8} (h : Bs w (some ⟨b, o, none⟩) n c l) (k : Nat) (hk : k ≤ n) : Bs w (some ⟨b, if c = k then o else o + k, none⟩) (n - k) (c - k) (l.drop k) := by
  have hn := h.length
  have h1 := h.le
  have h2 := h.max
  refine ⟨by rw [bytesV_length, List.length_drop, Nat.mul_one]; omega, by omega, by omega, fun hp => (by cases hp), fun a ha j u hu => ?_⟩
  obtain rfl := Option.some.inj ha
  have hj : j < l.length - k := by
    have := (List.getElem?_eq_some_iff.1 hu).1
    rwa [bytesV_length, List.length_drop] at this
  have h3 : (bytesV l)[k + j]? = some u := by
    simp only [bytesV, List.getElem?_map, List.getElem?_drop] at hu ⊢
    exact hu
  have := h.cell _ rfl (k + j) u h3
  rw [add_none] at this ⊢
  rw [if_neg (by omega), Nat.add_assoc]
  exact this
theorem run_from32 {b o n c : Nat} (hn : 32 ≤ n) (_hc : n ≤ c) (w0 : World) : (Instr.sliceAt 22 (.slice (some ⟨b, o, none⟩) n c) (some (.int .i64 32)) none none).run Tryz.prog w0 = .ok (.slice (some ⟨b, if c = 32 then o else o + 32, none⟩) (n - 32) (c - 32)) w0 := by
  have hsz : (Tryz.prog.info? 5).map (·.size) = some 1 := by kernel_rfl
  obtain ⟨i, hi, hi1⟩ := Option.map_eq_some_iff.1 hsz
  have hb1 : (32 : Int) ≤ (n : Int) := by omega
  simp [Instr.sliceAt, Instr.slice, run_underlying Tryz.underlying22, Instr.sliceBounds, Instr.sliceBound, asIntOf, sizeOf, typeInfo, hi, hi1, hb1]
  by_cases h : c = 32 <;> simp [h, add_none]
theorem run_upto32 {b o n c : Nat} (hn : 32 ≤ n) (hc : n ≤ c) (w0 : World) : (Instr.sliceAt 22 (.slice (some ⟨b, o, none⟩) n c) none (some (.int .i64 32)) none).run Tryz.prog w0 = .ok (.slice (some ⟨b, o, none⟩) 32 c) w0 := by
  have hsz : (Tryz.prog.info? 5).map (·.size) = some 1 := by kernel_rfl
  obtain ⟨i, hi, hi1⟩ := Option.map_eq_some_iff.1 hsz
  have hb1 : (32 : Int) ≤ (c : Int) := by omega
  simp [Instr.sliceAt, Instr.slice, run_underlying Tryz.underlying22, Instr.sliceBounds, Instr.sliceBound, asIntOf, sizeOf, typeInfo, hi, hb1]
  intro _
  rw [add_none, Nat.add_zero]
end Go.Proofs.YtnejjfglkindjaaGreatDoor.Rdr

namespace Go.Proofs.YtnejjfglkindjaaGreatDoor.Er
open Go.RowKit Go.Mir Go.Extern.Stop Go.Stop Go.Extern

/-! ### '==' between two errors of one integer type -/
theorem run_equalIn_iface_int {P : Program} (w : World) (d : Nat) {ti tn : TypeId} {ms : Array (String × TypeId)} {i : TypeInfo} {k : IntKind} (a b : Int)
    (hi : P.underlying ti = some (.interface ms)) (hn : P.underlying tn = some (.int k)) (hinfo : P.info? tn = some i) (hcomp : i.comparable = true) :
    (Op.equalIn (d + 2) ti (.iface tn (.int k a)) (.iface tn (.int k b))).run P w = .ok (a == b) w := by
  simp [Op.equalIn, run_underlying hi, run_underlying hn, typeInfo, hinfo, hcomp]
theorem run_eql_iface_int {P : Program} (w : World) {ti tn : TypeId} {ms : Array (String × TypeId)} {i : TypeInfo} {k : IntKind} (a b : Int)
    (hi : P.underlying ti = some (.interface ms)) (hn : P.underlying tn = some (.int k)) (hinfo : P.info? tn = some i) (hcomp : i.comparable = true) :
    (binOp .eql ti (.iface tn (.int k a)) (.iface tn (.int k b))).run P w = .ok (.bool (a == b)) w := by
  simp only [binOp]
  simp [Op.equal, Op.maxDepth, run_equalIn_iface_int w 9998 a b hi hn hinfo hcomp]

/-! ### closed facts: what errors.Is meets -/
theorem isTypeOf (v : Value) (w : World) : (Extern.ReflectliteType.typeOf #[.iface 25 v]).run Tryz.prog w = .ok (.iface 187 (.agg #[.pointer (some ⟨1, 25, none⟩)])) w := by kernel_rfl
def compF : Array Value → Sem Value := Extern.ReflectliteType.method fun t => do Rtype.noPackHeld "Comparable" t; pure (.bool (← typeInfo t).comparable)
theorem isComparable (w : World) : (compF #[.agg #[.pointer (some ⟨1, 25, none⟩)]]).run Tryz.prog w = .ok (.bool true) w := by kernel_rfl
theorem isMethodComparable (v : Value) (w : World) : (Go.method 355 187 v "Comparable").run Tryz.prog w = .ok (166, v) w := by kernel_rfl
theorem isComp : (Tryz.prog.info? 25).map (·.comparable) = some true := by kernel_rfl
theorem noIsF (v : Value) (xT : TypeId) (w : World) : (Instr.typeAssert (.iface 216 v) xT 198 true).run Tryz.prog w = .ok (.tuple #[.nilIface, .bool false]) w := run_typeAssert_lacksB Tryz.underlying198 (by kernel_rfl) (by kernel_rfl) v xT w
theorem hasUnwrapF (v : Value) (xT : TypeId) (w : World) : (Instr.typeAssert (.iface 216 v) xT 194 true).run Tryz.prog w = .ok (.tuple #[.iface 216 v, .bool true]) w := run_typeAssert_hasB Tryz.underlying194 (by kernel_rfl) v xT w
theorem noIsE (v : Value) (xT : TypeId) (w : World) : (Instr.typeAssert (.iface 25 v) xT 198 true).run Tryz.prog w = .ok (.tuple #[.nilIface, .bool false]) w := run_typeAssert_lacksB Tryz.underlying198 (by kernel_rfl) (by kernel_rfl) v xT w
theorem noUnwrapE (v : Value) (xT : TypeId) (w : World) : (Instr.typeAssert (.iface 25 v) xT 194 true).run Tryz.prog w = .ok (.tuple #[.nilIface, .bool false]) w := run_typeAssert_lacksB Tryz.underlying194 (by kernel_rfl) (by kernel_rfl) v xT w
theorem noUnwrapsE (v : Value) (xT : TypeId) (w : World) : (Instr.typeAssert (.iface 25 v) xT 195 true).run Tryz.prog w = .ok (.tuple #[.nilIface, .bool false]) w := run_typeAssert_lacksB Tryz.underlying195 (by kernel_rfl) (by kernel_rfl) v xT w
theorem methodUnwrap (v : Value) (w : World) : (Go.method 355 216 v "Unwrap").run Tryz.prog w = .ok (176, v) w := by kernel_rfl
/-- errors.Is(nil, x) -/
theorem is_nil (z : Int) (w : World) : Calls Tryz.prog 37 #[.nilIface, .iface 25 (.int .i64 z)] w fun e w' => e = .returned (.bool false) ∧ w = w' := by
  have hn := run_eql_iface_nil_left (P := Tryz.prog) w 25 (.int .i64 z) Tryz.underlying92
  go_enter Tryz.func37, Tryz.ntmps37
  go_wp2
  go_ret
  exact ⟨rfl, rfl⟩
/-- errors.Is(f, x), f a fault whose why is e -/
theorem is_fault (fb : Nat) (e z : Int) (w : World) (hc : w.cell? ⟨fb, 1, none⟩ = some (.int .i64 e)) :
    Calls Tryz.prog 37 #[.iface 216 (.pointer (some ⟨fb, 0, none⟩)), .iface 25 (.int .i64 z)] w fun ev w' => ev = .returned (.bool (e == z)) ∧ w = w' := by
  obtain ⟨i, hi, hcmp⟩ := Option.map_eq_some_iff.1 isComp
  have h8 := @run_callFunc_extern Tryz.prog 75 _ Extern.ReflectliteType.typeOf Tryz.func75 (by kernel_rfl) (by kernel_rfl) (by kernel_rfl) (by kernel_rfl)
  have h32 := @run_callFunc_extern Tryz.prog 166 _ compF Tryz.func166 (by kernel_rfl) (by kernel_rfl) (by kernel_rfl) (by kernel_rfl)
  have tT := isTypeOf
  have cT := isComparable
  have mR := isMethodComparable
  have nF := noIsF
  have uF := hasUnwrapF
  have nE := noIsE
  have uE := noUnwrapE
  have vE := noUnwrapsE
  have mU := methodUnwrap
  have heq := run_eql_iface_int (P := Tryz.prog) w e z Tryz.underlying92 Tryz.underlying25 hi hcmp
  have hty := run_eql_iface_types (P := Tryz.prog) 216 25 (.pointer (some ⟨fb, 0, none⟩)) (.int .i64 z) Tryz.underlying92 (by decide) w
  cases hez : e == z with
  | true =>
    rw [hez] at heq
    clear hez
    go_enter Tryz.func37, Tryz.ntmps37
    go_wp2
    refine wp_loop_rounds 2 ?_
    rw [rounds_succ]
    go_wp2
    rw [rounds_succ]
    go_wp2
    go_ret
    exact ⟨rfl, rfl⟩
  | false =>
    rw [hez] at heq
    clear hez
    go_enter Tryz.func37, Tryz.ntmps37
    go_wp2
    refine wp_loop_rounds 2 ?_
    rw [rounds_succ]
    go_wp2
    rw [rounds_succ]
    go_wp2
    go_ret
    exact ⟨rfl, rfl⟩
/-- errors.As(nil, target) -/
theorem as_nil (t : Value) (w : World) : Calls Tryz.prog 36 #[.nilIface, t] w fun e w' => e = .returned (.bool false) ∧ w = w' := by
  go_enter Tryz.func36, Tryz.ntmps36
  go_wp2
  go_ret
  exact ⟨rfl, rfl⟩

theorem valueOf27 (t : Addr) (w : World) : (ReflectliteValue.unpack (.iface 217 (.pointer (some t)))).run Tryz.prog w
    = .ok (.agg #[.pointer (some ⟨1, 217, none⟩), .pointer (some ⟨w.heap.size, 0, none⟩), .int .u64 150]) (w.alloc (.cells #[.pointer (some t)] 217)) := by kernel_rfl
theorem type27 (a : Addr) (w : World) : (ReflectliteValue.methodAny (ReflectliteValue.valueError "reflectlite.Value.Type" 0) (fun t _ _ _ => ReflectliteType.toType t) #[.agg #[.pointer (some ⟨1, 217, none⟩), .pointer (some a), .int .u64 150]]).run Tryz.prog w
    = .ok (.iface 187 (.agg #[.pointer (some ⟨1, 217, none⟩)])) w := by kernel_rfl
theorem methodKind (h : Value) (w : World) : (Go.method 355 187 (.agg #[h]) "Kind").run Tryz.prog w = .ok (148, h) w := by kernel_rfl
theorem kind27 (w : World) : ((ReflectliteType.abiMethod fun t => (fun a : Nat => Value.int IntKind.u8 (a : Int)) <$> Rtype.kind t) #[.pointer (some ⟨1, 217, none⟩)]).run Tryz.prog w = .ok (.int .u8 22) w := by kernel_rfl
theorem kind25 (w : World) : ((ReflectliteType.abiMethod fun t => (fun a : Nat => Value.int IntKind.u8 (a : Int)) <$> Rtype.kind t) #[.pointer (some ⟨1, 216, none⟩)]).run Tryz.prog w = .ok (.int .u8 22) w := by kernel_rfl


theorem rlm (z : Sem Value) (f : TypeId → Addr → Nat → Nat → Sem Value) (v : Value) :
    ReflectliteValue.method z f #[v] = (do match ← ReflectliteValue.parts v with | none => z | some (t, a, fl) => f t a fl (fl % 32)) := rfl
theorem parts27 (a : Addr) (w : World) : (ReflectliteValue.parts (.agg #[.pointer (some ⟨1, 217, none⟩), .pointer (some a), .int .u64 150])).run Tryz.prog w = .ok (some (217, a, 150)) w := by kernel_rfl

theorem isNil27 (a p : Addr) (W : World) (ha : W.cell? a = some (.pointer (some p))) :
    (ReflectliteValue.method (ReflectliteValue.valueError "reflectlite.Value.IsNil" 0) ReflectliteValue.isNil #[.agg #[.pointer (some ⟨1, 217, none⟩), .pointer (some a), .int .u64 150]]).run Tryz.prog W = .ok (.bool false) W := by
  rw [rlm]
  simp only [Sem.run_bind, parts27, Result.andThen]
  simp [ReflectliteValue.isNil, loadVar, isAgg, underlying, Tryz.underlying217, ha, Result.andThen]

theorem methodElem (h : Value) (w : World) : (Go.method 355 187 (.agg #[h]) "Elem").run Tryz.prog w = .ok (167, .agg #[h]) w := by kernel_rfl
theorem methodImplements (h : Value) (w : World) : (Go.method 355 187 (.agg #[h]) "Implements").run Tryz.prog w = .ok (168, .agg #[h]) w := by kernel_rfl
theorem methodAssignableTo (h : Value) (w : World) : (Go.method 355 187 (.agg #[h]) "AssignableTo").run Tryz.prog w = .ok (165, .agg #[h]) w := by kernel_rfl
theorem elem27 (w : World) : (ReflectliteType.method ReflectliteType.elem #[.agg #[.pointer (some ⟨1, 217, none⟩)]]).run Tryz.prog w = .ok (.iface 187 (.agg #[.pointer (some ⟨1, 216, none⟩)])) w := by kernel_rfl
theorem implements25 (w : World) : (ReflectliteType.relation "Implements" ReflectliteType.implements_ #[.agg #[.pointer (some ⟨1, 216, none⟩)], .iface 187 (.agg #[.pointer (some ⟨1, 92, none⟩)])]).run Tryz.prog w = .ok (.bool true) w := by kernel_rfl
theorem typeOf25 (v : Value) (w : World) : (ReflectliteType.typeOf #[.iface 216 v]).run Tryz.prog w = .ok (.iface 187 (.agg #[.pointer (some ⟨1, 216, none⟩)])) w := by kernel_rfl
theorem assignable25 (w : World) : (ReflectliteType.relation "AssignableTo" ReflectliteType.assignableTo #[.agg #[.pointer (some ⟨1, 216, none⟩)], .iface 187 (.agg #[.pointer (some ⟨1, 216, none⟩)])]).run Tryz.prog w = .ok (.bool true) w := by kernel_rfl
theorem valueOf25 (e : Addr) (w : World) : (ReflectliteValue.unpack (.iface 216 (.pointer (some e)))).run Tryz.prog w
    = .ok (.agg #[.pointer (some ⟨1, 216, none⟩), .pointer (some ⟨w.heap.size, 0, none⟩), .int .u64 150]) (w.alloc (.cells #[.pointer (some e)] 216)) := by kernel_rfl

theorem elemOf27 (w : World) : (Rtype.elem? 217).run Tryz.prog w = .ok (some 216) w := by kernel_rfl
theorem mk25 (p : Addr) (w : World) : (ReflectliteValue.mk 216 p ReflectliteValue.flagAddr).run Tryz.prog w = .ok (.agg #[.pointer (some ⟨1, 216, none⟩), .pointer (some p), .int .u64 406]) w := by kernel_rfl

theorem elemV27 (a p : Addr) (W : World) (ha : W.cell? a = some (.pointer (some p))) :
    (ReflectliteValue.method (ReflectliteValue.valueError "reflectlite.Value.Elem" 0) ReflectliteValue.elem #[.agg #[.pointer (some ⟨1, 217, none⟩), .pointer (some a), .int .u64 150]]).run Tryz.prog W
      = .ok (.agg #[.pointer (some ⟨1, 216, none⟩), .pointer (some p), .int .u64 406]) W := by
  rw [rlm]
  simp only [Sem.run_bind, parts27, Result.andThen]
  simp [ReflectliteValue.elem, loadVar, isAgg, underlying, Tryz.underlying217, ha, Result.andThen, elemOf27, mk25]
theorem rls (v x : Value) : ReflectliteValue.set #[v, x] = (do
    let (some (dst, a, fl), some (src, b, _)) := (← ReflectliteValue.parts v, ← ReflectliteValue.parts x)
      | unsupported (.noEntry "extern/(internal/reflectlite.Value).Set.zeroValue")
    if fl / ReflectliteValue.flagAddr % 2 == 0 then unsupported (.noEntry "extern/(internal/reflectlite.Value).Set.unaddressable")
    let val ← loadVar src b
    if ← Rtype.directlyAssignable dst src then storeVar dst a val
    else if ← Rtype.implements dst src then
      if (← Rtype.kind src) == 20 then
        match val with
        | .nilIface => unsupported (.noEntry "extern/reflectlite: a nil value of one interface type handed on as a value of another")
        | _ => storeVar dst a val
      else storeVar dst a (.iface src val)
    else panicString ("reflectlite.Set: value of type " ++ (← Rtype.spelt src) ++ " is not assignable to type " ++ (← Rtype.spelt dst))
    pure (.tuple #[])) := rfl
theorem parts25a (a : Addr) (w : World) : (ReflectliteValue.parts (.agg #[.pointer (some ⟨1, 216, none⟩), .pointer (some a), .int .u64 406])).run Tryz.prog w = .ok (some (216, a, 406)) w := by kernel_rfl
theorem parts25 (a : Addr) (w : World) : (ReflectliteValue.parts (.agg #[.pointer (some ⟨1, 216, none⟩), .pointer (some a), .int .u64 150])).run Tryz.prog w = .ok (some (216, a, 150)) w := by kernel_rfl
theorem direct25 (w : World) : (Rtype.directlyAssignable 216 216).run Tryz.prog w = .ok true w := by kernel_rfl
theorem size25 (w : World) : (sizeOf 216).run Tryz.prog w = .ok 1 w := by kernel_rfl

theorem set25 (ta b e : Addr) (old : Value) (W : World) (hb : W.cell? b = some (.pointer (some e))) (ht : W.cell? ta = some old) (hf : W.frozen? ta = false) :
    (ReflectliteValue.set #[.agg #[.pointer (some ⟨1, 216, none⟩), .pointer (some ta), .int .u64 406], .agg #[.pointer (some ⟨1, 216, none⟩), .pointer (some b), .int .u64 150]]).run Tryz.prog W
      = .ok (.tuple #[]) (W.setCell ta (.pointer (some e))) := by
  rw [rls]
  simp only [Sem.run_bind, parts25a, parts25, Result.andThen]
  simp [ReflectliteValue.flagAddr, loadVar, isAgg, underlying, Tryz.underlying216, hb, Result.andThen, direct25, storeVar, Value.cells, storeCells, Addr.add]
  rw [run_store Tryz.prog W ta _ _ (by rfl)]
  simp [ht, hf]

set_option maxHeartbeats 4000000 in
theorem as_hit (e t : Addr) (old : Value) (w : World) (hg : w.cell? ⟨0, 0, none⟩ = some (.iface 187 (.agg #[.pointer (some ⟨1, 92, none⟩)]))) (ht0 : w.cell? t = some old) (hf0 : w.frozen? t = false) :
    Calls Tryz.prog 36 #[.iface 216 (.pointer (some e)), .iface 217 (.pointer (some t))] w fun ev w' => ev = .returned (.bool true) ∧ w' = ((((w.alloc (.cells #[.pointer (some t)] 217)).alloc (.cells #[.pointer (some ⟨1, 217, none⟩), .pointer (some ⟨w.heap.size, 0, none⟩), .int .u64 150] 144)).alloc (.cells #[.pointer (some ⟨1, 217, none⟩), .pointer (some ⟨w.heap.size, 0, none⟩), .int .u64 150] 144)).alloc (.cells #[.pointer (some e)] 216)).setCell t (.pointer (some e)) := by
  have h6 := @run_callFunc_extern Tryz.prog 71 _ (fun args => ReflectliteValue.unpack (args.getD 0 (.tuple #[]))) Tryz.func71 (by kernel_rfl) (by kernel_rfl) (by kernel_rfl) (by kernel_rfl)
  have h7 := @run_callFunc_extern Tryz.prog 72 _ (ReflectliteValue.methodAny (ReflectliteValue.valueError "reflectlite.Value.Type" 0) (fun t _ _ _ => ReflectliteType.toType t)) Tryz.func72 (by kernel_rfl) (by kernel_rfl) (by kernel_rfl) (by kernel_rfl)
  have h8 := @run_callFunc_extern Tryz.prog 73 _ (ReflectliteValue.method (ReflectliteValue.valueError "reflectlite.Value.IsNil" 0) ReflectliteValue.isNil) Tryz.func73 (by kernel_rfl) (by kernel_rfl) (by kernel_rfl) (by kernel_rfl)
  have h27 := @run_callFunc_extern Tryz.prog 148 _ (ReflectliteType.abiMethod fun t => do pure (.int .u8 (← Rtype.kind t))) Tryz.func148 (by kernel_rfl) (by kernel_rfl) (by kernel_rfl) (by kernel_rfl)
  have h37 := @run_callFunc_extern Tryz.prog 167 _ (ReflectliteType.method ReflectliteType.elem) Tryz.func167 (by kernel_rfl) (by kernel_rfl) (by kernel_rfl) (by kernel_rfl)
  have h38 := @run_callFunc_extern Tryz.prog 168 _ (ReflectliteType.relation "Implements" ReflectliteType.implements_) Tryz.func168 (by kernel_rfl) (by kernel_rfl) (by kernel_rfl) (by kernel_rfl)
  have h10 := @run_callFunc_extern Tryz.prog 75 _ ReflectliteType.typeOf Tryz.func75 (by kernel_rfl) (by kernel_rfl) (by kernel_rfl) (by kernel_rfl)
  have h35 := @run_callFunc_extern Tryz.prog 165 _ (ReflectliteType.relation "AssignableTo" ReflectliteType.assignableTo) Tryz.func165 (by kernel_rfl) (by kernel_rfl) (by kernel_rfl) (by kernel_rfl)
  have h11 := @run_callFunc_extern Tryz.prog 113 _ (ReflectliteValue.method (ReflectliteValue.valueError "reflectlite.Value.Elem" 0) ReflectliteValue.elem) Tryz.func113 (by kernel_rfl) (by kernel_rfl) (by kernel_rfl) (by kernel_rfl)
  have h12 := @run_callFunc_extern Tryz.prog 114 _ ReflectliteValue.set Tryz.func114 (by kernel_rfl) (by kernel_rfl) (by kernel_rfl) (by kernel_rfl)
  have tO := typeOf25
  have mA := methodAssignableTo
  have a25 := assignable25
  have v25 := valueOf25
  have f6 := valueOf27
  have f7 := type27
  have mK := methodKind
  have mE := methodElem
  have mI := methodImplements
  have k27 := kind27
  have k25 := kind25
  have e27 := elem27
  have i25 := implements25
  have n8 := isNil27 ⟨w.heap.size, 0, none⟩ t ((w.alloc (.cells #[.pointer (some t)] 217)).alloc (.cells #[.pointer (some ⟨1, 217, none⟩), .pointer (some ⟨w.heap.size, 0, none⟩), .int .u64 150] 144)) (by simp)
  have hlt : 0 < w.heap.size := by
    rcases Nat.eq_zero_or_pos w.heap.size with h0 | h
    · simp [World.cell?, h0] at hg
    · exact h
  have hg2 : ((w.alloc (.cells #[.pointer (some t)] 217)).alloc (.cells #[.pointer (some ⟨1, 217, none⟩), .pointer (some ⟨w.heap.size, 0, none⟩), .int .u64 150] 144)).cell? ⟨0, 0, none⟩ = some (.iface 187 (.agg #[.pointer (some ⟨1, 92, none⟩)])) := by
    rw [World.cell?_alloc_lt _ _ ⟨0, 0, none⟩ (by simp), World.cell?_alloc_lt _ _ ⟨0, 0, none⟩ hlt]; exact hg
  have htl : t.block < w.heap.size := by
    rcases Nat.lt_or_ge t.block w.heap.size with h | h
    · exact h
    · simp [World.cell?, Array.getElem?_eq_none h] at ht0
  have el := elemV27 ⟨w.heap.size, 0, none⟩ t (((w.alloc (.cells #[.pointer (some t)] 217)).alloc (.cells #[.pointer (some ⟨1, 217, none⟩), .pointer (some ⟨w.heap.size, 0, none⟩), .int .u64 150] 144)).alloc (.cells #[.pointer (some ⟨1, 217, none⟩), .pointer (some ⟨w.heap.size, 0, none⟩), .int .u64 150] 144)) (by rw [World.cell?_alloc_lt _ _ ⟨w.heap.size, 0, none⟩ (by simp; omega)]; simp)
  have st := set25 t ⟨w.heap.size + 1 + 1 + 1, 0, none⟩ e old ((((w.alloc (.cells #[.pointer (some t)] 217)).alloc (.cells #[.pointer (some ⟨1, 217, none⟩), .pointer (some ⟨w.heap.size, 0, none⟩), .int .u64 150] 144)).alloc (.cells #[.pointer (some ⟨1, 217, none⟩), .pointer (some ⟨w.heap.size, 0, none⟩), .int .u64 150] 144)).alloc (.cells #[.pointer (some e)] 216))
    (by rw [World.cell?_alloc_at _ _ _ _ (by simp)]; rfl)
    (by rw [World.cell?_alloc_lt _ _ t (by simp; omega), World.cell?_alloc_lt _ _ t (by simp; omega), World.cell?_alloc_lt _ _ t (by simp; omega), World.cell?_alloc_lt _ _ t htl]; exact ht0)
    (by rw [World.frozen?_alloc_old _ _ t (by simp; omega), World.frozen?_alloc_old _ _ t (by simp; omega), World.frozen?_alloc_old _ _ t (by simp; omega), World.frozen?_alloc_old _ _ t (Nat.ne_of_lt htl)]; exact hf0)
  go_enter Tryz.func36, Tryz.ntmps36
  go_wp2
  refine wp_loop_rounds 1 ?_
  rw [rounds_succ]
  go_wp2
  go_ret
  exact ⟨rfl, rfl⟩
end Go.Proofs.YtnejjfglkindjaaGreatDoor.Er

namespace Go.Proofs.YtnejjfglkindjaaGreatDoor.Rdr
open Go.RowKit Go.Mir Go.Mir.Parts Go.Proofs.YtnejjfglkindjaaGreatDoor.Er

def EType (w : World) : Prop := w.cell? ⟨0, 0, none⟩ = some (.iface 187 (.agg #[.pointer (some ⟨1, 92, none⟩)]))
theorem EType.below {w w' : World} {B : Nat} (h : EType w) (hb : Below B w w') (hB : 0 < B) : EType w' := by
  unfold EType at h ⊢
  rw [World.cell?] at h ⊢
  rw [hb.block _ hB]
  exact h
theorem EType.lt {w : World} (h : EType w) : 0 < w.heap.size := by
  unfold EType at h
  rcases Nat.lt_or_ge 0 w.heap.size with h1 | h1
  · exact h1
  · simp [World.cell?, Array.getElem?_eq_none h1] at h
def E4 : Value := .agg #[.int .i64 1, .int .i64 2, .int .i64 3, .int .i64 4]
theorem e4_0 (w : World) : (Instr.index 215 (.agg #[.int .i64 1, .int .i64 2, .int .i64 3, .int .i64 4]) (.int .i64 0)).run Tryz.prog w = .ok (.int .i64 1) w := by kernel_rfl
theorem e4_1 (w : World) : (Instr.index 215 (.agg #[.int .i64 1, .int .i64 2, .int .i64 3, .int .i64 4]) (.int .i64 1)).run Tryz.prog w = .ok (.int .i64 2) w := by kernel_rfl
theorem e4_2 (w : World) : (Instr.index 215 (.agg #[.int .i64 1, .int .i64 2, .int .i64 3, .int .i64 4]) (.int .i64 2)).run Tryz.prog w = .ok (.int .i64 3) w := by kernel_rfl
theorem e4_3 (w : World) : (Instr.index 215 (.agg #[.int .i64 1, .int .i64 2, .int .i64 3, .int .i64 4]) (.int .i64 3)).run Tryz.prog w = .ok (.int .i64 4) w := by kernel_rfl
set_option maxRecDepth 100000 in
set_option maxHeartbeats 1600000 in
theorem err_any {base rb : Nat} {s : RD} (w : World) (h : RAt w base rb s) (hE : EType w) :
    Calls Tryz.prog 109 #[.pointer (some ⟨rb, 0, none⟩)] w fun e w' => e = .returned (.int .i64 s.err) ∧ Below w.heap.size w w' := by
  have H := Lib.hid h
  obtain ⟨v, bv, h⟩ := h
  obtain ⟨_, _, _, hc3, _⟩ := h.cells
  obtain ⟨l, pos, bad⟩ := s
  have hlt := h.lt
  have x0 := e4_0
  have x1 := e4_1
  have x2 := e4_2
  have x3 := e4_3
  cases bad with
  | none =>
    have hbv : bv = .nilIface := h.fault
    rw [hbv] at hc3
    have HB := Lib.hid (Below.allocs w (.cells #[.pointer none] 216))
    have hc3' := cell_below hc3 HB.out
    clear h hbv
    go_enter Tryz.func109, Tryz.ntmps109
    go_wp2_with fail
    refine (none_any w H.out).mono ?_
    rintro e w' ⟨rfl, rfl⟩
    go_wp2_with fail
    refine wp_loop_rounds 5 ?_
    rw [rounds_succ]
    go_wp2_with fail
    refine (is_nil _ w).mono ?_
    rintro e w' ⟨rfl, rfl⟩
    go_wp2_with fail
    rw [rounds_succ]
    go_wp2_with fail
    refine (is_nil _ w).mono ?_
    rintro e w' ⟨rfl, rfl⟩
    go_wp2_with fail
    rw [rounds_succ]
    go_wp2_with fail
    refine (is_nil _ w).mono ?_
    rintro e w' ⟨rfl, rfl⟩
    go_wp2_with fail
    rw [rounds_succ]
    go_wp2_with fail
    refine (is_nil _ w).mono ?_
    rintro e w' ⟨rfl, rfl⟩
    go_wp2_with fail
    rw [rounds_succ]
    go_wp2_with fail
    refine (as_nil _ _).mono ?_
    rintro e w' ⟨rfl, rfl⟩
    go_wp2_with fail
    go_ret
    exact ⟨rfl, HB.out⟩
  | some b =>
    obtain ⟨hb0, _, fb, a0, hbv, _, hrow⟩ := h.fault
    rw [hbv] at hc3
    have hcf : w.cell? ⟨fb, 1, none⟩ = some (.int .i64 b) := by rw [cell_of_row _ _ _ _ _ _ hrow]; rfl
    have hflt : fb < w.heap.size := (Array.getElem?_eq_some_iff.1 hrow).1
    clear h hbv hrow
    by_cases h1 : b = 1
    · subst h1
      go_enter Tryz.func109, Tryz.ntmps109
      go_wp2_with fail
      refine (none_any w H.out).mono ?_
      rintro e w' ⟨rfl, rfl⟩
      go_wp2_with fail
      refine wp_loop_rounds 5 ?_
      rw [rounds_succ]
      go_wp2_with fail
      refine (is_fault fb _ 1 _ hcf).mono ?_
      rintro e w' ⟨rfl, rfl⟩
      go_wp2_with fail
      go_ret
      exact ⟨rfl, Below.refl _ _⟩
    by_cases h2 : b = 2
    · subst h2
      go_enter Tryz.func109, Tryz.ntmps109
      go_wp2_with fail
      refine (none_any w H.out).mono ?_
      rintro e w' ⟨rfl, rfl⟩
      go_wp2_with fail
      refine wp_loop_rounds 5 ?_
      rw [rounds_succ]
      go_wp2_with fail
      refine (is_fault fb _ 1 _ hcf).mono ?_
      rintro e w' ⟨rfl, rfl⟩
      go_wp2_with fail
      rw [rounds_succ]
      go_wp2_with fail
      refine (is_fault fb _ 2 _ hcf).mono ?_
      rintro e w' ⟨rfl, rfl⟩
      go_wp2_with fail
      go_ret
      exact ⟨rfl, Below.refl _ _⟩
    by_cases h3 : b = 3
    · subst h3
      go_enter Tryz.func109, Tryz.ntmps109
      go_wp2_with fail
      refine (none_any w H.out).mono ?_
      rintro e w' ⟨rfl, rfl⟩
      go_wp2_with fail
      refine wp_loop_rounds 5 ?_
      rw [rounds_succ]
      go_wp2_with fail
      refine (is_fault fb _ 1 _ hcf).mono ?_
      rintro e w' ⟨rfl, rfl⟩
      go_wp2_with fail
      rw [rounds_succ]
      go_wp2_with fail
      refine (is_fault fb _ 2 _ hcf).mono ?_
      rintro e w' ⟨rfl, rfl⟩
      go_wp2_with fail
      rw [rounds_succ]
      go_wp2_with fail
      refine (is_fault fb _ 3 _ hcf).mono ?_
      rintro e w' ⟨rfl, rfl⟩
      go_wp2_with fail
      go_ret
      exact ⟨rfl, Below.refl _ _⟩
    by_cases h4 : b = 4
    · subst h4
      go_enter Tryz.func109, Tryz.ntmps109
      go_wp2_with fail
      refine (none_any w H.out).mono ?_
      rintro e w' ⟨rfl, rfl⟩
      go_wp2_with fail
      refine wp_loop_rounds 5 ?_
      rw [rounds_succ]
      go_wp2_with fail
      refine (is_fault fb _ 1 _ hcf).mono ?_
      rintro e w' ⟨rfl, rfl⟩
      go_wp2_with fail
      rw [rounds_succ]
      go_wp2_with fail
      refine (is_fault fb _ 2 _ hcf).mono ?_
      rintro e w' ⟨rfl, rfl⟩
      go_wp2_with fail
      rw [rounds_succ]
      go_wp2_with fail
      refine (is_fault fb _ 3 _ hcf).mono ?_
      rintro e w' ⟨rfl, rfl⟩
      go_wp2_with fail
      rw [rounds_succ]
      go_wp2_with fail
      refine (is_fault fb _ 4 _ hcf).mono ?_
      rintro e w' ⟨rfl, rfl⟩
      go_wp2_with fail
      go_ret
      exact ⟨rfl, Below.refl _ _⟩
    have y1 : (b == 1) = false := beq_eq_false_iff_ne.2 h1
    have y2 : (b == 2) = false := beq_eq_false_iff_ne.2 h2
    have y3 : (b == 3) = false := beq_eq_false_iff_ne.2 h3
    have y4 : (b == 4) = false := beq_eq_false_iff_ne.2 h4
    have HC3 := Lib.hid hc3
    have HCF := Lib.hid hcf
    have HB := Lib.hid (Below.allocs w (.cells #[.pointer none] 216))
    have HEY : Hid (EType (w.alloc (.cells #[.pointer none] 216))) := hE.below HB.out hE.lt
    have HT0 : Hid ((w.alloc (.cells #[.pointer none] 216)).cell? ⟨w.heap.size, 0, none⟩ = some (.pointer none)) := cell_alloc_new _ _ _ _
    have HF0 : Hid ((w.alloc (.cells #[.pointer none] 216)).frozen? ⟨w.heap.size, 0, none⟩ = false) := frozen_of_row _ _ _ _ _ (heap_alloc_last _ _)
    have hc3' := cell_below hc3 HB.out
    go_enter Tryz.func109, Tryz.ntmps109
    go_wp2_with fail
    refine (none_any w H.out).mono ?_
    rintro e w' ⟨rfl, rfl⟩
    go_wp2_with fail
    refine wp_loop_rounds 5 ?_
    rw [rounds_succ]
    go_wp2_with fail
    refine (is_fault fb _ 1 _ hcf).mono ?_
    rintro e w' ⟨rfl, rfl⟩
    go_wp2_with fail
    rw [rounds_succ]
    go_wp2_with fail
    refine (is_fault fb _ 2 _ hcf).mono ?_
    rintro e w' ⟨rfl, rfl⟩
    go_wp2_with fail
    rw [rounds_succ]
    go_wp2_with fail
    refine (is_fault fb _ 3 _ hcf).mono ?_
    rintro e w' ⟨rfl, rfl⟩
    go_wp2_with fail
    rw [rounds_succ]
    go_wp2_with fail
    refine (is_fault fb _ 4 _ hcf).mono ?_
    rintro e w' ⟨rfl, rfl⟩
    go_wp2_with fail
    rw [rounds_succ]
    go_wp2_with fail
    refine (as_hit ⟨fb, 0, none⟩ ⟨w.heap.size, 0, none⟩ (.pointer none) _ HEY.out HT0.out HF0.out).mono ?_
    rintro e wz ⟨rfl, hw⟩
    have HBZ : Hid (Below w.heap.size w wz ∧ wz.cell? ⟨w.heap.size, 0, none⟩ = some (.pointer (some ⟨fb, 0, none⟩))) := by
      subst hw
      have b1 := HB.out
      have r1 : (w.alloc (.cells #[.pointer none] 216)).heap[w.heap.size]? = some (.cells #[.pointer none] 216 (0, 0)) := heap_alloc_last _ _
      generalize w.alloc (.cells #[.pointer none] 216) = v1 at *
      have b2 := b1.alloc b1.size (.cells #[.pointer (some ⟨w.heap.size, 0, none⟩)] 217)
      have r2 := block_old (.cells #[.pointer (some ⟨w.heap.size, 0, none⟩)] 217) r1
      generalize v1.alloc (.cells #[.pointer (some ⟨w.heap.size, 0, none⟩)] 217) = v2 at *
      have b3 := b2.alloc b2.size (.cells #[.pointer (some ⟨1, 217, none⟩), .pointer (some ⟨v1.heap.size, 0, none⟩), .int .u64 150] 144)
      have r3 := block_old (.cells #[.pointer (some ⟨1, 217, none⟩), .pointer (some ⟨v1.heap.size, 0, none⟩), .int .u64 150] 144) r2
      have b4 := b3.alloc b3.size (.cells #[.pointer (some ⟨1, 217, none⟩), .pointer (some ⟨v1.heap.size, 0, none⟩), .int .u64 150] 144)
      have r4 := block_old (.cells #[.pointer (some ⟨1, 217, none⟩), .pointer (some ⟨v1.heap.size, 0, none⟩), .int .u64 150] 144) r3
      have b5 := b4.alloc b4.size (.cells #[.pointer (some ⟨fb, 0, none⟩)] 216)
      have r5 := block_old (.cells #[.pointer (some ⟨fb, 0, none⟩)] 216) r4
      refine ⟨b5.setCell (Nat.le_refl _) _, ?_⟩
      rw [cell_of_row _ _ _ _ _ _ (heap_setCell_same _ _ _ _ _ _ r5)]
      rfl
    have hct := HBZ.out.2
    have hcz := cell_below HCF.out HBZ.out.1
    clear hw
    go_wp2_with fail
    go_ret
    exact ⟨rfl, HBZ.out.1⟩
def RD.done (s : RD) : Int := if s.err ≠ 0 then s.err else if s.l.length - s.pos = 0 then 0 else 3
end Go.Proofs.YtnejjfglkindjaaGreatDoor.Rdr

namespace Go.Proofs.YtnejjfglkindjaaGreatDoor.Rdr
open Go.ChangeShapes Go.WideShapes Go.RowKit Go.Mir

theorem own : ownKnob Tryz.prog.godebug = none := by kernel_rfl
theorem laidOut : laidOutB Tryz.prog = true := by kernel_rfl
theorem etNamed : Tryz.prog.globalNamed "errors.errorType" = some 0 := by kernel_rfl
theorem rtNamed : (Tryz.prog.cutTypes.find? (·.1 == "internal/reflectlite.rtype")).map (·.2) = some 187 := by kernel_rfl
theorem sizeNamed : Tryz.prog.types.size = Tryz.prog.types.size := rfl
theorem oneRow : ((List.range Tryz.prog.types.size).filter fun t => Tryz.prog.rowNamed t [101, 114, 114, 111, 114]) = [92] := by kernel_rfl
def laidE : List (String × DataW Unit) := [("errors.errorType", Rows.laid_errors_errorType)]
theorem etype_of_laid {W : World} (h : laidMetH Tryz.prog laidE W) : EType W := by
  have h' : laidMet Tryz.prog [] W ∧ handlesMet Tryz.prog laidE W := h
  obtain ⟨name, u, ty, e1, e2, e3, e4, e5⟩ := h'.2 _ (List.mem_singleton.2 rfl)
  have en : name = [101, 114, 114, 111, 114] := (Option.some.inj e1).symm
  subst en
  obtain rfl := Option.some.inj (rtNamed.symm.trans e2)
  have hm : ty ∈ (List.range Tryz.prog.types.size).filter fun t => Tryz.prog.rowNamed t [101, 114, 114, 111, 114] := List.mem_filter.2 ⟨List.mem_range.2 e3, e4⟩
  rw [oneRow] at hm
  obtain rfl := List.mem_singleton.1 hm
  have hh : typeHandle Tryz.prog 92 = .pointer (some ⟨1, 92, none⟩) := by kernel_rfl
  rw [hh] at e5
  show W.cell? ⟨0, 0, none⟩ = _
  simpa using World.var?_cell etNamed e5 0
/-- a world that meets the condition -/
noncomputable def laidWorld (os : Os) : World :=
  let w0 := World.holding Tryz.prog os ⟨#[], #[], []⟩
  { w0 with heap := w0.heap.modify 0 fun
      | .cells _ t frozen => .cells #[.iface 187 (.agg #[.pointer (some ⟨1, 92, none⟩)])] t frozen
      | o => o }
theorem laidWorld_met (os : Os) (args : Array Value) : laidMetH Tryz.prog laidE ((laidWorld os).forCall (fun _ _ => 0) ⟨#[], args, []⟩).memory :=
  laidMetH_of_parts (laidMet_nil _ _) (by kernel_rfl)
end Go.Proofs.YtnejjfglkindjaaGreatDoor.Rdr

namespace Go.Mir
open Go.ChangeShapes Go.WideShapes Go.ChangeAt Go.RowKit

theorem u8_of_list (zs : List Int) (h : ∀ n ∈ zs, (Lit.int .u8 n).wf = true) : ∃ l : List UInt8, zs = l.map (fun b => (b.toNat : Int)) := by
  induction zs with
  | nil => exact ⟨[], rfl⟩
  | cons z zs ih =>
    obtain ⟨l, rfl⟩ := ih (fun n hn => h n (by simp [hn]))
    have hz := h z (by simp)
    have hb : 0 ≤ z ∧ z ≤ 255 := by simpa [Lit.wf, IntKind.min, IntKind.max, IntKind.signed, IntKind.bits] using hz
    refine ⟨UInt8.ofNat z.toNat :: l, ?_⟩
    have : (UInt8.ofNat z.toNat).toNat = z.toNat := by
      rw [UInt8.toNat_ofNat']; exact Nat.mod_eq_of_lt (by omega)
    simp [this]; omega

/-- a []byte that came in -/
theorem open_bs {P : Program} {W : World} {H : Type} {enc : TypeId × Value → H} {t e base : Nat} {v : Value} {d : DataW H} {ps : List MemPlace} (ht : P.underlying t = some (.slice e)) (he : P.underlying e = some (.int .u8)) (hc : P.cellsOf e = 1)
    (hval : Value.okWide P W .any base t v) (h : DataW.Trod enc P W 0 (fun _ => true) true t v d ps) : ∃ p n c l, v = .slice p n c ∧ Bs W p n c l := by
  obtain ⟨a, n, c, rfl⟩ := okWide_slice ht hval
  obtain ⟨fuel, hf⟩ := h
  rcases open_ints ht he hc hf with ⟨hcs, _⟩ | ⟨x, l, c', zs, hcs, _, hl, hm, hz, _, hcell, hwz⟩
  · simp [Value.cells] at hcs
    obtain ⟨rfl, rfl, rfl⟩ := hcs
    exact ⟨_, _, _, [], rfl, Sl.nil _ _⟩
  · simp [Value.cells] at hcs
    obtain ⟨rfl, rfl, rfl⟩ := hcs
    obtain ⟨bs, rfl⟩ := u8_of_list zs hwz
    have hbl : bs.length = c := by simpa using hz
    refine ⟨_, _, _, bs.take n, rfl, ⟨?_, hl, by simpa [maxLen] using hm, fun h => (by cases h), fun a ha j u hu => ?_⟩⟩
    · rw [bytesV_length, List.length_take]; omega
    · obtain rfl := Option.some.inj ha
      have hj : j < n := by
        have := (List.getElem?_eq_some_iff.1 hu).1
        rw [bytesV_length, List.length_take] at this; omega
      have hc0 := hcell j (by simp; omega)
      rw [hc0, ← hu]
      simp [bytesV, hj, show j < bs.length by omega]

/-- a uint32 that came in, as a word -/
theorem u32_word {a : Int} (h : (Lit.int .u32 a).wf = true) : ∃ x : BitVec 32, a = (x.toNat : Int) := by
  have hb : 0 ≤ a ∧ a ≤ 4294967295 := by simpa [Lit.wf, IntKind.min, IntKind.max, IntKind.signed, IntKind.bits] using h
  refine ⟨BitVec.ofNat 32 a.toNat, ?_⟩
  rw [BitVec.toNat_ofNat, Nat.mod_eq_of_lt (by omega)]; omega
theorem u16_nat {a : Int} (h : (Lit.int .u16 a).wf = true) : ∃ x : Nat, a = (x : Int) ∧ x < 65536 := by
  have hb : 0 ≤ a ∧ a ≤ 65535 := by simpa [Lit.wf, IntKind.min, IntKind.max, IntKind.signed, IntKind.bits] using h
  exact ⟨a.toNat, by omega, by omega⟩
theorem u64_nat {a : Int} (h : (Lit.int .u64 a).wf = true) : ∃ x : Nat, a = (x : Int) ∧ x < 18446744073709551616 := by
  have hb : 0 ≤ a ∧ a ≤ 18446744073709551615 := by simpa [Lit.wf, IntKind.min, IntKind.max, IntKind.signed, IntKind.bits] using h
  exact ⟨a.toNat, by omega, by omega⟩
theorem i64_bd {a : Int} (h : (Lit.int .i64 a).wf = true) : -9223372036854775808 ≤ a ∧ a ≤ 9223372036854775807 := by
  simpa [Lit.wf, IntKind.min, IntKind.max, IntKind.signed, IntKind.bits] using h

/-- an array of numbers that came in, by its cells -/
theorem trod_nums {P : Program} {W : World} {H : Type} {enc : TypeId × Value → H} {base : Nat} {spare : Nat → Bool} {held : Bool} {fuel t n e : Nat} {k : IntKind} {cs : List Value} {x : DataW H × List MemPlace}
    (ht : P.underlying t = some (.array n e)) (he : P.underlying e = some (.int k)) (hc : P.cellsOf e = 1) (hct : P.cellsOf t = n) (h : DataW.trod enc P W base spare held fuel t cs = some x) :
    ∃ zs : List Int, cs = zs.map (Value.int k) ∧ zs.length = n ∧ ∀ z ∈ zs, (Lit.int k z).wf = true := by
  obtain ⟨xs, m, rfl, _, hl, hxl, hx⟩ := DataW.trod_array ht h
  rw [hct] at hl
  have key : ∀ i, i < n → ∃ z, cs[i]? = some (.int k z) ∧ (Lit.int k z).wf = true := by
    intro i hi
    have h1 := hx i hi
    rw [hc, Nat.mul_one] at h1
    have h2 : xs[i]? = some xs[i] := List.getElem?_eq_getElem (by omega)
    rw [h2] at h1
    obtain ⟨z, hz, _, hw⟩ := DataW.trod_int he h1
    refine ⟨z, ?_, hw⟩
    have h3 := congrArg (·[0]?) hz
    simpa using h3
  refine ⟨cs.map intOf, ?_, by simp [hl], ?_⟩
  · apply List.ext_getElem?
    intro i
    by_cases hi : i < n
    · obtain ⟨z, hz, _⟩ := key i hi
      simp [hz, intOf]
    · rw [List.getElem?_eq_none (by omega), List.getElem?_eq_none (by simp; omega)]
  · intro z hz
    rw [List.mem_map] at hz
    obtain ⟨v, hv, rfl⟩ := hz
    obtain ⟨i, hi, rfl⟩ := List.mem_iff_getElem.1 hv
    obtain ⟨z, hz, hw⟩ := key i (by omega)
    rw [List.getElem?_eq_getElem hi] at hz
    rw [Option.some.inj hz]; exact hw
theorem okWide_arr {P : Program} {W : World} {r : Reach} {base t n e : Nat} {v : Value} (ht : P.underlying t = some (.array n e)) (h : Value.okWide P W r base t v) : ∃ cs, v = .agg cs := by
  unfold Value.okWide at h
  rw [ht] at h
  obtain ⟨cs, hv, _⟩ := h
  exact ⟨cs, hv⟩
/-- an array of numbers that came in by value -/
theorem open_nums {P : Program} {W : World} {H : Type} {enc : TypeId × Value → H} {base t n e : Nat} {k : IntKind} {v : Value} {d : DataW H} {ps : List MemPlace}
    (ht : P.underlying t = some (.array n e)) (he : P.underlying e = some (.int k)) (hc : P.cellsOf e = 1) (hct : P.cellsOf t = n)
    (hval : Value.okWide P W .any base t v) (h : DataW.Trod enc P W 0 (fun _ => true) true t v d ps) : ∃ zs : List Int, v = .agg (zs.map (Value.int k)).toArray ∧ zs.length = n ∧ ∀ z ∈ zs, (Lit.int k z).wf = true := by
  obtain ⟨cs, rfl⟩ := okWide_arr ht hval
  obtain ⟨fuel, hf⟩ := h
  obtain ⟨zs, h1, h2, h3⟩ := trod_nums ht he hc hct hf
  refine ⟨zs, ?_, h2, h3⟩
  congr 1
  rw [← h1]; simp [Value.cells]

/-- how many elements a slice's datum has -/
def dlen {H : Type} : DataW H → Nat
  | .slice elems _ => elems.length
  | _ => 0

/-- a []byte by its cell -/
theorem trod_bs {P : Program} {W : World} {H : Type} {enc : TypeId × Value → H} {base fuel t e : Nat} {held : Bool} {cs : List Value} {x : DataW H × List MemPlace}
    (ht : P.underlying t = some (.slice e)) (he : P.underlying e = some (.int .u8)) (hc : P.cellsOf e = 1) (h : DataW.trod enc P W base (fun _ => true) held fuel t cs = some x) :
    ∃ p n c l, cs = [.slice p n c] ∧ Bs W p n c l ∧ dlen x.1 = n := by
  rcases Deep.open_slice1 ht hc h with ⟨rfl, rfl⟩ | ⟨a, len, cap, m, k, V, D, Pl, rfl, hb, hl, hm, hmm, rfl, hx⟩
  · exact ⟨_, _, _, [], rfl, Sl.nil _ _, rfl⟩
  · simp only [if_true] at hmm
    subst hmm
    have key : ∀ i, i < m → ∃ b : UInt8, V i = .int .u8 (b.toNat : Int) := by
      intro i hi
      obtain ⟨z, hz, _, hw⟩ := DataW.trod_int he (hx i hi).2
      obtain ⟨l, hl⟩ := u8_of_list [z] (by simpa using hw)
      match l, hl with
      | [b], hl => exact ⟨b, by simp at hz hl; rw [hz, hl]⟩
    refine ⟨_, _, _, (List.range len).map (fun i => UInt8.ofNat (intOf (V i)).toNat), rfl, ⟨?_, hl, by simpa [maxLen] using hm, fun h => (by cases h), fun a' ha j u hu => ?_⟩, by simp [dlen]⟩
    · simp [bytesV]
    · obtain rfl := Option.some.inj ha
      have hj : j < len := by
        have := (List.getElem?_eq_some_iff.1 hu).1
        simpa [bytesV] using this
      rw [(hx j (by omega)).1, ← hu]
      obtain ⟨b, hb⟩ := key j (by omega)
      rw [hb]
      simp [bytesV, hj, hb, intOf]

/-- a [][]byte that came in -/
theorem open_pts {P : Program} {W : World} {H : Type} {enc : TypeId × Value → H} {t e q base : Nat} {v : Value} {d : DataW H} {ps : List MemPlace} (ht : P.underlying t = some (.slice e)) (he : P.underlying e = some (.slice q)) (hq : P.underlying q = some (.int .u8)) (hc : P.cellsOf e = 1) (hcq : P.cellsOf q = 1)
    (hval : Value.okWide P W .any base t v) (h : DataW.Trod enc P W 0 (fun _ => true) true t v d ps) :
    ∃ p n c ls, v = .slice p n c ∧ Pts W p n c ls ∧ ((d = .nil ∧ ls = []) ∨ ∃ elems spare, d = .slice elems spare ∧ elems.map dlen = ls.map List.length) := by
  obtain ⟨a, n, c, rfl⟩ := okWide_slice ht hval
  obtain ⟨fuel, hf⟩ := h
  rcases Deep.open_slice1 ht hc hf with ⟨hcs, hx⟩ | ⟨a', len, cap, m, k, V, D, Pl, hcs, hb, hl, hm, hmm, hx, hv⟩
  · simp [Value.cells] at hcs
    obtain ⟨rfl, rfl, rfl⟩ := hcs
    exact ⟨_, _, _, [], rfl, Pts.made0 _, .inl ⟨(Prod.ext_iff.1 hx).1, rfl⟩⟩
  · simp [Value.cells] at hcs
    obtain ⟨rfl, rfl, rfl⟩ := hcs
    simp only [if_true] at hmm
    subst hmm
    have key : ∀ i, i < m → ∃ l : List UInt8, ∃ q m' k', V i = .slice q m' k' ∧ Bs W q m' k' l ∧ dlen (D i) = l.length := by
      intro i hi
      obtain ⟨q', n', c', l, h1, h2, h3⟩ := trod_bs he hq hcq (hv i hi).2
      exact ⟨l, q', n', c', by simpa using h1, h2, by rw [h3, h2.length]⟩
    obtain ⟨ls, hls, hlk⟩ : ∃ ls : List (List UInt8), ls.length = n ∧ ∀ i (h : i < ls.length), ∃ q m' k', V i = .slice q m' k' ∧ Bs W q m' k' ls[i] ∧ dlen (D i) = ls[i].length := by
      have : ∀ j, j ≤ n → ∃ ls : List (List UInt8), ls.length = j ∧ ∀ i (h : i < ls.length), ∃ q m' k', V i = .slice q m' k' ∧ Bs W q m' k' ls[i] ∧ dlen (D i) = ls[i].length := by
        intro j
        induction j with
        | zero => intro _; exact ⟨[], rfl, fun i h => by simp at h⟩
        | succ j ih =>
          intro hj
          obtain ⟨ls, h1, h2⟩ := ih (by omega)
          obtain ⟨l, hl⟩ := key j (by omega)
          refine ⟨ls ++ [l], by simp [h1], fun i hi => ?_⟩
          by_cases hij : i < j
          · rw [List.getElem_append_left (by omega)]; exact h2 i (by omega)
          · have : i = j := by simp [h1] at hi; omega
            subst this
            rw [List.getElem_append_right (by omega)]
            simpa [h1] using hl
      exact this n (Nat.le_refl _)
    refine ⟨_, _, _, ls, rfl, ⟨hls, hl, by simpa [maxLen] using hm, fun h => (by cases h), fun a ha j hj => ?_⟩, .inr ⟨_, _, (Prod.ext_iff.1 hx).1, ?_⟩⟩
    · obtain rfl := Option.some.inj ha
      obtain ⟨q', m', k', h1, h2, h3⟩ := hlk j hj
      exact ⟨q', m', k', by rw [(hv j (by omega)).1, h1], h2⟩
    · apply List.ext_getElem
      · simp [hls]
      · intro i h1 h2
        obtain ⟨q', m', k', h3, h4, h5⟩ := hlk i (by simpa using h2)
        simpa using h5

theorem addr_add_add (a : Addr) (i j : Nat) : (a.add i).add j = a.add (i + j) := by
  unfold Addr.add
  by_cases hj : j = 0
  · simp [hj]
  · by_cases hi : i = 0
    · simp [hi, hj]
    · simp [hi, hj, Nat.add_assoc]
theorem flatMap_length {α β : Type} (f : α → List β) (m : Nat) (l : List α) (h : ∀ x ∈ l, (f x).length = m) : (l.flatMap f).length = l.length * m := by
  induction l with
  | nil => simp
  | cons x l ih =>
    rw [List.flatMap_cons, List.length_append, h x (by simp), ih (fun y hy => h y (by simp [hy])), List.length_cons, Nat.add_mul]; omega
theorem build_list {α : Type} (n : Nat) (R : Nat → α → Prop) (h : ∀ i, i < n → ∃ x, R i x) : ∃ l : List α, l.length = n ∧ ∀ i (hi : i < l.length), R i l[i] := by
  induction n with
  | zero => exact ⟨[], rfl, fun i hi => by simp at hi⟩
  | succ n ih =>
    obtain ⟨l, h1, h2⟩ := ih (fun i hi => h i (by omega))
    obtain ⟨x, hx⟩ := h n (by omega)
    refine ⟨l ++ [x], by simp [h1], fun i hi => ?_⟩
    by_cases hin : i < n
    · rw [List.getElem_append_left (by omega)]; exact h2 i (by omega)
    · have : i = n := by simp [h1] at hi; omega
      subst this
      rw [List.getElem_append_right (by omega)]
      simpa [h1] using hx

/-- a slice of arrays of bytes, by its cell -/
theorem trod_is {P : Program} {W : World} {H : Type} {enc : TypeId × Value → H} {base fuel t e u n : Nat} {held : Bool} {cs : List Value} {x : DataW H × List MemPlace}
    (ht : P.underlying t = some (.slice e)) (he : P.underlying e = some (.array n u)) (hu : P.underlying u = some (.int .u8)) (hcu : P.cellsOf u = 1) (hce : P.cellsOf e = n) (hn : 0 < n) (h : DataW.trod enc P W base (fun _ => true) held fuel t cs = some x) :
    ∃ p len c ids, cs = [.slice p len c] ∧ Is W p len c n ids ∧ dlen x.1 = len := by
  rcases Deep.open_slice ht h with ⟨rfl, rfl⟩ | ⟨a, len, cap, m, k, D, Pl, rfl, hb, hl, hm, hmm, rfl, hx⟩
  · exact ⟨_, _, _, [], rfl, ⟨Sl.nil _ _, fun _ h => by simp at h, rfl⟩, rfl⟩
  · simp only [if_true] at hmm
    subst hmm
    rw [hce] at hx
    obtain ⟨ids, hil, hids⟩ := build_list (α := List UInt8) len (fun i b => b.length = n ∧ ∀ j (hj : j < b.length), W.cell? (a.add (i * n + j)) = some (.int .u8 (b[j].toNat : Int))) (fun i hi => by
      obtain ⟨cs', h1, h2⟩ := hx i (by omega)
      obtain ⟨zs, rfl, hz, hw⟩ := trod_nums he hu hcu hce h2
      obtain ⟨b, rfl⟩ := u8_of_list zs hw
      obtain ⟨_, _, h3⟩ := World.cells?_some h1
      have hbl : b.length = n := by simpa using hz
      refine ⟨b, hbl, fun j hj => ?_⟩
      rw [← addr_add_add, h3 j (by omega)]
      simp [hj])
    have heach : ∀ y ∈ ids, y.length = n := by
      intro y hy
      obtain ⟨i, hi, rfl⟩ := List.mem_iff_getElem.1 hy
      exact (hids i hi).1
    have hfl : ∀ y ∈ ids, (bytesV y).length = n := fun y hy => by rw [bytesV_length, heach y hy]
    refine ⟨_, _, _, ids, rfl, ⟨⟨by rw [flatMap_length bytesV n ids hfl, hil], hl, by simpa [maxLen] using hm, fun h => (by cases h), fun a' ha j v hv => ?_⟩, heach, hil⟩, by simp [dlen]⟩
    obtain rfl := Option.some.inj ha
    have hj : j < ids.length * n := by
      have := (List.getElem?_eq_some_iff.1 hv).1
      rwa [flatMap_length bytesV n ids hfl] at this
    have hdm : j / n * n + j % n = j := by rw [Nat.mul_comm]; exact Nat.div_add_mod j n
    have hq : j / n < ids.length := (Nat.div_lt_iff_lt_mul hn).2 hj
    have hr : j % n < n := Nat.mod_lt _ hn
    have h4 := getElem?_flatMap bytesV n ids hfl (j / n) (j % n) hq hr
    rw [hdm, hv] at h4
    have h5 := (hids (j / n) hq).2 (j % n) (by rw [(hids _ hq).1]; exact hr)
    rw [hdm] at h5
    rw [h5, h4, bytesV_get _ _ (by rw [(hids _ hq).1]; exact hr)]

end Go.Mir

namespace Go.Mir
open Go.RowKit

theorem setCells_row (b : Nat) (t : TypeId) : ∀ (vs : List Value) (o : Nat) (w : World) (A : Array Value), w.heap[b]? = some (.cells A t (0, 0)) → o + vs.length ≤ A.size →
    ∃ A', (w.setCells b o vs).heap[b]? = some (.cells A' t (0, 0)) ∧ A'.size = A.size ∧ ∀ i, A'[i]? = if o ≤ i ∧ i < o + vs.length then vs[i - o]? else A[i]?
  | [], o, w, A, h, hs => ⟨A, h, rfl, fun i => by rw [if_neg (by simp <;> omega)]⟩
  | v :: r, o, w, A, h, hs => by
    have h1 := Go.heap_setCell_same w b o A t v h
    simp only [List.length_cons] at hs
    obtain ⟨A', h2, h3, h4⟩ := setCells_row b t r (o + 1) _ _ h1 (by simp; omega)
    refine ⟨A', h2, by rw [h3]; simp, fun i => ?_⟩
    rw [h4 i, Array.getElem?_setIfInBounds]
    by_cases hi : o + 1 ≤ i ∧ i < o + 1 + r.length
    · rw [if_pos hi, if_pos (by simp; omega)]
      rw [show i - o = (i - (o + 1)) + 1 by omega, List.getElem?_cons_succ]
    · rw [if_neg hi]
      by_cases ho : o = i
      · subst ho
        rw [if_pos rfl, if_pos (by omega), if_pos (by simp)]; simp
      · rw [if_neg ho, if_neg (by simp; omega)]
theorem setCells_below {B b : Nat} {w0 : World} (hB : B ≤ b) : ∀ (vs : List Value) (o : Nat) (w : World), Below B w0 w → Below B w0 (w.setCells b o vs)
  | [], _, _, h => h
  | v :: r, o, _w, h => setCells_below hB r (o + 1) _ (h.setCell hB v)

/-- a struct copied whole into a new block -/
theorem alloc_stored (w : World) (Z : Array Value) (t : TypeId) (cs : List Value) (b : Nat) (hb : b = w.heap.size) (h : Z.size = cs.length) :
    ((w.alloc (.cells Z t)).setCells b 0 cs).heap[b]? = some (.cells cs.toArray t (0, 0)) ∧ Below w.heap.size w ((w.alloc (.cells Z t)).setCells b 0 cs) := by
  subst hb
  obtain ⟨A', h1, h2, h3⟩ := setCells_row w.heap.size t cs 0 (w.alloc (.cells Z t)) Z (heap_alloc_last _ _) (by omega)
  refine ⟨?_, setCells_below (Nat.le_refl _) _ _ _ (Below.allocs _ _)⟩
  rw [h1]
  have : A' = cs.toArray := by
    apply Array.ext_getElem?
    intro i
    rw [h3 i]
    by_cases hi : i < cs.length
    · rw [if_pos (by omega)]; simp
    · rw [if_neg (by omega), Array.getElem?_eq_none (by omega), Array.getElem?_eq_none (by simp; omega)]
  rw [this]
theorem there_alloc_new (w : World) (Z : Array Value) (t : TypeId) (n : Nat) (h : Z.size = n) : (w.alloc (.cells Z t)).there w.heap.size 0 n := fun j hj => by
  have h1 : (w.alloc (.cells Z t)).heap[w.heap.size]? = some (.cells Z t (0, 0)) := heap_alloc_last _ _
  refine ⟨?_, frozen_of_row _ _ _ _ _ h1⟩
  rw [cell_of_row _ _ _ _ _ _ h1]
  simp; omega

/-- a slice of structs, each of 'size' cells -/
structure Rs (w : World) (p : Option Addr) (n c size : Nat) (rows : List (List Value)) : Prop where
  sl : Sl w p n c size rows.flatten
  each : ∀ r ∈ rows, r.length = size
  count : rows.length = n
theorem Rs.below {w w' : World} {p : Option Addr} {n c size : Nat} {rows : List (List Value)} (h : Rs w p n c size rows) (hb : Below w.heap.size w w') : Rs w' p n c size rows := ⟨h.sl.below hb, h.each, h.count⟩
theorem Rs.row {w : World} {b o n c size : Nat} {rows : List (List Value)} (h : Rs w (some ⟨b, o, none⟩) n c size rows) (i : Nat) (hi : i < rows.length) : w.rangeAt b (o + i * size) rows[i] := fun j v hv => by
  have hj : j < size := by
    have := (List.getElem?_eq_some_iff.1 hv).1
    rwa [h.each _ (List.getElem_mem hi)] at this
  rw [Nat.add_assoc]
  refine h.sl.at ?_
  have := getElem?_flatMap (fun x : List Value => x) size rows h.each i j hi hj
  rw [show rows.flatten = rows.flatMap (fun x => x) by simp [List.flatMap_id'], this]; exact hv

/-- a slice of structs that came in -/
theorem trod_rows {P : Program} {W : World} {H : Type} {enc : TypeId × Value → H} {base fuel t e size : Nat} {held : Bool} {cs : List Value} {x : DataW H × List MemPlace} {α : Type} (R : α → List Value → DataW H → Prop)
    (ht : P.underlying t = some (.slice e)) (hce : P.cellsOf e = size) (hs : 0 < size)
    (one : ∀ m cs' y, DataW.trod enc P W base (fun _ => true) held m e cs' = some y → ∃ a, R a cs' y.1) (h : DataW.trod enc P W base (fun _ => true) held fuel t cs = some x) :
    ∃ p n c, ∃ L : List (List Value × α), cs = [.slice p n c] ∧ Rs W p n c size (L.map (·.1)) ∧ dlen x.1 = n ∧
      ((x.1 = .nil ∧ L = []) ∨ ∃ elems spare, x.1 = .slice elems spare ∧ elems.length = L.length ∧ ∀ i (h1 : i < elems.length) (h2 : i < L.length), R L[i].2 L[i].1 elems[i]) := by
  rcases Deep.open_slice ht h with ⟨rfl, rfl⟩ | ⟨a, len, cap, m, k, D, Pl, rfl, hb, hl, hm, hmm, rfl, hx⟩
  · exact ⟨_, _, _, [], rfl, ⟨Sl.nil _ _, fun _ h => by simp at h, rfl⟩, rfl, .inl ⟨rfl, rfl⟩⟩
  · simp only [if_true] at hmm
    subst hmm
    rw [hce] at hx
    obtain ⟨L, hL, hLs⟩ := build_list (α := List Value × α) len (fun i y => y.1.length = size ∧ R y.2 y.1 (D i) ∧ ∀ j (hj : j < y.1.length), W.cell? (a.add (i * size + j)) = some y.1[j]) (fun i hi => by
      obtain ⟨cs', h1, h2⟩ := hx i (by omega)
      obtain ⟨u, hu⟩ := one _ _ _ h2
      obtain ⟨_, h4, h3⟩ := World.cells?_some h1
      refine ⟨(cs', u), h4, hu, fun j hj => ?_⟩
      rw [← addr_add_add, h3 j (by rw [← h4]; exact hj)]
      simp [hj])
    have heach : ∀ r ∈ L.map (·.1), r.length = size := by
      intro r hr
      obtain ⟨y, hy, rfl⟩ := List.mem_map.1 hr
      obtain ⟨i, hi, rfl⟩ := List.mem_iff_getElem.1 hy
      exact (hLs i hi).1
    refine ⟨_, _, _, L, rfl, ⟨⟨?_, hl, by simpa [maxLen] using hm, fun h => (by cases h), fun a' ha j v hv => ?_⟩, heach, by simpa using hL⟩, by simp [dlen], .inr ⟨_, _, rfl, by simp [hL], fun i h1 h2 => ?_⟩⟩
    · have := flatMap_length (fun x : List Value => x) size (L.map (·.1)) heach
      rw [List.flatMap_id'] at this
      rw [this, List.length_map, hL]
    · obtain rfl := Option.some.inj ha
      have hfl := flatMap_length (fun x : List Value => x) size (L.map (·.1)) heach
      rw [List.flatMap_id', List.length_map] at hfl
      have hj : j < L.length * size := by
        have := (List.getElem?_eq_some_iff.1 hv).1
        rwa [hfl] at this
      have hdm : j / size * size + j % size = j := by rw [Nat.mul_comm]; exact Nat.div_add_mod j size
      have hq : j / size < L.length := (Nat.div_lt_iff_lt_mul hs).2 hj
      have hr : j % size < size := Nat.mod_lt _ hs
      have h4 := getElem?_flatMap (fun x : List Value => x) size (L.map (·.1)) heach (j / size) (j % size) (by simpa using hq) hr
      rw [hdm, List.flatMap_id', hv] at h4
      have h5 := (hLs (j / size) hq).2.2 (j % size) (by rw [(hLs _ hq).1]; exact hr)
      rw [hdm] at h5
      rw [h5, h4, List.getElem?_eq_getElem (by simp; rw [(hLs _ hq).1]; exact hr)]
      simp
    · have := (hLs i h2).2.1
      simpa using this

end Go.Mir

namespace Go.Mir
open Go.RowKit

/-- what is owned: a row with its room known, or a row that is full -/
def World.keepsRow (w : World) (base : Nat) (e : TypeId) (size : Nat) (v : Value) (n : Nat) (xs : List Value) : Prop :=
  xs.length = n * size ∧ ((v = .slice none 0 0 ∧ n = 0) ∨
    ∃ g cap cur, v = .slice (some ⟨g, 0, none⟩) n cap ∧ base ≤ g ∧ w.heap[g]? = some (.cells cur e (0, 0)) ∧ n ≤ cap ∧ cap ≤ maxLen ∧ (cur.size = cap * size ∨ cap = n) ∧ n * size ≤ cur.size ∧ cur.toList.take (n * size) = xs)
theorem keeps_of_owns {w : World} {base e size n : Nat} {v : Value} {xs : List Value} (h : w.ownsRow base e size v n xs) : World.keepsRow w base e size v n xs := by
  refine ⟨h.1, ?_⟩
  rcases h.2 with hn | ⟨g, cap, cur, rfl, hb, hg, hnc, hcm, hs, ht⟩
  · exact .inl hn
  · exact .inr ⟨g, cap, cur, rfl, hb, hg, hnc, hcm, .inl hs, by rw [hs]; exact Nat.mul_le_mul_right _ hnc, ht⟩
theorem keeps_nil (w : World) (base e size : Nat) : World.keepsRow w base e size (.slice none 0 0) 0 [] := ⟨by simp, .inl ⟨rfl, rfl⟩⟩
theorem keeps_lt {w : World} {base e size n : Nat} {v : Value} {xs : List Value} (h : World.keepsRow w base e size v n xs) : ∀ k, v.ownBlock = some k → base ≤ k ∧ k < w.heap.size := by
  intro k hk
  rcases h.2 with ⟨rfl, _⟩ | ⟨g, cap, cur, rfl, hb, hg, _⟩
  · simp [Value.ownBlock] at hk
  · simp [Value.ownBlock] at hk
    subst hk
    exact ⟨hb, (Array.getElem?_eq_some_iff.1 hg).1⟩
theorem keeps_sl {w : World} {base e size n : Nat} {v : Value} {xs : List Value} (h : World.keepsRow w base e size v n xs) : ∃ p c, v = .slice p n c ∧ Sl w p n c size xs := by
  rcases h.2 with ⟨rfl, rfl⟩ | ⟨g, cap, cur, rfl, hb, hg, hn, hm, hs, hz, ht⟩
  · refine ⟨none, 0, rfl, ?_⟩
    have : xs = [] := by have := h.1; simpa using this
    subst this; exact Sl.nil _ _
  · refine ⟨_, _, rfl, ⟨h.1, hn, by simpa [maxLen] using hm, fun h => (by cases h), fun a ha j u hu => ?_⟩⟩
    obtain rfl := Option.some.inj ha
    have hj : j < n * size := by
      have := (List.getElem?_eq_some_iff.1 hu).1
      rwa [h.1] at this
    rw [add_none, Nat.zero_add, cell_of_row _ _ _ _ _ _ hg, ← Array.getElem?_toList]
    rw [← ht, List.getElem?_take, if_pos hj] at hu
    exact hu
theorem keeps_touch {S : Nat → Prop} {w w' : World} {base e size n : Nat} {v : Value} {xs : List Value} (h : World.keepsRow w base e size v n xs) (ht : Turns S w w') (ho : ∀ k, v.ownBlock = some k → ¬ S k) : World.keepsRow w' base e size v n xs := by
  refine ⟨h.1, ?_⟩
  rcases h.2 with hn | ⟨g, cap, cur, rfl, hb, hgg, rest⟩
  · exact .inl hn
  · exact .inr ⟨g, cap, cur, rfl, hb, ht.keep hgg (ho g rfl), rest⟩
theorem keeps_below {w w' : World} {base e size n : Nat} {v : Value} {xs : List Value} (h : World.keepsRow w base e size v n xs) (hb : Below w.heap.size w w') : World.keepsRow w' base e size v n xs :=
  keeps_touch h (Turns.of_below (S := fun _ => False) hb) (fun _ _ h => h)
/-- it lies apart from a row of another type -/
theorem keeps_ne_cells {w : World} {base e size n : Nat} {v : Value} {xs : List Value} {k : Nat} {M : Array Value} {t : TypeId} {fr : Nat × Nat} (h : World.keepsRow w base e size v n xs) (hk : w.heap[k]? = some (.cells M t fr)) (hne : t ≠ e) : ∀ i, v.ownBlock = some i → ¬ i = k := by
  intro i hi e1
  subst e1
  rcases h.2 with ⟨rfl, _⟩ | ⟨g, cap, cur, rfl, _, hg, _⟩
  · simp [Value.ownBlock] at hi
  · simp [Value.ownBlock] at hi
    subst hi
    rw [hk] at hg; cases hg; exact hne rfl
/-- cut: 's[:k:k]' -/
theorem keeps_cut {w : World} {base e size n k : Nat} {p : Option Addr} {c : Nat} {xs : List Value} (h : World.keepsRow w base e size (.slice p n c) n xs) (hk : k ≤ n) (hp : p ≠ none) : World.keepsRow w base e size (.slice p k k) k (xs.take (k * size)) := by
  have hle : k * size ≤ n * size := Nat.mul_le_mul_right _ hk
  refine ⟨by rw [List.length_take, h.1]; omega, ?_⟩
  rcases h.2 with ⟨hv, _⟩ | ⟨g, cap, cur, hv, hb, hg, hn, hm, hs, hz, ht⟩
  · cases hv; exact absurd rfl hp
  · cases hv
    exact .inr ⟨g, k, cur, rfl, hb, hg, Nat.le_refl _, by omega, .inr rfl, by omega, by rw [← ht, List.take_take, Nat.min_eq_left hle]⟩
/-- append -/
theorem wpList_append_keeps {P : Program} {w : World} {ops : Array Oper} {rest : List Oper} {o : Oper} {a : Act} {Q : Exit → Act → World → Prop} (hgd : o.guard = none) (s x : Operand) (t : TypeId)
    (ho : o.op = .call { callee := .builtin .append, args := #[s, x], argTypes := #[t, t] })
    {base e size bytes : Nat} {z : Value} (ht : P.underlying t = some (.slice e)) (hi : (P.info? e).map (fun i => (i.zero, i.size, i.bytes)) = some (some z, size, bytes)) (hzs : z.cells.size = size) (hsz : 0 < size)
    {v : Value} {n : Nat} {xs : List Value} (hs : a.eval s = v) (hown : World.keepsRow w base e size v n xs)
    {ax : Addr} {m c : Nat} {news : List Value} (hx : a.eval x = .slice (some ax) m c) (hS : Sl w (some ax) m c size news) (h1 : ∀ u ∈ news, u.oneCell' = true) (hm0 : 0 < m)
    (hb : n + m ≤ 9223372036854775807 ∧ (n + m) * bytes ≤ 140737488355328) (hbase : base ≤ w.heap.size)
    (h : ∀ p' c' w', World.keepsRow w' base e size (.slice p' (n + m) c') (n + m) (xs ++ news) → w.grownBy w' v.ownBlock → (∀ k, (Value.slice p' (n + m) c').ownBlock = some k → v.ownBlock = some k ∨ w.heap.size ≤ k) → p' ≠ none →
      wpList P ops Q rest (a.put o.dst (.slice p' (n + m) c')) w') : wpList P ops Q (o :: rest) a w := by
  obtain ⟨i, hi0, hz, hsize, hby⟩ := info_parts hi
  have hmax : n + m ≤ maxLen := by simpa [maxLen] using hb.1
  have owned : ∀ (hw : w.ownsRow base e size v n xs), wpList P ops Q (o :: rest) a w := fun hw => by
    refine wpList_append_nx hgd s x t ho ht hi hzs hsz hs hw hx hS h1 hb hbase fun p' c' w' k1 k2 k3 k4 => ?_
    refine h p' c' w' (keeps_of_owns k1) k2 (fun k hk => (k3 k hk).imp id (fun e => by rw [e]; exact Nat.le_refl _)) (fun hp => ?_)
    have := (k4.1 hp).2
    omega
  rcases hown.2 with ⟨hv, hn⟩ | ⟨g, cap, cur, hv, hbg, hg, hnc, hcm, hsh, hzz, htk⟩
  · exact owned ⟨hown.1, .inl ⟨hv, hn⟩⟩
  · rcases hsh with hsh | hsh
    · exact owned ⟨hown.1, .inr ⟨g, cap, cur, hv, hbg, hg, hnc, hcm, hsh, htk⟩⟩
    · subst hsh
      refine wpList_plain hgd fun K hK => ?_
      have holds : ∀ j u, xs[j]? = some u → w.cell? ((⟨g, 0, none⟩ : Addr).add j) = some u := fun j u hu => by
        obtain ⟨p, c', e1, hsl⟩ := keeps_sl hown
        rw [hv] at e1
        cases e1
        exact hsl.cell _ rfl j u hu
      obtain ⟨v', w', hr, k1, k2⟩ := run_append_arg_grows (P := P) w t o.type e i z size bytes ht hi0 hz hsize hby hzs hsz ⟨g, 0, none⟩ cap cap xs hown.1 holds ax m c news hS.len (hS.cell ax rfl) (by omega) hmax hb.2
      unfold Oper.wp execOp
      simp only [ho, resolve, invoke, builtin, Sem.run_bind, Sem.run_pure, Result.andThen_ok, List.map_toArray, List.map_cons, List.map_nil, hs, hv, hx, hr]
      obtain ⟨p', c', rfl, hsl⟩ := own_sl k1
      have hp' : p' ≠ none := fun hp => by
        have hc := hsl.nil0 hp
        have := hsl.le
        omega
      refine hK _ _ (h p' c' w' (keeps_of_owns (own_base k1 (fun k hk => Nat.le_trans hbase (k1.lt k hk).1))) ?_ ?_ hp')
      · exact ⟨k2.os, k2.tape, k2.output, k2.size, fun k hk _ => k2.block k hk (by simp)⟩
      · intro k hk
        exact .inr (k1.lt k hk).1
end Go.Mir

namespace Go.Proofs.YtnejjfglkindjaaGreatDoor.Dk
open Go.RowKit Go.Mir

/-! ### plain -/
inductive St where
  | put (b : List UInt8)
  | cut (n : Nat)
def St.units : St → Nat
  | .put b => b.length
  | .cut _ => 1
def St.act : St → List UInt8 → Nat → List UInt8
  | .put p, b, u => b ++ p.take u
  | .cut n, b, u => if u = 0 then b else b.take n
def St.size : St → Nat → Nat
  | .put p, n => n + p.length
  | .cut m, _ => m
/-- may it be done to so many bytes? -/
def St.ok : St → Nat → Prop
  | .put _, _ => True
  | .cut m, n => m ≤ n
/-- all steps -/
def runAll : List UInt8 → List St → List UInt8
  | b, [] => b
  | b, s :: r => runAll (s.act b s.units) r
def okAll : List UInt8 → List St → Prop
  | _, [] => True
  | b, s :: r => s.ok b.length ∧ okAll (s.act b s.units) r
/-- so many units of them -/
def someU : List UInt8 → List St → Nat → List UInt8
  | b, [], _ => b
  | b, s :: r, u => someU (s.act b (min u s.units)) r (u - min u s.units)
def unitsAll : List St → Nat
  | [] => 0
  | s :: r => s.units + unitsAll r
theorem act_full (s : St) (b : List UInt8) : s.act b s.units = match s with | .put p => b ++ p | .cut n => b.take n := by
  cases s with
  | put p => simp [St.act, St.units]
  | cut n => simp [St.act, St.units]
theorem act_len {s : St} {b : List UInt8} (h : s.ok b.length) : (s.act b s.units).length = s.size b.length := by
  rw [act_full]
  cases s with
  | put p => simp [St.size]
  | cut n => simp [St.size]; exact Nat.min_eq_left h
theorem act_zero (s : St) (b : List UInt8) : s.act b 0 = b := by
  cases s with
  | put p => simp [St.act]
  | cut n => simp [St.act]
theorem runAll_snoc (s : St) : ∀ (l : List St) (b : List UInt8), runAll b (l ++ [s]) = s.act (runAll b l) s.units
  | [], _ => rfl
  | x :: l, b => by rw [List.cons_append, runAll, runAll, runAll_snoc s l]
theorem okAll_snoc (s : St) : ∀ (l : List St) (b : List UInt8), okAll b (l ++ [s]) ↔ okAll b l ∧ s.ok (runAll b l).length
  | [], b => by simp [okAll, runAll]
  | x :: l, b => by rw [List.cons_append, okAll, okAll, runAll, okAll_snoc s l, and_assoc]
theorem unitsAll_snoc (s : St) : ∀ (l : List St), unitsAll (l ++ [s]) = unitsAll l + s.units
  | [] => by simp [unitsAll]
  | x :: l => by rw [List.cons_append, unitsAll, unitsAll, unitsAll_snoc s l]; omega
theorem someU_zero : ∀ (l : List St) (b : List UInt8), someU b l 0 = b
  | [], _ => rfl
  | s :: r, b => by rw [someU, Nat.zero_min, act_zero, Nat.zero_sub, someU_zero r]
theorem someU_all : ∀ (l : List St) (b : List UInt8) (u : Nat), unitsAll l ≤ u → someU b l u = runAll b l
  | [], _, _, _ => rfl
  | s :: r, b, u, h => by
    rw [unitsAll] at h
    rw [someU, runAll, Nat.min_eq_right (by omega), someU_all r _ _ (by omega)]
/-- a file -/
structure FD where
  kept : List UInt8
  now : List UInt8
  steps : List St
  need : Nat
structure FD.Ok (f : FD) : Prop where
  now : f.now = runAll f.kept f.steps
  ok : okAll f.kept f.steps
  all : ∀ u, (someU f.kept f.steps u).length ≤ f.need
  un : unitsAll f.steps ≤ 65536 * f.steps.length
  eu : ∀ s ∈ f.steps, s.units ≤ 65536
theorem FD.Ok.le {f : FD} (h : f.Ok) : f.now.length ≤ f.need := by
  have := h.all (unitsAll f.steps)
  rwa [someU_all _ _ _ (Nat.le_refl _), ← h.now] at this
theorem FD.Ok.lek {f : FD} (h : f.Ok) : f.kept.length ≤ f.need := by
  have := h.all 0
  rwa [someU_zero] at this
theorem someU_snoc (s : St) : ∀ (l : List St) (b : List UInt8) (u : Nat), someU b (l ++ [s]) u = s.act (someU b l u) (min (u - unitsAll l) s.units)
  | [], b, u => by simp [someU, unitsAll]
  | x :: l, b, u => by
    rw [List.cons_append, someU, someU, someU_snoc s l, unitsAll]
    congr 2
    omega
def FD.none : FD := ⟨[], [], [], 0⟩
theorem FD.none_ok : FD.none.Ok := ⟨rfl, trivial, fun _u => Nat.le_refl _, Nat.le_refl _, fun _s hs => (nomatch hs)⟩
def FD.take (f : FD) (s : St) : FD := ⟨f.kept, s.act f.now s.units, f.steps ++ [s], max f.need (s.size f.now.length)⟩
theorem FD.take_ok {f : FD} {s : St} (h : f.Ok) (hs : s.ok f.now.length) (hu : s.units ≤ 65536) : (f.take s).Ok := by
  refine ⟨by show s.act f.now s.units = runAll f.kept (f.steps ++ [s]); rw [runAll_snoc, ← h.now], (okAll_snoc s _ _).2 ⟨h.ok, by show s.ok (runAll f.kept f.steps).length; rw [← h.now]; exact hs⟩, fun u => ?_, by show unitsAll (f.steps ++ [s]) ≤ 65536 * (f.steps ++ [s]).length; rw [unitsAll_snoc, List.length_append, List.length_singleton]; have := h.un; omega, fun x hx => ?_⟩
  rotate_left
  · have hx : x ∈ f.steps ++ [s] := hx
    rcases List.mem_append.1 hx with hx | hx
    · exact h.eu x hx
    · rw [List.mem_singleton] at hx; rw [hx]; exact hu
  show (someU f.kept (f.steps ++ [s]) u).length ≤ max f.need (s.size f.now.length)
  rw [someU_snoc]
  by_cases hu : u ≤ unitsAll f.steps
  · rw [show min (u - unitsAll f.steps) s.units = 0 by omega, act_zero]
    exact Nat.le_trans (h.all u) (Nat.le_max_left ..)
  · rw [someU_all _ _ _ (by omega), ← h.now]
    cases s with
    | put p =>
      refine Nat.le_trans ?_ (Nat.le_max_right ..)
      simp only [St.act, St.size, List.length_append, List.length_take]
      omega
    | cut n =>
      simp only [St.act, St.size]
      split
      · exact Nat.le_trans h.le (Nat.le_max_left ..)
      · rw [List.length_take]
        exact Nat.le_trans (Nat.min_le_left ..) (Nat.le_max_right ..)
def FD.settle (f : FD) (u : Nat) : FD := ⟨someU f.kept f.steps u, someU f.kept f.steps u, [], (someU f.kept f.steps u).length⟩
theorem FD.settle_ok (f : FD) (u : Nat) : (f.settle u).Ok := ⟨rfl, trivial, fun _u => Nat.le_refl _, Nat.le_refl _, fun _s hs => (nomatch hs)⟩
def usedL : List FD → Nat
  | [] => 0
  | f :: r => f.need + usedL r
theorem usedL_take_succ {l : List FD} {k : Nat} (h : k < l.length) : usedL (l.take (k + 1)) = usedL (l.take k) + l[k].need := by
  have key : ∀ (a b : List FD), usedL (a ++ b) = usedL a + usedL b := by
    intro a b
    induction a with
    | nil => simp [usedL]
    | cons x a ih => rw [List.cons_append, usedL, usedL, ih]; omega
  rw [List.take_succ_eq_append_getElem h, key]
  simp [usedL]
theorem usedL_take_le {l : List FD} (k : Nat) : usedL (l.take k) ≤ usedL l := by
  induction l generalizing k with
  | nil => simp
  | cons x l ih =>
    cases k with
    | zero => exact Nat.zero_le _
    | succ k => rw [List.take_succ_cons, usedL, usedL]; have := ih k; omega
theorem usedL_mem {l : List FD} {i : Nat} (h : i < l.length) : l[i].need ≤ usedL l := by
  have h1 := usedL_take_succ h
  have h2 := usedL_take_le (l := l) (i + 1)
  omega
theorem usedL_set {l : List FD} {i : Nat} (h : i < l.length) (f : FD) : usedL (l.set i f) + l[i].need = usedL l + f.need := by
  induction l generalizing i with
  | nil => simp at h
  | cons x l ih =>
    cases i with
    | zero => simp [usedL]; omega
    | succ i => 
      have := ih (i := i) (by simpa using h)
      simp only [List.set_cons_succ, usedL, List.getElem_cons_succ]
      omega

/-! ### in memory -/
/-- bytes that are only read -/
def Rd (w : World) (base : Nat) (v : Value) (l : List UInt8) : Prop :=
  (v = .slice none 0 0 ∧ l = []) ∨ ∃ g cap cur, v = .slice (some ⟨g, 0, none⟩) l.length cap ∧ base ≤ g ∧ w.heap[g]? = some (.cells cur 5 (0, 0)) ∧ l.length ≤ cap ∧ cap ≤ maxLen ∧ l.length ≤ cur.size ∧ cur.toList.take l.length = bytesV l
theorem Rd.touch {S : Nat → Prop} {w w' : World} {base : Nat} {v : Value} {l : List UInt8} (h : Rd w base v l) (ht : Turns S w w') (hS : ∀ k M fr, w.heap[k]? = some (.cells M 5 fr) → ¬ S k) : Rd w' base v l := by
  rcases h with h | ⟨g, cap, cur, h1, h2, h3, h4⟩
  · exact .inl h
  · exact .inr ⟨g, cap, cur, h1, h2, ht.keep h3 (hS g cur _ h3), h4⟩
theorem Rd.below {w w' : World} {base : Nat} {v : Value} {l : List UInt8} (h : Rd w base v l) (hb : Below w.heap.size w w') : Rd w' base v l :=
  h.touch (Turns.of_below (S := fun _ => False) hb) (fun _ _ _ _ h => h)
theorem Rd.bs {w : World} {base : Nat} {v : Value} {l : List UInt8} (h : Rd w base v l) : ∃ p c, v = .slice p l.length c ∧ Bs w p l.length c l := by
  rcases h with ⟨rfl, rfl⟩ | ⟨g, cap, cur, rfl, hb, hg, hn, hm, hz, ht⟩
  · exact ⟨none, 0, rfl, Sl.nil _ _⟩
  · refine ⟨_, _, rfl, ⟨by rw [bytesV_length, Nat.mul_one], hn, by simpa [maxLen] using hm, fun h => (by cases h), fun a ha j u hu => ?_⟩⟩
    obtain rfl := Option.some.inj ha
    have hj : j < l.length := by
      have := (List.getElem?_eq_some_iff.1 hu).1
      rwa [bytesV_length] at this
    rw [add_none, Nat.zero_add, cell_of_row _ _ _ _ _ _ hg, ← Array.getElem?_toList]
    rw [← ht, List.getElem?_take, if_pos hj] at hu
    exact hu
theorem Rd.of_own {w : World} {base : Nat} {v : Value} {l : List UInt8} (h : w.ownsRow base 5 1 v l.length (bytesV l)) : Rd w base v l := by
  rcases h.2 with ⟨rfl, hn⟩ | ⟨g, cap, cur, rfl, hb, hg, hn, hm, hs, ht⟩
  · exact .inl ⟨rfl, List.length_eq_zero_iff.1 hn⟩
  · exact .inr ⟨g, cap, cur, rfl, hb, hg, hn, hm, by rw [hs]; omega, by rw [Nat.mul_one] at ht; exact ht⟩
theorem Rd.base {w : World} {base b2 : Nat} {v : Value} {l : List UInt8} (h : Rd w base v l) (hb : b2 ≤ base) : Rd w b2 v l := by
  rcases h with h | ⟨g, cap, cur, h1, h2, h3⟩
  · exact .inl h
  · exact .inr ⟨g, cap, cur, h1, Nat.le_trans hb h2, h3⟩
/-- cut to a size -/
theorem Rd.cut {w : World} {base : Nat} {p : Option Addr} {n c : Nat} {l : List UInt8} (h : Rd w base (.slice p n c) l) (k : Nat) (hk : k ≤ l.length) : Rd w base (.slice p k c) (l.take k) := by
  rcases h with ⟨h1, rfl⟩ | ⟨g, cap, cur, h1, h2, h3, h4, h5, h6, h7⟩
  · cases h1
    have : k = 0 := by simpa using hk
    subst this
    exact .inl ⟨rfl, rfl⟩
  · cases h1
    have hl : (l.take k).length = k := by rw [List.length_take]; omega
    exact .inr ⟨g, _, cur, by rw [hl], h2, h3, by omega, h5, by omega, by rw [hl, show cur.toList.take k = (cur.toList.take l.length).take k by rw [List.take_take, Nat.min_eq_left hk], h7]; simp [bytesV, List.map_take]⟩
theorem Rd.full {w : World} {base : Nat} {p : Option Addr} {n c : Nat} {l : List UInt8} (h : Rd w base (.slice p n c) l) : Rd w base (.slice p n n) l := by
  rcases h with ⟨h1, rfl⟩ | ⟨g, cap, cur, h1, h2, h3, h4, h5, h6, h7⟩
  · cases h1; exact .inl ⟨rfl, rfl⟩
  · cases h1
    exact .inr ⟨g, _, cur, rfl, h2, h3, Nat.le_refl _, by omega, h6, h7⟩
theorem own_ne_cells' {w : World} {base e size n : Nat} {v : Value} {xs : List Value} {k : Nat} {M : Array Value} {t : TypeId} {fr : Nat × Nat} (h : w.ownsRow base e size v n xs) (hk : w.heap[k]? = some (.cells M t fr)) (hne : t ≠ e) : ∀ i, v.ownBlock = some i → ¬ i = k := by
  intro i hi e1
  subst e1
  rcases h.2 with ⟨rfl, _⟩ | ⟨g, cap, cur, rfl, _, hg, _⟩
  · simp [Value.ownBlock] at hi
  · simp [Value.ownBlock] at hi
    subst hi
    rw [hk] at hg; cases hg; exact hne rfl
/-- a step -/
def StAt (w : World) (base : Nat) (v : Value) : St → Prop
  | .put b => ∃ bv, v = .iface 109 (.agg #[bv]) ∧ Rd w base bv b
  | .cut n => v = .iface 169 (.agg #[.int .i64 (n : Int)])
theorem StAt.touch {S : Nat → Prop} {w w' : World} {base : Nat} {v : Value} {s : St} (h : StAt w base v s) (ht : Turns S w w') (hS : ∀ k M fr, w.heap[k]? = some (.cells M 5 fr) → ¬ S k) : StAt w' base v s := by
  cases s with
  | put b => obtain ⟨bv, h1, h2⟩ := h; exact ⟨bv, h1, h2.touch ht hS⟩
  | cut n => exact h
theorem StAt.one {w : World} {base : Nat} {v : Value} {s : St} (h : StAt w base v s) : v.oneCell' = true := by
  cases s with
  | put b => obtain ⟨bv, rfl, _⟩ := h; rfl
  | cut n => cases h; rfl
/-- a file's cells -/
structure FV where
  kv : Value
  nv : Value
  sv : Value
  nd : Nat
def fvL (v : FV) : List Value := [v.kv, v.nv, v.sv, .int .i64 (v.nd : Int)]
def dA (vs : List FV) (room fuse : Nat) (down : Bool) : Array Value := (vs.flatMap fvL ++ [Value.int .i64 (room : Int), Value.int .i64 (fuse : Int), Value.bool down]).toArray
structure FAt (w : World) (base : Nat) (v : FV) (f : FD) : Prop where
  kept : Rd w base v.kv f.kept
  now : Rd w base v.nv f.now
  steps : ∃ vals, w.ownsRow base 165 1 v.sv f.steps.length vals ∧ ∀ (i : Nat) x s, vals[i]? = some x → f.steps[i]? = some s → StAt w base x s
  need : v.nd = f.need
  ok : f.Ok
theorem FAt.touch {S : Nat → Prop} {w w' : World} {base : Nat} {v : FV} {f : FD} (h : FAt w base v f) (ht : Turns S w w') (hS : ∀ k M fr, w.heap[k]? = some (.cells M 5 fr) → ¬ S k) (ho : ∀ k, v.sv.ownBlock = some k → ¬ S k) : FAt w' base v f := by
  obtain ⟨vals, h1, h2⟩ := h.steps
  exact ⟨h.kept.touch ht hS, h.now.touch ht hS, ⟨vals, own_touch h1 ht ho, fun i x s hx hs => (h2 i x s hx hs).touch ht hS⟩, h.need, h.ok⟩
theorem FAt.below {w w' : World} {base : Nat} {v : FV} {f : FD} (h : FAt w base v f) (hb : Below w.heap.size w w') : FAt w' base v f :=
  h.touch (Turns.of_below (S := fun _ => False) hb) (fun _ _ _ _ h => h) (fun _ _ h => h)
/-- a disk -/
structure DD where
  fs : List FD
  room : Nat
  fuse : Nat
  down : Bool
structure DAt (w : World) (base db : Nat) (vs : List FV) (d : DD) : Prop where
  row : w.heap[db]? = some (.cells (dA vs d.room d.fuse d.down) 105 (0, 0))
  low : base ≤ db
  n3 : vs.length = 3
  m3 : d.fs.length = 3
  each : ∀ (i : Nat) v f, vs[i]? = some v → d.fs[i]? = some f → FAt w base v f
  apart : ∀ (i j : Nat) v v' k, vs[i]? = some v → vs[j]? = some v' → v.sv.ownBlock = some k → v'.sv.ownBlock = some k → i = j
  room1 : 1 ≤ d.room ∧ d.room ≤ 65536
  fuse1 : d.fuse ≤ 9223372036854775807
  used : usedL d.fs ≤ d.room
  few : ∀ f ∈ d.fs, f.steps.length ≤ 4398046511104
theorem DAt.below {w w' : World} {base db : Nat} {vs : List FV} {d : DD} (h : DAt w base db vs d) (hb : Below w.heap.size w w') : DAt w' base db vs d :=
  ⟨Below.keepOld hb h.row, h.low, h.n3, h.m3, fun i v f h1 h2 => (h.each i v f h1 h2).below hb, h.apart, h.room1, h.fuse1, h.used, h.few⟩
theorem list3 {α : Type} {l : List α} (h : l.length = 3) : ∃ a b c, l = [a, b, c] := by
  match l, h with
  | [a, b, c], _ => exact ⟨a, b, c, rfl⟩
theorem dA_cells {vs : List FV} (h : vs.length = 3) (room fuse : Nat) (down : Bool) : (dA vs room fuse down)[12]? = some (.int .i64 (room : Int)) ∧ (dA vs room fuse down)[13]? = some (.int .i64 (fuse : Int)) ∧ (dA vs room fuse down)[14]? = some (.bool down) ∧
    ∀ (i : Nat) (hi : i < vs.length), (dA vs room fuse down)[i * 4]? = some vs[i].kv ∧ (dA vs room fuse down)[i * 4 + 1]? = some vs[i].nv ∧ (dA vs room fuse down)[i * 4 + 2]? = some vs[i].sv ∧ (dA vs room fuse down)[i * 4 + 3]? = some (.int .i64 (vs[i].nd : Int)) := by
  obtain ⟨a, b, c, rfl⟩ := list3 h
  refine ⟨rfl, rfl, rfl, fun i hi => ?_⟩
  match i, hi with
  | 0, _ => exact ⟨rfl, rfl, rfl, rfl⟩
  | 1, _ => exact ⟨rfl, rfl, rfl, rfl⟩
  | 2, _ => exact ⟨rfl, rfl, rfl, rfl⟩
theorem DAt.cells {w : World} {base db : Nat} {vs : List FV} {d : DD} (h : DAt w base db vs d) : w.cell? ⟨db, 12, none⟩ = some (.int .i64 (d.room : Int)) ∧ w.cell? ⟨db, 13, none⟩ = some (.int .i64 (d.fuse : Int)) ∧ w.cell? ⟨db, 14, none⟩ = some (.bool d.down) ∧ ∀ j, w.frozen? ⟨db, j, none⟩ = false := by
  obtain ⟨h1, h2, h3, h4⟩ := dA_cells h.n3 d.room d.fuse d.down
  refine ⟨by rw [cell_of_row _ _ _ _ _ _ h.row]; exact h1, by rw [cell_of_row _ _ _ _ _ _ h.row]; exact h2, by rw [cell_of_row _ _ _ _ _ _ h.row]; exact h3, fun j => frozen_of_row _ _ _ _ _ h.row⟩
theorem DAt.file {w : World} {base db : Nat} {vs : List FV} {d : DD} (h : DAt w base db vs d) (i : Nat) (hi : i < vs.length) : w.cell? ⟨db, i * 4, none⟩ = some vs[i].kv ∧ w.cell? ⟨db, i * 4 + 1, none⟩ = some vs[i].nv ∧ w.cell? ⟨db, i * 4 + 2, none⟩ = some vs[i].sv ∧ w.cell? ⟨db, i * 4 + 3, none⟩ = some (.int .i64 (vs[i].nd : Int)) := by
  obtain ⟨h1, h2, h3, h4⟩ := dA_cells h.n3 d.room d.fuse d.down
  obtain ⟨g1, g2, g3, g4⟩ := h4 i hi
  exact ⟨by rw [cell_of_row _ _ _ _ _ _ h.row]; exact g1, by rw [cell_of_row _ _ _ _ _ _ h.row]; exact g2, by rw [cell_of_row _ _ _ _ _ _ h.row]; exact g3, by rw [cell_of_row _ _ _ _ _ _ h.row]; exact g4⟩
/-- one cell of a disk stored anew -/
theorem dA_set {vs : List FV} (h : vs.length = 3) (room fuse : Nat) (down : Bool) : (∀ f : Nat, (dA vs room fuse down).setIfInBounds 13 (.int .i64 (f : Int)) = dA vs room f down) ∧ (∀ b : Bool, (dA vs room fuse down).setIfInBounds 14 (.bool b) = dA vs room fuse b) ∧
    ∀ (i : Nat) (hi : i < vs.length), (∀ x, (dA vs room fuse down).setIfInBounds (i * 4) x = dA (vs.set i ⟨x, vs[i].nv, vs[i].sv, vs[i].nd⟩) room fuse down) ∧ (∀ x, (dA vs room fuse down).setIfInBounds (i * 4 + 1) x = dA (vs.set i ⟨vs[i].kv, x, vs[i].sv, vs[i].nd⟩) room fuse down) ∧
      (∀ x, (dA vs room fuse down).setIfInBounds (i * 4 + 2) x = dA (vs.set i ⟨vs[i].kv, vs[i].nv, x, vs[i].nd⟩) room fuse down) ∧ (∀ n : Nat, (dA vs room fuse down).setIfInBounds (i * 4 + 3) (.int .i64 (n : Int)) = dA (vs.set i ⟨vs[i].kv, vs[i].nv, vs[i].sv, n⟩) room fuse down) := by
  obtain ⟨a, b, c, rfl⟩ := list3 h
  refine ⟨fun f => rfl, fun b => rfl, fun i hi => ?_⟩
  match i, hi with
  | 0, _ => exact ⟨fun _ => rfl, fun _ => rfl, fun _ => rfl, fun _ => rfl⟩
  | 1, _ => exact ⟨fun _ => rfl, fun _ => rfl, fun _ => rfl, fun _ => rfl⟩
  | 2, _ => exact ⟨fun _ => rfl, fun _ => rfl, fun _ => rfl, fun _ => rfl⟩
end Go.Proofs.YtnejjfglkindjaaGreatDoor.Dk
