/- PARTS, JOINED: WHAT THE ROWS OF REPLIES LIST, AND A WORLD THAT MEETS IT: two tables of unicode/utf8. From a walk to the statement, the shape of memory handed on. Conditions: none. LAYER 12: the walk of the reference's NumOf. Conditions: texts of at most 2^40. LAYER 12: the example, and the walks of the laws. Conditions: none. LAYER 12: the walk of HexIds. Conditions: none. PLAIN PART OF SCRIPTS: events, their lines, and whose line a text is. Conditions: none. SCRIPTS IN MEMORY: an event's cells. Conditions: none. WHAT COMES IN, OPENED: a law's argument that can be read as data, as the walks' own readings. No program is named. Conditions: none. SLICES OF STRUCTS, AND A STRUCT COPIED WHOLE INTO A NEW BLOCK. No program is named. Conditions: none. SCRIPTS IN MEMORY: an event's row as it is filled; the kinds' words. Conditions: none. THE WALK OF THE REFERENCE's Same: are two lists of ids the same? Conditions: none. -/
import Derived.Test.YtcddgbobbogpgaaDoorSa1
import Derived.Test.YtcddgbobbogpgaaDoorSa2
import Derived.Test.YtcddgbobbogpgaaDoorRows
import Derived.Test.YtcddgbobbogpgaaDoorCards
import Derived.Test.YtcddgbobbogpgaaDoorTie
import Derived.Lay
import Derived.LaidLaws
import Derived.LaidHandle
import Derived.IntWalk
import Derived.Deep.Slices
import Derived.Deep.MidRow
import Derived.Test.YtcddgbobbogpgaaDoorProg
import Derived.Laws.Tables
namespace Go.Mir
open Go.ChangeShapes Go.WideShapes Go.ChangeAt Go.RowKit
variable {H : Type} {enc : TypeId × Value → H}
theorem law_row_m {C : Checked} {os : Os} {f : FuncId} {fn : Func} {s : ChangeSpec} {F : Stop.Interp} {tb : TypeId} {conds : List PathCond} {laid : List (String × DataW Unit)}
    (own : ownKnob C.prog.godebug = none) (started : os.Started) (noInit : C.prog.inits.idxOf? f = none) (hfn : C.prog.funcs[f]? = some fn)
    (witness : ∃ (w : World) (tape : Tape) (i : Input), w.os = os ∧ (w.forCall tape i).Shaped C.prog ∧ i.vars = [] ∧ Input.okWide C.prog (w.forCall tape i) .any w.heap.size f i ∧
      (OpenSpec.ofChange s).preRow enc C.prog fn conds false laid (w.forCall tape i).memory i.args ∧ Assume.holds {} C.prog (lone (Frame.enter C.prog f i.args .normal) [] (w.forCall tape i)))
    (hl : laidOutB C.prog = true) (hr : fn.params.toList.all (fun t => C.prog.readableRec t && decide (t < C.prog.types.size)) = true) (hres : fn.resultTypes = #[tb]) (hb : C.prog.underlying tb = some .bool) (hv : s.vars = [])
    (walk : ∀ (W : World) (base : Nat) (args : Array Value) (ds : List (DataW H)) (p : List MemPlace),
      (∀ (j : Nat) t v, fn.params[j]? = some t → args[j]? = some v → Value.okWide C.prog W .any base t v) →
      DataW.TrodAll enc C.prog W 0 (fun _ => true) true fn.params.toList args.toList ds p → laidMetH C.prog laid W → W.ShapedOpen C.prog →
      s.fn H (ds ++ []) = { results := [.lit (.bool true)], args := ds } ∧ Calls C.prog f args W fun e W' => e = .returned (.bool true) ∧ Below W.heap.size W W') :
    ReturnsInHanded {} C os f .any ((OpenSpec.ofChange s).preRow enc C.prog fn conds false laid) (((OpenSpec.ofChange s).at F).post enc C.prog fn false true false false) := by
  refine returnsInHanded_of_row (C := C) (s := OpenSpec.ofChange s) own started noInit hfn witness ?_
  intro W base args ds gs before hval hW _ _ _ hL hS _
  have hr' : ∀ t ∈ fn.params.toList, C.prog.readableRec t = true ∧ t < C.prog.types.size := fun t ht => by
    have := List.all_eq_true.1 hr t ht; simpa using this
  have hW1 : DataW.Whole enc C.prog fn.params.toList s.vars false W args.toList ds gs before := hW
  obtain ⟨p, q, hA, hV, rfl, hfz, hnd⟩ := id hW1
  rw [hv] at hV
  obtain ⟨rfl, rfl⟩ : gs = [] ∧ q = [] := by
    cases gs with
    | nil => exact ⟨rfl, hV⟩
    | cons g gs => exact hV.elim
  obtain ⟨hs, hc⟩ := walk W base args ds p hval hA hL hS
  refine hc.mono fun e W' ⟨he, bel⟩ => ?_
  subst he
  exact ⟨_, rfl, law_post hl hr' hres hb hv hs hW1 bel⟩
end Go.Mir
namespace Go.Proofs.YtcddgbobbogpgaaDoor.Rpl
open Go.ChangeShapes Go.WideShapes Go.RowKit Go.Mir

theorem own : ownKnob Tryd.prog.godebug = none := by kernel_rfl
theorem laidOut : laidOutB Tryd.prog = true := by kernel_rfl
def laidU : List (String × DataW Unit) := [("unicode/utf8.acceptRanges", Rows.laid_unicode_utf8_acceptRanges), ("unicode/utf8.first", Rows.laid_unicode_utf8_first)]
/-- a world that meets the condition -/
noncomputable def laidWorld (os : Os) : World := World.laidAll Tryd.prog os laidU
theorem laidWorld_met (os : Os) (args : Array Value) : laidMetH Tryd.prog laidU ((laidWorld os).forCall (fun _ _ => 0) ⟨#[], args, []⟩).memory :=
  laidMetH_of_parts (laidMet_laidAll (laid := laidU) args (by kernel_rfl) (by kernel_rfl)) (by kernel_rfl)
end Go.Proofs.YtcddgbobbogpgaaDoor.Rpl

namespace Go.Proofs.YtcddgbobbogpgaaDoor.HexW
open Go.RowKit Bld Go.Mir Go.Mir.Hx Go.Mir.Parts

theorem less_eq (a b : List UInt8) (h : a.length = b.length) (ha : ∀ c ∈ a, isD c) (hb : ∀ c ∈ b, isD c) : (Op.bytesLess a b || a == b) = decide (val a ≤ val b) := by
  have h1 := less_val a b h ha hb
  have h2 := less_val b a h.symm hb ha
  rw [Bool.eq_iff_iff, Bool.or_eq_true, h1, beq_iff_eq, decide_eq_true_eq]
  constructor
  · rintro (h | h)
    · omega
    · rw [h]; exact Nat.le_refl _
  · intro hle
    by_cases he : val a = val b
    · refine .inr ?_
      clear h1 h2
      induction a generalizing b with
      | nil => cases b with
        | nil => rfl
        | cons y b => simp at h
      | cons x a ih => cases b with
        | nil => simp at h
        | cons y b =>
          have hl : a.length = b.length := by simpa using h
          have va := val_lt a (fun c hc => ha c (by simp [hc]))
          have vb := val_lt b (fun c hc => hb c (by simp [hc]))
          have hx := ha x (by simp)
          have hy := hb y (by simp)
          unfold isD at hx hy
          rw [val_cons, val_cons, ← hl] at he
          rw [← hl] at vb
          have hxy : x.toNat - 48 = y.toNat - 48 := by
            have h1 := congrArg (· / 10 ^ a.length) he
            have hp : 0 < 10 ^ a.length := by omega
            rw [Nat.add_comm, Nat.add_mul_div_right _ _ hp, Nat.div_eq_of_lt va, Nat.add_comm _ (val b), Nat.add_mul_div_right _ _ hp, Nat.div_eq_of_lt vb] at h1
            omega
          have : x = y := UInt8.toNat_inj.1 (by omega)
          subst this
          rw [ih b hl (fun c hc => ha c (by simp [hc])) (fun c hc => hb c (by simp [hc])) (by omega) (by omega)]
    · exact .inl (by omega)

set_option maxRecDepth 100000 in
set_option maxHeartbeats 400000 in
theorem rNumOf_any (l : List UInt8) (most : Nat) (w : World) (hl : l.length ≤ 1099511627776) (hm : most < 18446744073709551616) :
    Calls Tryd.prog 61 #[.string (S l), .int .u64 (most : Int)] w (NumP l most w) := by
  by_cases h0 : l.length = 0
  · have HN : Hid (numOf l most = (0, 4)) := numOf_bad (fun h => h.1 (List.length_eq_zero_iff.1 h0)) most
    have hq : ((l.length : Int) == 0) = true := by rw [beq_iff_eq]; omega
    clear h0
    go_enter Tryd.func61, Tryd.ntmps61
    go_wp2_with fail
    go_ret2
    exact ⟨by rw [HN.out]; rfl, Below.refl _ _⟩
  · have hpos : 0 < l.length := by omega
    have hq : ((l.length : Int) == 0) = false := by rw [beq_eq_false_iff_ne]; omega
    clear h0
    by_cases hz : 1 < l.length ∧ l[0] = 48
    · have HN : Hid (numOf l most = (0, 4)) := numOf_bad (fun h => by
        have := h.2.2 (by rw [List.getElem?_eq_getElem hpos, hz.2]); omega) most
      have hd : decide ((1 : Int) < (l.length : Int)) = true := decide_eq_true (by omega)
      have hb : ((l[0].toNat : Int) == 48) = true := by rw [hz.2]; rfl
      clear hz
      go_enter Tryd.func61, Tryd.ntmps61
      go_wp2_with fail
      go_ret2
      exact ⟨by rw [HN.out]; rfl, Below.refl _ _⟩
    · have HZ : Hid (l[0]? = some 48 → l.length = 1) := fun h => by
        rw [List.getElem?_eq_getElem hpos] at h
        by_cases h1 : 1 < l.length
        · exact absurd ⟨h1, Option.some.inj h⟩ hz
        · omega
      have hb : 1 < l.length → ((l[0].toNat : Int) == 48) = false := fun h1 => by
        rw [beq_eq_false_iff_ne]; intro e
        exact hz ⟨h1, UInt8.toNat_inj.1 (by have h0 : (48 : UInt8).toNat = 48 := rfl; omega)⟩
      clear hz
      by_cases h1 : 1 < l.length
      all_goals
        first
          | have hd1 : decide ((1 : Int) < (l.length : Int)) = true := decide_eq_true (by omega)
          | have hd1 : decide ((1 : Int) < (l.length : Int)) = false := decide_eq_false (by omega)
        first
          | replace hb := hb h1
          | clear hb
        clear h1
        go_enter Tryd.func61, Tryd.ntmps61
        go_wp2_with fail
        go_loop [6] (fun j => ∃ k : Nat, k ≤ l.length ∧ j = .int .i64 k ∧ ∀ c ∈ l.take k, isD c) (fun j => l.length - (intOf j).toNat)
        case atStart => exact ⟨0, by omega, rfl, fun c hc => by simp at hc⟩
        case round =>
          obtain ⟨k, hk, rfl, hdg⟩ := hrel
          have HDG := Lib.hid hdg
          clear hdg
          by_cases hlt : k < l.length
          · have hdk : decide ((k : Int) < (l.length : Int)) = true := decide_eq_true (by omega)
            by_cases hc : isD (l[k]'hlt)
            · have HC := Lib.hid hc
              have b1 : decide (((l[k]'hlt).toNat : Int) < 48) = false := decide_eq_false (by have := hc.1; omega)
              have b2 : decide ((57 : Int) < ((l[k]'hlt).toNat : Int)) = false := decide_eq_false (by have := hc.2; omega)
              clear hc
              go_wp2_with fail
              go_round
              case rel => exact ⟨k + 1, by omega, by go_num, fun c hc => by
                rw [take_snoc l k hlt, List.mem_append, List.mem_singleton] at hc
                rcases hc with hc | hc
                · exact HDG.out c hc
                · rw [hc]; exact HC.out⟩
              case measure => simp [intOf]; omega
            · have HN := Lib.hid (numOf_bad (l := l) (fun h => hc (h.2.1 _ (List.getElem_mem _))) most)
              by_cases h48 : (l[k]'hlt).toNat < 48
              · have b1 : decide (((l[k]'hlt).toNat : Int) < 48) = true := decide_eq_true (by omega)
                clear hc
                go_wp2_with fail
                go_ret2
                exact ⟨by rw [HN.out]; rfl, Below.refl _ _⟩
              · have b1 : decide (((l[k]'hlt).toNat : Int) < 48) = false := decide_eq_false (by omega)
                have b2 : decide ((57 : Int) < ((l[k]'hlt).toNat : Int)) = true := decide_eq_true (by unfold isD at hc; omega)
                clear hc
                go_wp2_with fail
                go_ret2
                exact ⟨by rw [HN.out]; rfl, Below.refl _ _⟩
          · obtain rfl : k = l.length := by omega
            have HNI : Hid (Nice l) := ⟨fun e => by rw [e] at hpos; simp at hpos, fun c hc => HDG.out c (by rw [List.take_length]; exact hc), HZ.out⟩
            have HTG := Lib.hid (too_great l most HNI.out)
            have HLE : Hid ((decL most).length = l.length → (Op.bytesLess l (decL most) || l == decL most) = decide (val l ≤ most)) := fun h => by
              rw [less_eq l _ h.symm HNI.out.2.1 (dec_digits most), val_dec]
            have hdl := dec_len most hm
            have hdk : decide ((l.length : Int) < (l.length : Int)) = false := decide_eq_false (by omega)
            go_wp2_with fail
            refine (rNum_any most hm _).mono ?_
            rintro e w' ⟨rfl, rfl⟩
            generalize decL most = T at *
            by_cases hlong : T.length < l.length
            · have HN := Lib.hid (numOf_many HNI.out (HTG.out.1 (.inl hlong)))
              go_wp2_with fail
              go_ret2
              exact ⟨by rw [HN.out]; rfl, Below.refl _ _⟩
            · by_cases hsame : T.length = l.length
              · have hcmp := HLE.out hsame
                have hleq : ((l.length : Int) == (T.length : Int)) = true := by rw [beq_iff_eq]; omega
                have hgt : decide ((T.length : Int) < (l.length : Int)) = false := decide_eq_false (by omega)
                by_cases hsm : val l ≤ most
                · rw [decide_eq_true hsm] at hcmp
                  clear hsame
                  have HN := Lib.hid (numOf_ok HNI.out hsm)
                  go_wp2_with fail
                  go_loop [8, 9] (fun n j => ∃ k : Nat, k ≤ l.length ∧ j = .int .i64 k ∧ n = .int .u64 ((val (l.take k) : Nat) : Int)) (fun _ j => l.length - (intOf j).toNat)
                  case atStart => exact ⟨0, by omega, rfl, rfl⟩
                  case round =>
                    obtain ⟨k, hk, rfl, rfl⟩ := hrel
                    by_cases hlt : k < l.length
                    · have hdk : decide ((k : Int) < (l.length : Int)) = true := decide_eq_true (by omega)
                      have hc := HNI.out.2.1 (l[k]'hlt) (List.getElem_mem _)
                      unfold isD at hc
                      obtain ⟨hc1, hc2⟩ := hc
                      have HV := Lib.hid (val_snoc (l.take k) (l[k]'hlt))
                      have hv2 := val_mono l (k + 1)
                      rw [take_snoc l k hlt, HV.out] at hv2
                      have HTK := Lib.hid (take_snoc l k hlt)
                      obtain ⟨d, hd⟩ : ∃ d, (l[k]'hlt).toNat = 48 + d := ⟨(l[k]'hlt).toNat - 48, by omega⟩
                      have HD := Lib.hid hd
                      have hbd : 10 * val (l.take k) + d ≤ most ∧ d ≤ 9 := by omega
                      clear hv2 hd
                      generalize hX : val (l.take k) = X at *
                      have HX := Lib.hid hX
                      clear hX
                      go_wp2_with fail
                      go_round
                      case rel => exact ⟨k + 1, by omega, by go_num, by rw [HTK.out, HV.out, HD.out, IntWalk.u64_in _ (by omega)]; go_num⟩
                      case measure => simp [intOf]; omega
                    · obtain rfl : k = l.length := by omega
                      have hdk : decide ((l.length : Int) < (l.length : Int)) = false := decide_eq_false (by omega)
                      rw [List.take_length]
                      go_wp2_with fail
                      go_ret2
                      exact ⟨by rw [HN.out]; rfl, Below.refl _ _⟩
                · rw [decide_eq_false hsm] at hcmp
                  have HN := Lib.hid (numOf_many HNI.out (show most < val l by omega))
                  clear hsame
                  go_wp2_with fail
                  go_ret2
                  exact ⟨by rw [HN.out]; rfl, Below.refl _ _⟩
              · have hleq : ((l.length : Int) == (T.length : Int)) = false := by rw [beq_eq_false_iff_ne]; omega
                have hgt : decide ((T.length : Int) < (l.length : Int)) = false := decide_eq_false (by omega)
                have hsm : val l ≤ most := by
                  by_cases h : val l ≤ most
                  · exact h
                  · rcases HTG.out.2 (by omega) with h2 | h2
                    · omega
                    · omega
                clear hsame
                have HN := Lib.hid (numOf_ok HNI.out hsm)
                go_wp2_with fail
                go_loop [8, 9] (fun n j => ∃ k : Nat, k ≤ l.length ∧ j = .int .i64 k ∧ n = .int .u64 ((val (l.take k) : Nat) : Int)) (fun _ j => l.length - (intOf j).toNat)
                case atStart => exact ⟨0, by omega, rfl, rfl⟩
                case round =>
                  obtain ⟨k, hk, rfl, rfl⟩ := hrel
                  by_cases hlt : k < l.length
                  · have hdk : decide ((k : Int) < (l.length : Int)) = true := decide_eq_true (by omega)
                    have hc := HNI.out.2.1 (l[k]'hlt) (List.getElem_mem _)
                    unfold isD at hc
                    obtain ⟨hc1, hc2⟩ := hc
                    have HV := Lib.hid (val_snoc (l.take k) (l[k]'hlt))
                    have hv2 := val_mono l (k + 1)
                    rw [take_snoc l k hlt, HV.out] at hv2
                    have HTK := Lib.hid (take_snoc l k hlt)
                    obtain ⟨d, hd⟩ : ∃ d, (l[k]'hlt).toNat = 48 + d := ⟨(l[k]'hlt).toNat - 48, by omega⟩
                    have HD := Lib.hid hd
                    have hbd : 10 * val (l.take k) + d ≤ most ∧ d ≤ 9 := by omega
                    clear hv2 hd
                    generalize hX : val (l.take k) = X at *
                    have HX := Lib.hid hX
                    clear hX
                    go_wp2_with fail
                    go_round
                    case rel => exact ⟨k + 1, by omega, by go_num, by rw [HTK.out, HV.out, HD.out, IntWalk.u64_in _ (by omega)]; go_num⟩
                    case measure => simp [intOf]; omega
                  · obtain rfl : k = l.length := by omega
                    have hdk : decide ((l.length : Int) < (l.length : Int)) = false := decide_eq_false (by omega)
                    rw [List.take_length]
                    go_wp2_with fail
                    go_ret2
                    exact ⟨by rw [HN.out]; rfl, Below.refl _ _⟩
end Go.Proofs.YtcddgbobbogpgaaDoor.HexW

namespace Go.Proofs.YtcddgbobbogpgaaDoor.HexW
open Go.RowKit Bld Go.Mir Go.Mir.Hx Go.Mir.Parts

/-! ### HexBytes -/
theorem cv {w : World} {p : Option Addr} {n c : Nat} {l : List UInt8} (h : Bs w p n c l) : (convert 23 9 (.slice p n c)).run Tryd.prog w = .ok (.string (S l)) w :=
  run_conv 23 9 5 Tryd.underlying23 Tryd.underlying5 Tryd.underlying9 h
end Go.Proofs.YtcddgbobbogpgaaDoor.HexW

namespace Go.Proofs.YtcddgbobbogpgaaDoor.HexW
open Go.RowKit Bld Go.Mir Go.Mir.Hx Go.Mir.Parts

theorem idL_text (x : List UInt8) (h : x.length = 32) : idL (idText x) = some x := by
  have hb := trimN_bounds x 32
  have hr : readL (idText x) = some (x.take (trimN x 32)) := readL_pairs _
  have hl : (x.take (trimN x 32)).length = trimN x 32 := by rw [List.length_take]; omega
  have hne : idText x ≠ [] := fun e => by
    have := congrArg List.length e
    unfold idText at this
    rw [pairsL_length, hl, List.length_nil] at this
    have := hb.2 (by omega); omega
  rw [(id_cases _ _ hr hne).2 (by omega), pad_trim x h, if_pos rfl]
theorem idText_of (l x : List UInt8) (h : idL l = some x) : idText x = l := by
  unfold idL at h
  cases hr : readL l with
  | none => rw [hr] at h; cases h
  | some b =>
    rw [hr] at h
    simp only at h
    split at h
    · cases h
    · rename_i hc
      have hne : l ≠ [] := fun e => hc (.inl (by rw [e] at hr; simp [readL] at hr; exact hr))
      obtain rfl := Option.some.inj h
      have h2 := (id_cases l b hr hne).2 (by
        by_cases h3 : b.length ≤ 32
        · exact h3
        · exact absurd (.inr (.inl (by omega))) hc)
      by_cases h4 : idText (padId b) = l
      · exact h4
      · rw [if_neg h4] at h2
        unfold idL at h2; rw [hr] at h2; simp only at h2; rw [if_neg hc] at h2; cases h2

end Go.Proofs.YtcddgbobbogpgaaDoor.HexW

namespace Go.Proofs.YtcddgbobbogpgaaDoor.Scr
open Go.Mir Go.Mir.Hx HexW Rpl
open Go.Lib (join joinTail)

structure Ev where
  k : Int
  b : List UInt8
  h : List UInt8
  p : List UInt8
  tx : List (List UInt8)
  id : List UInt8
  n : Int
  u0 : Int
  u1 : Int
  u2 : Int
deriving DecidableEq
def i64B (x : Int) : Prop := -9223372036854775808 ≤ x ∧ x ≤ 9223372036854775807
structure Ev.Wf (e : Ev) : Prop where
  h : e.h.length = 32
  p : e.p.length = 32
  id : e.id.length = 32
  tx : ∀ x ∈ e.tx, x.length = 32
  k : i64B e.k
  n : i64B e.n
  u0 : i64B e.u0
  u1 : i64B e.u1
  u2 : i64B e.u2
def Ev.zero (k : Int) : Ev := ⟨k, [], zeros, zeros, [], zeros, 0, 0, 0, 0⟩
def only (e : Ev) : Ev :=
  if e.k = 1 then ⟨e.k, e.b, zeros, zeros, [], zeros, 0, 0, 0, 0⟩ else if e.k = 2 then ⟨e.k, [], e.h, e.p, e.tx, zeros, 0, 0, 0, 0⟩
  else if e.k = 3 ∨ e.k = 4 then ⟨e.k, [], zeros, zeros, [], e.id, 0, 0, 0, 0⟩ else if e.k = 5 then ⟨e.k, [], zeros, zeros, [], zeros, e.n, 0, 0, 0⟩
  else ⟨e.k, [], zeros, zeros, [], zeros, e.n, e.u0, e.u1, e.u2⟩
def K6 : List (List UInt8) := [[], [102, 114, 97, 109, 101], [99, 111, 110, 110, 101, 99, 116], [100, 105, 115, 99, 111, 110, 110, 101, 99, 116], [101, 118, 105, 99, 116], [97, 114, 109], [114, 101, 115, 116, 97, 114, 116]]
def okN (x : Int) : Prop := 0 ≤ x ∧ x ≤ 65535
instance (x : Int) : Decidable (okN x) := by unfold okN; infer_instance
def numsE (e : Ev) : List Int := if e.k = 5 then [e.n] else [e.n, e.u0, e.u1, e.u2]
def restE (e : Ev) : List (List UInt8) :=
  if e.k = 1 then [textL e.b] else if e.k = 2 then idText e.h :: idText e.p :: e.tx.map idText
  else if e.k = 5 ∨ e.k = 6 then (numsE e).map (fun x => decL x.toNat) else [idText e.id]
def wordsE (e : Ev) : List (List UInt8) := K6.getD e.k.toNat [] :: restE e
/-- may the event be told? -/
def Good (e : Ev) : Prop := (1 ≤ e.k ∧ e.k ≤ 6) ∧ e = only e ∧ ((e.k = 5 ∨ e.k = 6) → ∀ x ∈ numsE e, okN x)
instance (e : Ev) : Decidable (Good e) := by unfold Good; infer_instance
def lineE (e : Ev) : List UInt8 := if Good e then join (wordsE e) [32] else []
/-! ### read -/
def idsB (ws : List (List UInt8)) : Option (List (List UInt8)) := if ∀ x ∈ ws, (idL x).isSome = true then some (ws.map fun x => (idL x).getD zeros) else none
def numsM (most : Nat) (ws : List (List UInt8)) : Option (List Nat) := if ∀ x ∈ ws, (numOf x most).2 = 0 then some (ws.map fun x => (numOf x most).1) else none
def kindB (s : List UInt8) : Nat :=
  if s = [102, 114, 97, 109, 101] then 1 else if s = [99, 111, 110, 110, 101, 99, 116] then 2 else if s = [100, 105, 115, 99, 111, 110, 110, 101, 99, 116] then 3
  else if s = [101, 118, 105, 99, 116] then 4 else if s = [97, 114, 109] then 5 else if s = [114, 101, 115, 116, 97, 114, 116] then 6 else 0
def readK (k : Nat) (r : List (List UInt8)) : Option Ev :=
  if k = 1 then (if r.length = 1 then (bytesL (r.getD 0 [])).map (fun b => ⟨1, b, zeros, zeros, [], zeros, 0, 0, 0, 0⟩) else none)
  else if k = 2 then (idsB r).bind fun l => if 2 ≤ l.length then some ⟨2, [], l.getD 0 [], l.getD 1 [], l.drop 2, zeros, 0, 0, 0, 0⟩ else none
  else if k = 3 ∨ k = 4 then (idsB r).bind fun l => if l.length = 1 then some ⟨(k : Int), [], zeros, zeros, [], l.getD 0 [], 0, 0, 0, 0⟩ else none
  else if k = 5 then (if r.length = 1 then (numsM 65535 r).map fun l => ⟨5, [], zeros, zeros, [], zeros, (l.getD 0 0 : Nat), 0, 0, 0⟩ else none)
  else if k = 6 then (if r.length = 4 then (numsM 65535 r).map fun l => ⟨6, [], zeros, zeros, [], zeros, (l.getD 0 0 : Nat), (l.getD 1 0 : Nat), (l.getD 2 0 : Nat), (l.getD 3 0 : Nat)⟩ else none)
  else none
def readW (ws : List (List UInt8)) : Option Ev := readK (kindB (ws.getD 0 [])) (ws.drop 1)
def readE (s : List UInt8) : Option Ev := readW (sp s)
/-! ### no blank stands in a word -/
theorem sgn_no32 (n : Nat) (h : n < 16) : sgn n ≠ 32 := fun e => by
  have := congrArg UInt8.toNat e
  rw [sgn_toNat n h] at this
  have h32 : (32 : UInt8).toNat = 32 := rfl
  rw [h32] at this
  split at this <;> omega
theorem pairs_no32 (b : List UInt8) : (32 : UInt8) ∉ pairsL b := fun h => by
  unfold pairsL at h
  obtain ⟨x, _, hx⟩ := List.mem_flatMap.1 h
  have hl := x.toNat_lt
  rcases List.mem_cons.1 hx with hx | hx
  · exact sgn_no32 _ (by omega) hx.symm
  · rw [List.mem_singleton] at hx
    exact sgn_no32 _ (by omega) hx.symm
theorem text_no32 (b : List UInt8) : (32 : UInt8) ∉ textL b := by
  unfold textL
  split
  · decide
  · exact pairs_no32 b
theorem id_no32 (x : List UInt8) : (32 : UInt8) ∉ idText x := pairs_no32 _
theorem k6_no32 : ∀ x ∈ K6, (32 : UInt8) ∉ x := by decide
theorem getD_no32 (i : Nat) : (32 : UInt8) ∉ K6.getD i [] := by
  by_cases h : i < K6.length
  · rw [List.getD_eq_getElem?_getD, List.getElem?_eq_getElem h]
    exact k6_no32 _ (List.getElem_mem h)
  · rw [List.getD_eq_getElem?_getD, List.getElem?_eq_none (by omega)]; decide
theorem rest_no32 (e : Ev) : ∀ x ∈ restE e, (32 : UInt8) ∉ x := fun x hx => by
  unfold restE at hx
  split at hx
  · rw [List.mem_singleton] at hx; rw [hx]; exact text_no32 _
  · split at hx
    · rcases List.mem_cons.1 hx with rfl | hx
      · exact id_no32 _
      · rcases List.mem_cons.1 hx with rfl | hx
        · exact id_no32 _
        · obtain ⟨y, _, rfl⟩ := List.mem_map.1 hx
          exact id_no32 _
    · split at hx
      · obtain ⟨y, _, rfl⟩ := List.mem_map.1 hx
        exact dec_no32 _
      · rw [List.mem_singleton] at hx; rw [hx]; exact id_no32 _
theorem words_no (e : Ev) : ∀ x ∈ wordsE e, (32 : UInt8) ∉ x := fun x hx => by
  rcases List.mem_cons.1 hx with rfl | hx
  · exact getD_no32 _
  · exact rest_no32 e x hx
/-! ### there and back -/
theorem ids_text {l : List (List UInt8)} (h : ∀ x ∈ l, x.length = 32) : idsB (l.map idText) = some l := by
  unfold idsB
  rw [if_pos (fun y hy => by
    obtain ⟨x, hx, rfl⟩ := List.mem_map.1 hy
    rw [idL_text x (h x hx)]; rfl), List.map_map]
  congr 1
  conv => rhs; rw [← List.map_id l]
  refine List.map_congr_left fun x hx => ?_
  show (idL (idText x)).getD zeros = x
  rw [idL_text x (h x hx)]; rfl
theorem ids_back {ws l : List (List UInt8)} (h : idsB ws = some l) : l.map idText = ws ∧ l.length = ws.length ∧ ∀ x ∈ l, x.length = 32 := by
  unfold idsB at h
  split at h
  · rename_i hx
    obtain rfl := Option.some.inj h
    refine ⟨?_, by rw [List.length_map], fun x hm => ?_⟩
    · rw [List.map_map]
      conv => rhs; rw [← List.map_id ws]
      refine List.map_congr_left fun x hm => ?_
      obtain ⟨y, hy⟩ := Option.isSome_iff_exists.1 (hx x hm)
      show idText ((idL x).getD zeros) = x
      rw [hy]; exact idText_of x y hy
    · obtain ⟨y, hy, rfl⟩ := List.mem_map.1 hm
      obtain ⟨z, hz⟩ := Option.isSome_iff_exists.1 (hx y hy)
      rw [hz]
      show z.length = 32
      unfold idL at hz
      cases hr : readL y with
      | none => rw [hr] at hz; cases hz
      | some b =>
        rw [hr] at hz
        simp only at hz
        split at hz
        · cases hz
        · rename_i hc
          obtain rfl := Option.some.inj hz
          exact padId_length b (by
            by_cases h3 : b.length ≤ 32
            · exact h3
            · exact absurd (.inr (.inl (by omega))) hc)
  · cases h
theorem nums_text {l : List Int} {most : Nat} (h : ∀ x ∈ l, 0 ≤ x ∧ x ≤ (most : Int)) : numsM most (l.map fun x => decL x.toNat) = some (l.map Int.toNat) := by
  unfold numsM
  rw [if_pos (fun y hy => by
    obtain ⟨x, hx, rfl⟩ := List.mem_map.1 hy
    have := h x hx
    rw [numOf_dec _ _ (by omega)]), List.map_map]
  congr 1
  refine List.map_congr_left fun x hx => ?_
  have := h x hx
  show (numOf (decL x.toNat) most).1 = x.toNat
  rw [numOf_dec _ _ (by omega)]
theorem numsM_back {ws : List (List UInt8)} {most : Nat} {l : List Nat} (h : numsM most ws = some l) : l.map decL = ws ∧ (∀ n ∈ l, n ≤ most) ∧ l.length = ws.length := by
  unfold numsM at h
  split at h
  · rename_i hx
    obtain rfl := Option.some.inj h
    refine ⟨?_, fun n hn => ?_, by rw [List.length_map]⟩
    · rw [List.map_map]
      conv => rhs; rw [← List.map_id ws]
      exact List.map_congr_left fun x hm => (numOf_back (hx x hm)).1
    · obtain ⟨x, hm, rfl⟩ := List.mem_map.1 hn
      exact (numOf_back (hx x hm)).2
  · cases h
theorem read_words {e : Ev} (h : Good e) (hw : e.Wf) : readW (wordsE e) = some e := by
  obtain ⟨k, b, hh, p, tx, id, n, u0, u1, u2⟩ := e
  obtain ⟨⟨h1, h2⟩, ho, hn⟩ := h
  have h1 : 1 ≤ k := h1
  have h2 : k ≤ 6 := h2
  have hk : k = 1 ∨ k = 2 ∨ k = 3 ∨ k = 4 ∨ k = 5 ∨ k = 6 := by omega
  rcases hk with rfl | rfl | rfl | rfl | rfl | rfl
  · have ho : (⟨1, b, hh, p, tx, id, n, u0, u1, u2⟩ : Ev) = ⟨1, b, zeros, zeros, [], zeros, 0, 0, 0, 0⟩ := ho
    injection ho with _ _ e1 e2 e3 e4 e5 e6 e7 e8
    subst e1 e2 e3 e4 e5 e6 e7 e8
    show (if 1 = 1 then (bytesL (textL b)).map _ else none) = _
    rw [if_pos rfl, bytes_text]; rfl
  · have ho : (⟨2, b, hh, p, tx, id, n, u0, u1, u2⟩ : Ev) = ⟨2, [], hh, p, tx, zeros, 0, 0, 0, 0⟩ := ho
    injection ho with _ e0 _ _ _ e4 e5 e6 e7 e8
    subst e0 e4 e5 e6 e7 e8
    show (idsB ((hh :: p :: tx).map idText)).bind _ = _
    rw [ids_text (fun x hx => by
      rcases List.mem_cons.1 hx with rfl | hx
      · exact hw.h
      · rcases List.mem_cons.1 hx with rfl | hx
        · exact hw.p
        · exact hw.tx x hx)]
    show (if 2 ≤ tx.length + 1 + 1 then some (Ev.mk 2 [] hh p tx zeros 0 0 0 0) else none) = _
    rw [if_pos (by omega)]
  · have ho : (⟨3, b, hh, p, tx, id, n, u0, u1, u2⟩ : Ev) = ⟨3, [], zeros, zeros, [], id, 0, 0, 0, 0⟩ := ho
    injection ho with _ e0 e1 e2 e3 _ e5 e6 e7 e8
    subst e0 e1 e2 e3 e5 e6 e7 e8
    show (idsB ([id].map idText)).bind _ = _
    rw [ids_text (fun x hx => by rw [List.mem_singleton] at hx; rw [hx]; exact hw.id)]
    rfl
  · have ho : (⟨4, b, hh, p, tx, id, n, u0, u1, u2⟩ : Ev) = ⟨4, [], zeros, zeros, [], id, 0, 0, 0, 0⟩ := ho
    injection ho with _ e0 e1 e2 e3 _ e5 e6 e7 e8
    subst e0 e1 e2 e3 e5 e6 e7 e8
    show (idsB ([id].map idText)).bind _ = _
    rw [ids_text (fun x hx => by rw [List.mem_singleton] at hx; rw [hx]; exact hw.id)]
    rfl
  · have ho : (⟨5, b, hh, p, tx, id, n, u0, u1, u2⟩ : Ev) = ⟨5, [], zeros, zeros, [], zeros, n, 0, 0, 0⟩ := ho
    injection ho with _ e0 e1 e2 e3 e4 _ e6 e7 e8
    subst e0 e1 e2 e3 e4 e6 e7 e8
    have hn : ∀ x ∈ [n], okN x := hn (.inl rfl)
    have n1 := hn n (by simp)
    show (if 1 = 1 then (numsM 65535 ([n].map fun x => decL x.toNat)).map _ else none) = _
    rw [if_pos rfl, nums_text (fun x hx => by have := hn x hx; unfold okN at this; omega)]
    unfold okN at n1
    show some (Ev.mk 5 [] zeros zeros [] zeros ((n.toNat : Nat) : Int) 0 0 0) = _
    rw [show ((n.toNat : Nat) : Int) = n by omega]
  · have ho : (⟨6, b, hh, p, tx, id, n, u0, u1, u2⟩ : Ev) = ⟨6, [], zeros, zeros, [], zeros, n, u0, u1, u2⟩ := ho
    injection ho with _ e0 e1 e2 e3 e4 _ _ _ _
    subst e0 e1 e2 e3 e4
    have hn : ∀ x ∈ [n, u0, u1, u2], okN x := hn (.inr rfl)
    have n1 := hn n (by simp)
    have n2 := hn u0 (by simp)
    have n3 := hn u1 (by simp)
    have n4 := hn u2 (by simp)
    show (if 4 = 4 then (numsM 65535 ([n, u0, u1, u2].map fun x => decL x.toNat)).map _ else none) = _
    rw [if_pos rfl, nums_text (fun x hx => by have := hn x hx; unfold okN at this; omega)]
    unfold okN at n1 n2 n3 n4
    show some (Ev.mk 6 [] zeros zeros [] zeros ((n.toNat : Nat) : Int) ((u0.toNat : Nat) : Int) ((u1.toNat : Nat) : Int) ((u2.toNat : Nat) : Int)) = _
    rw [show ((n.toNat : Nat) : Int) = n by omega, show ((u0.toNat : Nat) : Int) = u0 by omega, show ((u1.toNat : Nat) : Int) = u1 by omega, show ((u2.toNat : Nat) : Int) = u2 by omega]
theorem read_line {e : Ev} (h : Good e) (hw : e.Wf) : readE (lineE e) = some e := by
  unfold readE lineE
  rw [if_pos h, sp_join _ (by unfold wordsE; simp) (words_no e)]
  exact read_words h hw
theorem kind_name {s : List UInt8} {k : Nat} (h : kindB s = k) (h0 : k ≠ 0) : K6.getD k [] = s ∧ k ≤ 6 := by
  unfold kindB at h
  split at h
  · rename_i e; subst h; exact ⟨e.symm, by omega⟩
  · split at h
    · rename_i e; subst h; exact ⟨e.symm, by omega⟩
    · split at h
      · rename_i e; subst h; exact ⟨e.symm, by omega⟩
      · split at h
        · rename_i e; subst h; exact ⟨e.symm, by omega⟩
        · split at h
          · rename_i e; subst h; exact ⟨e.symm, by omega⟩
          · split at h
            · rename_i e; subst h; exact ⟨e.symm, by omega⟩
            · exact absurd h.symm h0
theorem small_i64 {x : Int} (h : 0 ≤ x ∧ x ≤ 65535) : i64B x := by unfold i64B; omega
theorem wfz {k n u0 u1 u2 : Int} {b h p id : List UInt8} {tx : List (List UInt8)} (hh : h.length = 32) (hp : p.length = 32) (hi : id.length = 32) (ht : ∀ x ∈ tx, x.length = 32) (hk : 0 ≤ k ∧ k ≤ 65535) (hn : 0 ≤ n ∧ n ≤ 65535) (h0 : 0 ≤ u0 ∧ u0 ≤ 65535) (h1 : 0 ≤ u1 ∧ u1 ≤ 65535) (h2 : 0 ≤ u2 ∧ u2 ≤ 65535) : Ev.Wf ⟨k, b, h, p, tx, id, n, u0, u1, u2⟩ :=
  ⟨hh, hp, hi, ht, small_i64 hk, small_i64 hn, small_i64 h0, small_i64 h1, small_i64 h2⟩
theorem good_k {e : Ev} {k : Int} (hk : e.k = k) (h : 1 ≤ k ∧ k ≤ 4) (ho : e = only e) : Good e := ⟨by rw [hk]; omega, ho, fun hh => by rw [hk] at hh; omega⟩
theorem no_tx : ∀ x ∈ ([] : List (List UInt8)), x.length = 32 := fun _ h => nomatch h
theorem read_back {ws : List (List UInt8)} {e : Ev} (h : readW ws = some e) (hws : ws ≠ []) : wordsE e = ws ∧ Good e ∧ e.Wf := by
  obtain ⟨w0, r, rfl⟩ : ∃ a b, ws = a :: b := by
    cases ws with
    | nil => exact absurd rfl hws
    | cons a b => exact ⟨a, b, rfl⟩
  have h : readK (kindB w0) r = some e := h
  obtain ⟨k, hk⟩ : ∃ k, kindB w0 = k := ⟨_, rfl⟩
  rw [hk] at h
  unfold readK at h
  by_cases k1 : k = 1
  · rw [if_pos k1] at h
    split at h
    · rename_i hl
      obtain ⟨b, hb, rfl⟩ := Option.map_eq_some_iff.1 h
      subst k1
      obtain ⟨x, rfl⟩ := List.length_eq_one_iff.1 hl
      have hb : bytesL x = some b := hb
      refine ⟨?_, good_k (k := 1) rfl (by omega) rfl, wfz rfl rfl rfl no_tx (by omega) (by omega) (by omega) (by omega) (by omega)⟩
      show K6.getD 1 [] :: [textL b] = _
      rw [(kind_name hk (by decide)).1, text_bytes x b hb]
    · cases h
  · rw [if_neg k1] at h
    by_cases k2 : k = 2
    · rw [if_pos k2] at h
      obtain ⟨l, hl, h⟩ := Option.bind_eq_some_iff.1 h
      split at h
      · rename_i h2
        obtain rfl := Option.some.inj h
        subst k2
        obtain ⟨g1, g2, g3⟩ := ids_back hl
        match l, h2 with
        | a :: b :: t, _ =>
          have ha := g3 a (by simp)
          have hb := g3 b (by simp)
          refine ⟨?_, good_k (k := 2) rfl (by omega) rfl, wfz ha hb rfl (fun x hx => g3 x (List.mem_cons_of_mem _ (List.mem_cons_of_mem _ hx))) (by omega) (by omega) (by omega) (by omega) (by omega)⟩
          show K6.getD 2 [] :: ((a :: b :: t).map idText) = _
          rw [(kind_name hk (by decide)).1, g1]
      · cases h
    · rw [if_neg k2] at h
      by_cases k3 : k = 3 ∨ k = 4
      · rw [if_pos k3] at h
        obtain ⟨l, hl, h⟩ := Option.bind_eq_some_iff.1 h
        split at h
        · rename_i h1
          obtain rfl := Option.some.inj h
          obtain ⟨g1, g2, g3⟩ := ids_back hl
          obtain ⟨x, rfl⟩ := List.length_eq_one_iff.1 h1
          have hx := g3 x (by simp)
          rcases k3 with rfl | rfl
          · refine ⟨?_, good_k (k := 3) rfl (by omega) rfl, wfz rfl rfl hx no_tx (by omega) (by omega) (by omega) (by omega) (by omega)⟩
            show K6.getD 3 [] :: ([x].map idText) = _
            rw [(kind_name hk (by decide)).1, g1]
          · refine ⟨?_, good_k (k := 4) rfl (by omega) rfl, wfz rfl rfl hx no_tx (by omega) (by omega) (by omega) (by omega) (by omega)⟩
            show K6.getD 4 [] :: ([x].map idText) = _
            rw [(kind_name hk (by decide)).1, g1]
        · cases h
      · rw [if_neg k3] at h
        by_cases k5 : k = 5
        · rw [if_pos k5] at h
          split at h
          · rename_i h1
            obtain ⟨l, hl, rfl⟩ := Option.map_eq_some_iff.1 h
            subst k5
            obtain ⟨g1, g2, g3⟩ := numsM_back hl
            obtain ⟨x, rfl⟩ := List.length_eq_one_iff.1 (g3.trans h1)
            have hx := g2 x (by simp)
            have hok : okN (x : Int) := by unfold okN; omega
            refine ⟨?_, ⟨⟨show (1 : Int) ≤ 5 by decide, show (5 : Int) ≤ 6 by decide⟩, rfl, fun _ y hy => ?_⟩, wfz rfl rfl rfl no_tx (by omega) hok (by omega) (by omega) (by omega)⟩
            · show K6.getD 5 [] :: ([(x : Int)].map fun x => decL x.toNat) = _
              rw [(kind_name hk (by decide)).1, ← g1]; rfl
            · have hy : y ∈ [(x : Int)] := hy
              rw [List.mem_singleton] at hy
              rw [hy]; exact hok
          · cases h
        · rw [if_neg k5] at h
          by_cases k6 : k = 6
          · rw [if_pos k6] at h
            split at h
            · rename_i h1
              obtain ⟨l, hl, rfl⟩ := Option.map_eq_some_iff.1 h
              subst k6
              obtain ⟨g1, g2, g3⟩ := numsM_back hl
              have hl4 : l.length = 4 := g3.trans h1
              match l, hl4 with
              | [a, b, c, d], _ =>
                have o1 : okN (a : Int) := by have := g2 a (by simp); unfold okN; omega
                have o2 : okN (b : Int) := by have := g2 b (by simp); unfold okN; omega
                have o3 : okN (c : Int) := by have := g2 c (by simp); unfold okN; omega
                have o4 : okN (d : Int) := by have := g2 d (by simp); unfold okN; omega
                refine ⟨?_, ⟨⟨show (1 : Int) ≤ 6 by decide, show (6 : Int) ≤ 6 by decide⟩, rfl, fun _ y hy => ?_⟩, wfz rfl rfl rfl no_tx (by omega) o1 o2 o3 o4⟩
                · show K6.getD 6 [] :: ([(a : Int), (b : Int), (c : Int), (d : Int)].map fun x => decL x.toNat) = _
                  rw [(kind_name hk (by decide)).1, ← g1]; rfl
                · have hy : y ∈ [(a : Int), (b : Int), (c : Int), (d : Int)] := hy
                  simp only [List.mem_cons, List.not_mem_nil, or_false] at hy
                  rcases hy with rfl | rfl | rfl | rfl
                  · exact o1
                  · exact o2
                  · exact o3
                  · exact o4
            · cases h
          · rw [if_neg k6] at h; cases h
theorem line_read {s : List UInt8} {e : Ev} (h : readE s = some e) : lineE e = s ∧ Good e ∧ e.Wf := by
  obtain ⟨h1, h2, h3⟩ := read_back h (sp_ne s)
  refine ⟨?_, h2, h3⟩
  unfold lineE
  rw [if_pos h2, h1]
  exact join_sp s
end Go.Proofs.YtcddgbobbogpgaaDoor.Scr

namespace Go.Proofs.YtcddgbobbogpgaaDoor.Scr
open Go.RowKit Go.Mir Go.Mir.Hx Go.Mir.Parts HexW Rpl

def u3L (e : Ev) : List Value := [.int .i64 e.u0, .int .i64 e.u1, .int .i64 e.u2]
def evL (e : Ev) (pb : Option Addr) (cb : Nat) (q : Option Addr) (c : Nat) : List Value :=
  Value.int .i64 e.k :: Value.slice pb e.b.length cb :: (bytesV e.h ++ (bytesV e.p ++ (Value.slice q e.tx.length c :: (bytesV e.id ++ (Value.int .i64 e.n :: u3L e)))))
def evA (e : Ev) (pb : Option Addr) (cb : Nat) (q : Option Addr) (c : Nat) : Array Value := (evL e pb cb q c).toArray
structure EvAt (w : World) (e : Ev) (pb : Option Addr) (cb : Nat) (q : Option Addr) (c : Nat) : Prop where
  wf : e.Wf
  bs : Bs w pb e.b.length cb e.b
  ids : Is w q e.tx.length c 32 e.tx
theorem EvAt.below {w w' : World} {e : Ev} {pb : Option Addr} {cb : Nat} {q : Option Addr} {c : Nat} (h : EvAt w e pb cb q c) (hb : Below w.heap.size w w') : EvAt w' e pb cb q c := ⟨h.wf, h.bs.below hb, h.ids.below hb⟩
theorem evL_len {e : Ev} (h : e.Wf) (pb : Option Addr) (cb : Nat) (q : Option Addr) (c : Nat) : (evL e pb cb q c).length = 103 := by
  unfold evL u3L
  simp only [List.length_cons, List.length_append, bytesV_length, h.h, h.p, h.id, List.length_nil]
theorem evA_size {e : Ev} (h : e.Wf) (pb : Option Addr) (cb : Nat) (q : Option Addr) (c : Nat) : (evA e pb cb q c).size = 103 := by unfold evA; rw [List.size_toArray, evL_len h]
theorem evA_one (e : Ev) (pb : Option Addr) (cb : Nat) (q : Option Addr) (c : Nat) : (evA e pb cb q c).all (·.oneCell') = true := by
  unfold evA
  refine all_oneCell_toArray fun v hv => ?_
  simp only [evL, u3L, List.mem_append, List.mem_cons, List.not_mem_nil, or_false] at hv
  rcases hv with rfl | rfl | hv | hv | rfl | hv | rfl | rfl | rfl | rfl <;> first | rfl | exact bytesV_one _ _ hv
theorem infoE (n : Nat) (h : n = 103) : (Tryd.prog.info? 31).map (·.size) = some n := by subst h; kernel_rfl
theorem infoF (n : Nat) (h : n = 103) : (Tryd.prog.info? 37).map (·.size) = some n := by subst h; kernel_rfl
theorem infoId (n : Nat) (h : n = 32) : (Tryd.prog.info? 25).map (·.size) = some n := by subst h; kernel_rfl
theorem infoBl (n : Nat) (h : n = 65) : (Tryd.prog.info? 28).map (·.size) = some n := by subst h; kernel_rfl
theorem infoU3 (n : Nat) (h : n = 3) : (Tryd.prog.info? 29).map (·.size) = some n := by subst h; kernel_rfl
def zE : Array Value := evA (Ev.zero 0) none 0 none 0
theorem zeroE (w : World) : (zeroValue 31).run Tryd.prog w = .ok (.agg zE) w := by kernel_rfl
theorem zeroF (w : World) : (zeroValue 37).run Tryd.prog w = .ok (.agg zE) w := by kernel_rfl
theorem zero_wf {k : Int} (h : i64B k) : (Ev.zero k).Wf := ⟨rfl, rfl, rfl, no_tx, h, small_i64 (show (0 : Int) ≤ 0 ∧ (0 : Int) ≤ 65535 by decide), small_i64 (show (0 : Int) ≤ 0 ∧ (0 : Int) ≤ 65535 by decide), small_i64 (show (0 : Int) ≤ 0 ∧ (0 : Int) ≤ 65535 by decide), small_i64 (show (0 : Int) ≤ 0 ∧ (0 : Int) ≤ 65535 by decide)⟩
theorem zE_size : zE.size = 103 := evA_size (zero_wf (show i64B 0 from ⟨by decide, by decide⟩)) none 0 none 0
/-- an event in a row of its own: its parts -/
structure EvC (w : World) (g : Nat) (e : Ev) (pb : Option Addr) (cb : Nat) (q : Option Addr) (c : Nat) : Prop where
  k : w.cell? ⟨g, 0, none⟩ = some (.int .i64 e.k)
  b : w.cell? ⟨g, 1, none⟩ = some (.slice pb e.b.length cb)
  h : w.rangeAt g 2 (idA e.h).toList
  p : w.rangeAt g 34 (idA e.p).toList
  tx : w.cell? ⟨g, 66, none⟩ = some (.slice q e.tx.length c)
  id : w.rangeAt g 67 (idA e.id).toList
  n : w.cell? ⟨g, 99, none⟩ = some (.int .i64 e.n)
  u0 : w.cell? ⟨g, 100, none⟩ = some (.int .i64 e.u0)
  u1 : w.cell? ⟨g, 101, none⟩ = some (.int .i64 e.u1)
  u2 : w.cell? ⟨g, 102, none⟩ = some (.int .i64 e.u2)
  blk : w.rangeAt g 2 (blkA e.h e.p q e.tx.length c).toList
  us : w.rangeAt g 100 (u3L e).toArray.toList
theorem ev_row {w : World} {g : Nat} {e : Ev} {pb : Option Addr} {cb : Nat} {q : Option Addr} {c : Nat} {t : TypeId} {fr : Nat × Nat} (hw : e.Wf) (hr : w.heap[g]? = some (.cells (evA e pb cb q c) t fr)) : EvC w g e pb cb q c := by
  have hM : (evA e pb cb q c).toList = evL e pb cb q c := by unfold evA; rfl
  have R : ∀ (A B C : List Value), evL e pb cb q c = A ++ B ++ C → w.rangeAt g A.length B := fun A B C h => range_row hr A B C (by rw [hM]; exact h)
  have lh : (bytesV e.h).length = 32 := by rw [bytesV_length, hw.h]
  have lp : (bytesV e.p).length = 32 := by rw [bytesV_length, hw.p]
  have li : (bytesV e.id).length = 32 := by rw [bytesV_length, hw.id]
  have one : ∀ {i : Nat} {v : Value}, w.rangeAt g i [v] → w.cell? ⟨g, i, none⟩ = some v := fun {i v} h => h 0 v rfl
  refine ⟨?_, ?_, ?_, ?_, ?_, ?_, ?_, ?_, ?_, ?_, ?_, ?_⟩
  · exact one (R [] [.int .i64 e.k] _ rfl)
  · exact one (R [.int .i64 e.k] [.slice pb e.b.length cb] _ rfl)
  · have := R [.int .i64 e.k, .slice pb e.b.length cb] (bytesV e.h) (bytesV e.p ++ (Value.slice q e.tx.length c :: (bytesV e.id ++ (Value.int .i64 e.n :: u3L e)))) (by unfold evL; simp)
    rw [idA_toList]; exact this
  · have := R ([.int .i64 e.k, .slice pb e.b.length cb] ++ bytesV e.h) (bytesV e.p) (Value.slice q e.tx.length c :: (bytesV e.id ++ (Value.int .i64 e.n :: u3L e))) (by unfold evL; simp)
    rw [List.length_append, lh] at this
    rw [idA_toList]; exact this
  · have := R ([.int .i64 e.k, .slice pb e.b.length cb] ++ bytesV e.h ++ bytesV e.p) [.slice q e.tx.length c] (bytesV e.id ++ (Value.int .i64 e.n :: u3L e)) (by unfold evL; simp)
    rw [List.length_append, List.length_append, lh, lp] at this
    exact one this
  · have := R ([.int .i64 e.k, .slice pb e.b.length cb] ++ bytesV e.h ++ bytesV e.p ++ [.slice q e.tx.length c]) (bytesV e.id) (Value.int .i64 e.n :: u3L e) (by unfold evL; simp)
    rw [List.length_append, List.length_append, List.length_append, lh, lp] at this
    rw [idA_toList]; exact this
  · have := R ([.int .i64 e.k, .slice pb e.b.length cb] ++ bytesV e.h ++ bytesV e.p ++ [.slice q e.tx.length c] ++ bytesV e.id) [.int .i64 e.n] [.int .i64 e.u0, .int .i64 e.u1, .int .i64 e.u2] (by unfold evL u3L; simp)
    simp only [List.length_append, List.length_cons, List.length_nil, lh, lp, li] at this
    exact one this
  · have := R ([.int .i64 e.k, .slice pb e.b.length cb] ++ bytesV e.h ++ bytesV e.p ++ [.slice q e.tx.length c] ++ bytesV e.id ++ [.int .i64 e.n]) [.int .i64 e.u0] [.int .i64 e.u1, .int .i64 e.u2] (by unfold evL u3L; simp)
    simp only [List.length_append, List.length_cons, List.length_nil, lh, lp, li] at this
    exact one this
  · have := R ([.int .i64 e.k, .slice pb e.b.length cb] ++ bytesV e.h ++ bytesV e.p ++ [.slice q e.tx.length c] ++ bytesV e.id ++ [.int .i64 e.n, .int .i64 e.u0]) [.int .i64 e.u1] [.int .i64 e.u2] (by unfold evL u3L; simp)
    simp only [List.length_append, List.length_cons, List.length_nil, lh, lp, li] at this
    exact one this
  · have := R ([.int .i64 e.k, .slice pb e.b.length cb] ++ bytesV e.h ++ bytesV e.p ++ [.slice q e.tx.length c] ++ bytesV e.id ++ [.int .i64 e.n, .int .i64 e.u0, .int .i64 e.u1]) [.int .i64 e.u2] [] (by unfold evL u3L; simp)
    simp only [List.length_append, List.length_cons, List.length_nil, lh, lp, li] at this
    exact one this
  · have := R [.int .i64 e.k, .slice pb e.b.length cb] (bytesV e.h ++ bytesV e.p ++ [.slice q e.tx.length c]) (bytesV e.id ++ (Value.int .i64 e.n :: u3L e)) (by unfold evL; simp)
    rw [blkA_toList]; exact this
  · have := R ([.int .i64 e.k, .slice pb e.b.length cb] ++ bytesV e.h ++ bytesV e.p ++ [.slice q e.tx.length c] ++ bytesV e.id ++ [.int .i64 e.n]) (u3L e) [] (by unfold evL; simp)
    simp only [List.length_append, List.length_cons, List.length_nil, lh, lp, li] at this
    exact this
/-! ### events made -/
theorem built_v (k n u0 u1 u2 : Int) (pb q : Option Addr) (nb cb nq c : Nat) (a0 a1 a2 a3 a4 a5 a6 a7 a8 a9 a10 a11 a12 a13 a14 a15 a16 a17 a18 a19 a20 a21 a22 a23 a24 a25 a26 a27 a28 a29 a30 a31 b0 b1 b2 b3 b4 b5 b6 b7 b8 b9 b10 b11 b12 b13 b14 b15 b16 b17 b18 b19 b20 b21 b22 b23 b24 b25 b26 b27 b28 b29 b30 b31 c0 c1 c2 c3 c4 c5 c6 c7 c8 c9 c10 c11 c12 c13 c14 c15 c16 c17 c18 c19 c20 c21 c22 c23 c24 c25 c26 c27 c28 c29 c30 c31 : Value) : Tryd.prog.built 37 [(0, .int .i64 k), (1, .slice pb nb cb), (2, .agg ([a0, a1, a2, a3, a4, a5, a6, a7, a8, a9, a10, a11, a12, a13, a14, a15, a16, a17, a18, a19, a20, a21, a22, a23, a24, a25, a26, a27, a28, a29, a30, a31] ++ [b0, b1, b2, b3, b4, b5, b6, b7, b8, b9, b10, b11, b12, b13, b14, b15, b16, b17, b18, b19, b20, b21, b22, b23, b24, b25, b26, b27, b28, b29, b30, b31] ++ [Value.slice q nq c]).toArray), (3, .agg [c0, c1, c2, c3, c4, c5, c6, c7, c8, c9, c10, c11, c12, c13, c14, c15, c16, c17, c18, c19, c20, c21, c22, c23, c24, c25, c26, c27, c28, c29, c30, c31].toArray), (4, .int .i64 n), (5, .agg #[.int .i64 u0, .int .i64 u1, .int .i64 u2])] = some (Value.int .i64 k :: Value.slice pb nb cb :: ([a0, a1, a2, a3, a4, a5, a6, a7, a8, a9, a10, a11, a12, a13, a14, a15, a16, a17, a18, a19, a20, a21, a22, a23, a24, a25, a26, a27, a28, a29, a30, a31] ++ ([b0, b1, b2, b3, b4, b5, b6, b7, b8, b9, b10, b11, b12, b13, b14, b15, b16, b17, b18, b19, b20, b21, b22, b23, b24, b25, b26, b27, b28, b29, b30, b31] ++ (Value.slice q nq c :: ([c0, c1, c2, c3, c4, c5, c6, c7, c8, c9, c10, c11, c12, c13, c14, c15, c16, c17, c18, c19, c20, c21, c22, c23, c24, c25, c26, c27, c28, c29, c30, c31] ++ [.int .i64 n, .int .i64 u0, .int .i64 u1, .int .i64 u2]))))).toArray := by kernel_rfl
theorem built_l (k n u0 u1 u2 : Int) (pb q : Option Addr) (nb cb nq c : Nat) (a b x : List Value) (ha : a.length = 32) (hb : b.length = 32) (hx : x.length = 32) : Tryd.prog.built 37 [(0, .int .i64 k), (1, .slice pb nb cb), (2, .agg (a ++ b ++ [Value.slice q nq c]).toArray), (3, .agg x.toArray), (4, .int .i64 n), (5, .agg #[.int .i64 u0, .int .i64 u1, .int .i64 u2])] = some (Value.int .i64 k :: Value.slice pb nb cb :: (a ++ (b ++ (Value.slice q nq c :: (x ++ [.int .i64 n, .int .i64 u0, .int .i64 u1, .int .i64 u2]))))).toArray :=
  match a, ha, b, hb, x, hx with
  | [a0, a1, a2, a3, a4, a5, a6, a7, a8, a9, a10, a11, a12, a13, a14, a15, a16, a17, a18, a19, a20, a21, a22, a23, a24, a25, a26, a27, a28, a29, a30, a31], _, [b0, b1, b2, b3, b4, b5, b6, b7, b8, b9, b10, b11, b12, b13, b14, b15, b16, b17, b18, b19, b20, b21, b22, b23, b24, b25, b26, b27, b28, b29, b30, b31], _, [c0, c1, c2, c3, c4, c5, c6, c7, c8, c9, c10, c11, c12, c13, c14, c15, c16, c17, c18, c19, c20, c21, c22, c23, c24, c25, c26, c27, c28, c29, c30, c31], _ => built_v k n u0 u1 u2 pb q nb cb nq c a0 a1 a2 a3 a4 a5 a6 a7 a8 a9 a10 a11 a12 a13 a14 a15 a16 a17 a18 a19 a20 a21 a22 a23 a24 a25 a26 a27 a28 a29 a30 a31 b0 b1 b2 b3 b4 b5 b6 b7 b8 b9 b10 b11 b12 b13 b14 b15 b16 b17 b18 b19 b20 b21 b22 b23 b24 b25 b26 b27 b28 b29 b30 b31 c0 c1 c2 c3 c4 c5 c6 c7 c8 c9 c10 c11 c12 c13 c14 c15 c16 c17 c18 c19 c20 c21 c22 c23 c24 c25 c26 c27 c28 c29 c30 c31
theorem built_all (e : Ev) (hw : e.Wf) (pb : Option Addr) (cb : Nat) (q : Option Addr) (c : Nat) : Tryd.prog.built 37 [(0, .int .i64 e.k), (1, .slice pb e.b.length cb), (2, .agg (blkA e.h e.p q e.tx.length c)), (3, .agg (idA e.id)), (4, .int .i64 e.n), (5, .agg (u3L e).toArray)] = some (evA e pb cb q c) :=
  built_l e.k e.n e.u0 e.u1 e.u2 pb q e.b.length cb e.tx.length c (bytesV e.h) (bytesV e.p) (bytesV e.id) (by rw [bytesV_length, hw.h]) (by rw [bytesV_length, hw.p]) (by rw [bytesV_length, hw.id])
theorem built_f1 (pb : Option Addr) (nb cb : Nat) : Tryd.prog.built 37 [(0, .int .i64 1), (1, .slice pb nb cb)] = some (Value.int .i64 1 :: Value.slice pb nb cb :: (bytesV zeros ++ (bytesV zeros ++ (Value.slice none 0 0 :: (bytesV zeros ++ [.int .i64 0, .int .i64 0, .int .i64 0, .int .i64 0]))))).toArray := by kernel_rfl
theorem built_f2v (q : Option Addr) (nq c : Nat) (a0 a1 a2 a3 a4 a5 a6 a7 a8 a9 a10 a11 a12 a13 a14 a15 a16 a17 a18 a19 a20 a21 a22 a23 a24 a25 a26 a27 a28 a29 a30 a31 b0 b1 b2 b3 b4 b5 b6 b7 b8 b9 b10 b11 b12 b13 b14 b15 b16 b17 b18 b19 b20 b21 b22 b23 b24 b25 b26 b27 b28 b29 b30 b31 : Value) : Tryd.prog.built 37 [(0, .int .i64 2), (2, .agg ([a0, a1, a2, a3, a4, a5, a6, a7, a8, a9, a10, a11, a12, a13, a14, a15, a16, a17, a18, a19, a20, a21, a22, a23, a24, a25, a26, a27, a28, a29, a30, a31] ++ [b0, b1, b2, b3, b4, b5, b6, b7, b8, b9, b10, b11, b12, b13, b14, b15, b16, b17, b18, b19, b20, b21, b22, b23, b24, b25, b26, b27, b28, b29, b30, b31] ++ [Value.slice q nq c]).toArray)] = some (Value.int .i64 2 :: Value.slice none 0 0 :: ([a0, a1, a2, a3, a4, a5, a6, a7, a8, a9, a10, a11, a12, a13, a14, a15, a16, a17, a18, a19, a20, a21, a22, a23, a24, a25, a26, a27, a28, a29, a30, a31] ++ ([b0, b1, b2, b3, b4, b5, b6, b7, b8, b9, b10, b11, b12, b13, b14, b15, b16, b17, b18, b19, b20, b21, b22, b23, b24, b25, b26, b27, b28, b29, b30, b31] ++ (Value.slice q nq c :: (bytesV zeros ++ [.int .i64 0, .int .i64 0, .int .i64 0, .int .i64 0]))))).toArray := by kernel_rfl
theorem built_f2 (q : Option Addr) (nq c : Nat) (a b : List Value) (ha : a.length = 32) (hb : b.length = 32) : Tryd.prog.built 37 [(0, .int .i64 2), (2, .agg (a ++ b ++ [Value.slice q nq c]).toArray)] = some (Value.int .i64 2 :: Value.slice none 0 0 :: (a ++ (b ++ (Value.slice q nq c :: (bytesV zeros ++ [.int .i64 0, .int .i64 0, .int .i64 0, .int .i64 0]))))).toArray :=
  match a, ha, b, hb with
  | [a0, a1, a2, a3, a4, a5, a6, a7, a8, a9, a10, a11, a12, a13, a14, a15, a16, a17, a18, a19, a20, a21, a22, a23, a24, a25, a26, a27, a28, a29, a30, a31], _, [b0, b1, b2, b3, b4, b5, b6, b7, b8, b9, b10, b11, b12, b13, b14, b15, b16, b17, b18, b19, b20, b21, b22, b23, b24, b25, b26, b27, b28, b29, b30, b31], _ => built_f2v q nq c a0 a1 a2 a3 a4 a5 a6 a7 a8 a9 a10 a11 a12 a13 a14 a15 a16 a17 a18 a19 a20 a21 a22 a23 a24 a25 a26 a27 a28 a29 a30 a31 b0 b1 b2 b3 b4 b5 b6 b7 b8 b9 b10 b11 b12 b13 b14 b15 b16 b17 b18 b19 b20 b21 b22 b23 b24 b25 b26 b27 b28 b29 b30 b31
theorem built_f3v (k : Int) (a0 a1 a2 a3 a4 a5 a6 a7 a8 a9 a10 a11 a12 a13 a14 a15 a16 a17 a18 a19 a20 a21 a22 a23 a24 a25 a26 a27 a28 a29 a30 a31 : Value) : Tryd.prog.built 37 [(0, .int .i64 k), (3, .agg [a0, a1, a2, a3, a4, a5, a6, a7, a8, a9, a10, a11, a12, a13, a14, a15, a16, a17, a18, a19, a20, a21, a22, a23, a24, a25, a26, a27, a28, a29, a30, a31].toArray)] = some (Value.int .i64 k :: Value.slice none 0 0 :: (bytesV zeros ++ (bytesV zeros ++ (Value.slice none 0 0 :: ([a0, a1, a2, a3, a4, a5, a6, a7, a8, a9, a10, a11, a12, a13, a14, a15, a16, a17, a18, a19, a20, a21, a22, a23, a24, a25, a26, a27, a28, a29, a30, a31] ++ [.int .i64 0, .int .i64 0, .int .i64 0, .int .i64 0]))))).toArray := by kernel_rfl
theorem built_f3 (k : Int) (a : List Value) (ha : a.length = 32) : Tryd.prog.built 37 [(0, .int .i64 k), (3, .agg a.toArray)] = some (Value.int .i64 k :: Value.slice none 0 0 :: (bytesV zeros ++ (bytesV zeros ++ (Value.slice none 0 0 :: (a ++ [.int .i64 0, .int .i64 0, .int .i64 0, .int .i64 0]))))).toArray :=
  match a, ha with
  | [a0, a1, a2, a3, a4, a5, a6, a7, a8, a9, a10, a11, a12, a13, a14, a15, a16, a17, a18, a19, a20, a21, a22, a23, a24, a25, a26, a27, a28, a29, a30, a31], _ => built_f3v k a0 a1 a2 a3 a4 a5 a6 a7 a8 a9 a10 a11 a12 a13 a14 a15 a16 a17 a18 a19 a20 a21 a22 a23 a24 a25 a26 a27 a28 a29 a30 a31
theorem built_f5 (n : Int) : Tryd.prog.built 37 [(0, .int .i64 5), (4, .int .i64 n)] = some (evA ⟨5, [], zeros, zeros, [], zeros, n, 0, 0, 0⟩ none 0 none 0) := by kernel_rfl
theorem built_f6 (k n u0 u1 u2 : Int) : Tryd.prog.built 37 [(0, .int .i64 k), (4, .int .i64 n), (5, .agg #[.int .i64 u0, .int .i64 u1, .int .i64 u2])] = some (evA ⟨k, [], zeros, zeros, [], zeros, n, u0, u1, u2⟩ none 0 none 0) := by kernel_rfl
theorem built_fk (k : Int) : Tryd.prog.built 37 [(0, .int .i64 k)] = some (evA (Ev.zero k) none 0 none 0) := by kernel_rfl
theorem built_f0 : Tryd.prog.built 37 [] = some (evA (Ev.zero 0) none 0 none 0) := by kernel_rfl
theorem built_ek (k : Int) : Tryd.prog.built 31 [(0, .int .i64 k)] = some (evA (Ev.zero k) none 0 none 0) := by kernel_rfl
theorem built_e0 : Tryd.prog.built 31 [] = some (evA (Ev.zero 0) none 0 none 0) := by kernel_rfl
theorem built_u3 (a b c : Int) : Tryd.prog.built 29 [(0, .int .i64 a), (1, .int .i64 b), (2, .int .i64 c)] = some #[.int .i64 a, .int .i64 b, .int .i64 c] := by kernel_rfl
theorem built_bv (q : Option Addr) (nq c : Nat) (a0 a1 a2 a3 a4 a5 a6 a7 a8 a9 a10 a11 a12 a13 a14 a15 a16 a17 a18 a19 a20 a21 a22 a23 a24 a25 a26 a27 a28 a29 a30 a31 b0 b1 b2 b3 b4 b5 b6 b7 b8 b9 b10 b11 b12 b13 b14 b15 b16 b17 b18 b19 b20 b21 b22 b23 b24 b25 b26 b27 b28 b29 b30 b31 : Value) : Tryd.prog.built 28 [(0, .agg [a0, a1, a2, a3, a4, a5, a6, a7, a8, a9, a10, a11, a12, a13, a14, a15, a16, a17, a18, a19, a20, a21, a22, a23, a24, a25, a26, a27, a28, a29, a30, a31].toArray), (1, .agg [b0, b1, b2, b3, b4, b5, b6, b7, b8, b9, b10, b11, b12, b13, b14, b15, b16, b17, b18, b19, b20, b21, b22, b23, b24, b25, b26, b27, b28, b29, b30, b31].toArray), (2, .slice q nq c)] = some ([a0, a1, a2, a3, a4, a5, a6, a7, a8, a9, a10, a11, a12, a13, a14, a15, a16, a17, a18, a19, a20, a21, a22, a23, a24, a25, a26, a27, a28, a29, a30, a31] ++ [b0, b1, b2, b3, b4, b5, b6, b7, b8, b9, b10, b11, b12, b13, b14, b15, b16, b17, b18, b19, b20, b21, b22, b23, b24, b25, b26, b27, b28, b29, b30, b31] ++ [Value.slice q nq c]).toArray := by kernel_rfl
theorem built_bl (q : Option Addr) (nq c : Nat) (a b : List Value) (ha : a.length = 32) (hb : b.length = 32) : Tryd.prog.built 28 [(0, .agg a.toArray), (1, .agg b.toArray), (2, .slice q nq c)] = some (a ++ b ++ [Value.slice q nq c]).toArray :=
  match a, ha, b, hb with
  | [a0, a1, a2, a3, a4, a5, a6, a7, a8, a9, a10, a11, a12, a13, a14, a15, a16, a17, a18, a19, a20, a21, a22, a23, a24, a25, a26, a27, a28, a29, a30, a31], _, [b0, b1, b2, b3, b4, b5, b6, b7, b8, b9, b10, b11, b12, b13, b14, b15, b16, b17, b18, b19, b20, b21, b22, b23, b24, b25, b26, b27, b28, b29, b30, b31], _ => built_bv q nq c a0 a1 a2 a3 a4 a5 a6 a7 a8 a9 a10 a11 a12 a13 a14 a15 a16 a17 a18 a19 a20 a21 a22 a23 a24 a25 a26 a27 a28 a29 a30 a31 b0 b1 b2 b3 b4 b5 b6 b7 b8 b9 b10 b11 b12 b13 b14 b15 b16 b17 b18 b19 b20 b21 b22 b23 b24 b25 b26 b27 b28 b29 b30 b31
theorem built_blk (h p : List UInt8) (q : Option Addr) (n c : Nat) (hh : h.length = 32) (hp : p.length = 32) : Tryd.prog.built 28 [(0, .agg (idA h)), (1, .agg (idA p)), (2, .slice q n c)] = some (blkA h p q n c) :=
  built_bl q n c (bytesV h) (bytesV p) (by rw [bytesV_length, hh]) (by rw [bytesV_length, hp])
/-! ### an event's parts stored -/
theorem set_at (A : List Value) (x y : Value) (B : List Value) : (A ++ x :: B).toArray.setIfInBounds A.length y = (A ++ y :: B).toArray := by
  simp []
end Go.Proofs.YtcddgbobbogpgaaDoor.Scr

namespace Go.Mir
open Go.ChangeShapes Go.WideShapes Go.ChangeAt Go.RowKit

theorem u8_of_list (zs : List Int) (h : ∀ n ∈ zs, (Lit.int .u8 n).wf = true) : ∃ l : List UInt8, zs = l.map (fun b => (b.toNat : Int)) := by
  induction zs with
  | nil => exact ⟨[], rfl⟩
  | cons z zs ih =>
    obtain ⟨l, rfl⟩ := ih (fun n hn => h n (by simp [hn]))
    have hz := h z (by simp)
    have hb : 0 ≤ z ∧ z ≤ 255 := by simpa [Lit.wf, IntKind.min, IntKind.max, IntKind.signed, IntKind.bits] using hz
    refine ⟨UInt8.ofNat z.toNat :: l, ?_⟩
    have : (UInt8.ofNat z.toNat).toNat = z.toNat := by
      rw [UInt8.toNat_ofNat']; exact Nat.mod_eq_of_lt (by omega)
    simp [this]; omega

theorem i64_bd {a : Int} (h : (Lit.int .i64 a).wf = true) : -9223372036854775808 ≤ a ∧ a ≤ 9223372036854775807 := by
  simpa [Lit.wf, IntKind.min, IntKind.max, IntKind.signed, IntKind.bits] using h

/-- an array of numbers that came in, by its cells -/
theorem trod_nums {P : Program} {W : World} {H : Type} {enc : TypeId × Value → H} {base : Nat} {spare : Nat → Bool} {held : Bool} {fuel t n e : Nat} {k : IntKind} {cs : List Value} {x : DataW H × List MemPlace}
    (ht : P.underlying t = some (.array n e)) (he : P.underlying e = some (.int k)) (hc : P.cellsOf e = 1) (hct : P.cellsOf t = n) (h : DataW.trod enc P W base spare held fuel t cs = some x) :
    ∃ zs : List Int, cs = zs.map (Value.int k) ∧ zs.length = n ∧ ∀ z ∈ zs, (Lit.int k z).wf = true := by
  obtain ⟨xs, m, rfl, _, hl, hxl, hx⟩ := DataW.trod_array ht h
  rw [hct] at hl
  have key : ∀ i, i < n → ∃ z, cs[i]? = some (.int k z) ∧ (Lit.int k z).wf = true := by
    intro i hi
    have h1 := hx i hi
    rw [hc, Nat.mul_one] at h1
    have h2 : xs[i]? = some xs[i] := List.getElem?_eq_getElem (by omega)
    rw [h2] at h1
    obtain ⟨z, hz, _, hw⟩ := DataW.trod_int he h1
    refine ⟨z, ?_, hw⟩
    have h3 := congrArg (·[0]?) hz
    simpa using h3
  refine ⟨cs.map intOf, ?_, by simp [hl], ?_⟩
  · apply List.ext_getElem?
    intro i
    by_cases hi : i < n
    · obtain ⟨z, hz, _⟩ := key i hi
      simp [hz, intOf]
    · rw [List.getElem?_eq_none (by omega), List.getElem?_eq_none (by simp; omega)]
  · intro z hz
    rw [List.mem_map] at hz
    obtain ⟨v, hv, rfl⟩ := hz
    obtain ⟨i, hi, rfl⟩ := List.mem_iff_getElem.1 hv
    obtain ⟨z, hz, hw⟩ := key i (by omega)
    rw [List.getElem?_eq_getElem hi] at hz
    rw [Option.some.inj hz]; exact hw
/-- how many elements a slice's datum has -/
def dlen {H : Type} : DataW H → Nat
  | .slice elems _ => elems.length
  | _ => 0

/-- a []byte by its cell -/
theorem trod_bs {P : Program} {W : World} {H : Type} {enc : TypeId × Value → H} {base fuel t e : Nat} {held : Bool} {cs : List Value} {x : DataW H × List MemPlace}
    (ht : P.underlying t = some (.slice e)) (he : P.underlying e = some (.int .u8)) (hc : P.cellsOf e = 1) (h : DataW.trod enc P W base (fun _ => true) held fuel t cs = some x) :
    ∃ p n c l, cs = [.slice p n c] ∧ Bs W p n c l ∧ dlen x.1 = n := by
  rcases Deep.open_slice1 ht hc h with ⟨rfl, rfl⟩ | ⟨a, len, cap, m, k, V, D, Pl, rfl, hb, hl, hm, hmm, rfl, hx⟩
  · exact ⟨_, _, _, [], rfl, Sl.nil _ _, rfl⟩
  · simp only [if_true] at hmm
    subst hmm
    have key : ∀ i, i < m → ∃ b : UInt8, V i = .int .u8 (b.toNat : Int) := by
      intro i hi
      obtain ⟨z, hz, _, hw⟩ := DataW.trod_int he (hx i hi).2
      obtain ⟨l, hl⟩ := u8_of_list [z] (by simpa using hw)
      match l, hl with
      | [b], hl => exact ⟨b, by simp at hz hl; rw [hz, hl]⟩
    refine ⟨_, _, _, (List.range len).map (fun i => UInt8.ofNat (intOf (V i)).toNat), rfl, ⟨?_, hl, by simpa [maxLen] using hm, fun h => (by cases h), fun a' ha j u hu => ?_⟩, by simp [dlen]⟩
    · simp [bytesV]
    · obtain rfl := Option.some.inj ha
      have hj : j < len := by
        have := (List.getElem?_eq_some_iff.1 hu).1
        simpa [bytesV] using this
      rw [(hx j (by omega)).1, ← hu]
      obtain ⟨b, hb⟩ := key j (by omega)
      rw [hb]
      simp [bytesV, hj, hb, intOf]

theorem addr_add_add (a : Addr) (i j : Nat) : (a.add i).add j = a.add (i + j) := by
  unfold Addr.add
  by_cases hj : j = 0
  · simp [hj]
  · by_cases hi : i = 0
    · simp [hi, hj]
    · simp [hi, hj, Nat.add_assoc]
theorem flatMap_length {α β : Type} (f : α → List β) (m : Nat) (l : List α) (h : ∀ x ∈ l, (f x).length = m) : (l.flatMap f).length = l.length * m := by
  induction l with
  | nil => simp
  | cons x l ih =>
    rw [List.flatMap_cons, List.length_append, h x (by simp), ih (fun y hy => h y (by simp [hy])), List.length_cons, Nat.add_mul]; omega
theorem build_list {α : Type} (n : Nat) (R : Nat → α → Prop) (h : ∀ i, i < n → ∃ x, R i x) : ∃ l : List α, l.length = n ∧ ∀ i (hi : i < l.length), R i l[i] := by
  induction n with
  | zero => exact ⟨[], rfl, fun i hi => by simp at hi⟩
  | succ n ih =>
    obtain ⟨l, h1, h2⟩ := ih (fun i hi => h i (by omega))
    obtain ⟨x, hx⟩ := h n (by omega)
    refine ⟨l ++ [x], by simp [h1], fun i hi => ?_⟩
    by_cases hin : i < n
    · rw [List.getElem_append_left (by omega)]; exact h2 i (by omega)
    · have : i = n := by simp [h1] at hi; omega
      subst this
      rw [List.getElem_append_right (by omega)]
      simpa [h1] using hx

/-- a slice of arrays of bytes, by its cell -/
theorem trod_is {P : Program} {W : World} {H : Type} {enc : TypeId × Value → H} {base fuel t e u n : Nat} {held : Bool} {cs : List Value} {x : DataW H × List MemPlace}
    (ht : P.underlying t = some (.slice e)) (he : P.underlying e = some (.array n u)) (hu : P.underlying u = some (.int .u8)) (hcu : P.cellsOf u = 1) (hce : P.cellsOf e = n) (hn : 0 < n) (h : DataW.trod enc P W base (fun _ => true) held fuel t cs = some x) :
    ∃ p len c ids, cs = [.slice p len c] ∧ Is W p len c n ids ∧ dlen x.1 = len := by
  rcases Deep.open_slice ht h with ⟨rfl, rfl⟩ | ⟨a, len, cap, m, k, D, Pl, rfl, hb, hl, hm, hmm, rfl, hx⟩
  · exact ⟨_, _, _, [], rfl, ⟨Sl.nil _ _, fun _ h => by simp at h, rfl⟩, rfl⟩
  · simp only [if_true] at hmm
    subst hmm
    rw [hce] at hx
    obtain ⟨ids, hil, hids⟩ := build_list (α := List UInt8) len (fun i b => b.length = n ∧ ∀ j (hj : j < b.length), W.cell? (a.add (i * n + j)) = some (.int .u8 (b[j].toNat : Int))) (fun i hi => by
      obtain ⟨cs', h1, h2⟩ := hx i (by omega)
      obtain ⟨zs, rfl, hz, hw⟩ := trod_nums he hu hcu hce h2
      obtain ⟨b, rfl⟩ := u8_of_list zs hw
      obtain ⟨_, _, h3⟩ := World.cells?_some h1
      have hbl : b.length = n := by simpa using hz
      refine ⟨b, hbl, fun j hj => ?_⟩
      rw [← addr_add_add, h3 j (by omega)]
      simp [hj])
    have heach : ∀ y ∈ ids, y.length = n := by
      intro y hy
      obtain ⟨i, hi, rfl⟩ := List.mem_iff_getElem.1 hy
      exact (hids i hi).1
    have hfl : ∀ y ∈ ids, (bytesV y).length = n := fun y hy => by rw [bytesV_length, heach y hy]
    refine ⟨_, _, _, ids, rfl, ⟨⟨by rw [flatMap_length bytesV n ids hfl, hil], hl, by simpa [maxLen] using hm, fun h => (by cases h), fun a' ha j v hv => ?_⟩, heach, hil⟩, by simp [dlen]⟩
    obtain rfl := Option.some.inj ha
    have hj : j < ids.length * n := by
      have := (List.getElem?_eq_some_iff.1 hv).1
      rwa [flatMap_length bytesV n ids hfl] at this
    have hdm : j / n * n + j % n = j := by rw [Nat.mul_comm]; exact Nat.div_add_mod j n
    have hq : j / n < ids.length := (Nat.div_lt_iff_lt_mul hn).2 hj
    have hr : j % n < n := Nat.mod_lt _ hn
    have h4 := getElem?_flatMap bytesV n ids hfl (j / n) (j % n) hq hr
    rw [hdm, hv] at h4
    have h5 := (hids (j / n) hq).2 (j % n) (by rw [(hids _ hq).1]; exact hr)
    rw [hdm] at h5
    rw [h5, h4, bytesV_get _ _ (by rw [(hids _ hq).1]; exact hr)]

end Go.Mir

namespace Go.Mir
open Go.RowKit

theorem setCells_row (b : Nat) (t : TypeId) : ∀ (vs : List Value) (o : Nat) (w : World) (A : Array Value), w.heap[b]? = some (.cells A t (0, 0)) → o + vs.length ≤ A.size →
    ∃ A', (w.setCells b o vs).heap[b]? = some (.cells A' t (0, 0)) ∧ A'.size = A.size ∧ ∀ i, A'[i]? = if o ≤ i ∧ i < o + vs.length then vs[i - o]? else A[i]?
  | [], o, w, A, h, hs => ⟨A, h, rfl, fun i => by rw [if_neg (by simp <;> omega)]⟩
  | v :: r, o, w, A, h, hs => by
    have h1 := Go.heap_setCell_same w b o A t v h
    simp only [List.length_cons] at hs
    obtain ⟨A', h2, h3, h4⟩ := setCells_row b t r (o + 1) _ _ h1 (by simp; omega)
    refine ⟨A', h2, by rw [h3]; simp, fun i => ?_⟩
    rw [h4 i, Array.getElem?_setIfInBounds]
    by_cases hi : o + 1 ≤ i ∧ i < o + 1 + r.length
    · rw [if_pos hi, if_pos (by simp; omega)]
      rw [show i - o = (i - (o + 1)) + 1 by omega, List.getElem?_cons_succ]
    · rw [if_neg hi]
      by_cases ho : o = i
      · subst ho
        rw [if_pos rfl, if_pos (by omega), if_pos (by simp)]; simp
      · rw [if_neg ho, if_neg (by simp; omega)]
/-- a slice of structs, each of 'size' cells -/
structure Rs (w : World) (p : Option Addr) (n c size : Nat) (rows : List (List Value)) : Prop where
  sl : Sl w p n c size rows.flatten
  each : ∀ r ∈ rows, r.length = size
  count : rows.length = n
theorem Rs.below {w w' : World} {p : Option Addr} {n c size : Nat} {rows : List (List Value)} (h : Rs w p n c size rows) (hb : Below w.heap.size w w') : Rs w' p n c size rows := ⟨h.sl.below hb, h.each, h.count⟩
theorem Rs.row {w : World} {b o n c size : Nat} {rows : List (List Value)} (h : Rs w (some ⟨b, o, none⟩) n c size rows) (i : Nat) (hi : i < rows.length) : w.rangeAt b (o + i * size) rows[i] := fun j v hv => by
  have hj : j < size := by
    have := (List.getElem?_eq_some_iff.1 hv).1
    rwa [h.each _ (List.getElem_mem hi)] at this
  rw [Nat.add_assoc]
  refine h.sl.at ?_
  have := getElem?_flatMap (fun x : List Value => x) size rows h.each i j hi hj
  rw [show rows.flatten = rows.flatMap (fun x => x) by simp [List.flatMap_id'], this]; exact hv

end Go.Mir

namespace Go.Proofs.YtcddgbobbogpgaaDoor.Scr
open Go.RowKit Go.Mir Go.Mir.Hx Go.Mir.Parts HexW Rpl

theorem turns_setCells {S : Nat → Prop} {w0 : World} {b : Nat} (hS : S b) : ∀ (vs : List Value) (o : Nat) (w : World), Turns S w0 w → Turns S w0 (w.setCells b o vs)
  | [], _, _, h => h
  | v :: r, o, _, h => turns_setCells hS r (o + 1) _ (h.setCell (p := ⟨b, o, none⟩) (fun _ => hS) v)
theorem put_at {A A' : Array Value} (X Y Y' Z : List Value) (o : Nat) (ho : o = X.length) (hy : Y.length = Y'.length) (hA : A.toList = X ++ (Y ++ Z)) (h3 : ∀ i, A'[i]? = if o ≤ i ∧ i < o + Y'.length then Y'[i - o]? else A[i]?) : A'.toList = X ++ (Y' ++ Z) := by
  subst ho
  apply List.ext_getElem?
  intro i
  rw [Array.getElem?_toList, h3 i, ← Array.getElem?_toList, hA]
  by_cases h1 : X.length ≤ i ∧ i < X.length + Y'.length
  · rw [if_pos h1, List.getElem?_append_right h1.1, List.getElem?_append_left (by omega)]
  · rw [if_neg h1]
    rcases Nat.lt_or_ge i X.length with h5 | h5
    · rw [List.getElem?_append_left h5, List.getElem?_append_left h5]
    · rw [List.getElem?_append_right h5, List.getElem?_append_right h5, List.getElem?_append_right (by omega), List.getElem?_append_right (by omega), hy]
/-- what stands ahead of the number -/
def hd99 (e : Ev) (pb : Option Addr) (cb : Nat) (q : Option Addr) (c : Nat) : List Value := [.int .i64 e.k, .slice pb e.b.length cb] ++ bytesV e.h ++ bytesV e.p ++ [.slice q e.tx.length c] ++ bytesV e.id
theorem hd99_len {e : Ev} (h : e.Wf) (pb : Option Addr) (cb : Nat) (q : Option Addr) (c : Nat) : (hd99 e pb cb q c).length = 99 := by
  unfold hd99
  simp only [List.length_append, List.length_cons, List.length_nil, bytesV_length, h.h, h.p, h.id]
theorem evL_99 (e : Ev) (pb : Option Addr) (cb : Nat) (q : Option Addr) (c : Nat) : evL e pb cb q c = hd99 e pb cb q c ++ [.int .i64 e.n, .int .i64 e.u0, .int .i64 e.u1, .int .i64 e.u2] := by
  unfold evL hd99 u3L
  simp
theorem eset0 (e : Ev) (pb : Option Addr) (cb : Nat) (q : Option Addr) (c : Nat) (z : Int) : (evA e pb cb q c).setIfInBounds 0 (.int .i64 z) = evA { e with k := z } pb cb q c := rfl
theorem eset1 (e : Ev) (pb : Option Addr) (cb : Nat) (q : Option Addr) (c : Nat) (b : List UInt8) (p' : Option Addr) (c' : Nat) : (evA e pb cb q c).setIfInBounds 1 (.slice p' b.length c') = evA { e with b := b } p' c' q c := rfl
theorem eset_n {e : Ev} (h : e.Wf) (pb : Option Addr) (cb : Nat) (q : Option Addr) (c : Nat) (z : Int) : (evA e pb cb q c).setIfInBounds 99 (.int .i64 z) = evA { e with n := z } pb cb q c := by
  have := set_at (hd99 e pb cb q c ++ []) (.int .i64 e.n) (.int .i64 z) [.int .i64 e.u0, .int .i64 e.u1, .int .i64 e.u2]
  rw [List.length_append, hd99_len h] at this
  unfold evA
  rw [evL_99, evL_99, show hd99 e pb cb q c ++ [.int .i64 e.n, .int .i64 e.u0, .int .i64 e.u1, .int .i64 e.u2] = (hd99 e pb cb q c ++ []) ++ .int .i64 e.n :: [.int .i64 e.u0, .int .i64 e.u1, .int .i64 e.u2] by simp]
  refine Eq.trans this ?_
  simp [hd99]
theorem eset_u0 {e : Ev} (h : e.Wf) (pb : Option Addr) (cb : Nat) (q : Option Addr) (c : Nat) (z : Int) : (evA e pb cb q c).setIfInBounds 100 (.int .i64 z) = evA { e with u0 := z } pb cb q c := by
  have := set_at (hd99 e pb cb q c ++ [.int .i64 e.n]) (.int .i64 e.u0) (.int .i64 z) [.int .i64 e.u1, .int .i64 e.u2]
  rw [List.length_append, hd99_len h] at this
  unfold evA
  rw [evL_99, evL_99, show hd99 e pb cb q c ++ [.int .i64 e.n, .int .i64 e.u0, .int .i64 e.u1, .int .i64 e.u2] = (hd99 e pb cb q c ++ [.int .i64 e.n]) ++ .int .i64 e.u0 :: [.int .i64 e.u1, .int .i64 e.u2] by simp]
  refine Eq.trans this ?_
  simp [hd99]
theorem eset_u1 {e : Ev} (h : e.Wf) (pb : Option Addr) (cb : Nat) (q : Option Addr) (c : Nat) (z : Int) : (evA e pb cb q c).setIfInBounds 101 (.int .i64 z) = evA { e with u1 := z } pb cb q c := by
  have := set_at (hd99 e pb cb q c ++ [.int .i64 e.n, .int .i64 e.u0]) (.int .i64 e.u1) (.int .i64 z) [.int .i64 e.u2]
  rw [List.length_append, hd99_len h] at this
  unfold evA
  rw [evL_99, evL_99, show hd99 e pb cb q c ++ [.int .i64 e.n, .int .i64 e.u0, .int .i64 e.u1, .int .i64 e.u2] = (hd99 e pb cb q c ++ [.int .i64 e.n, .int .i64 e.u0]) ++ .int .i64 e.u1 :: [.int .i64 e.u2] by simp]
  refine Eq.trans this ?_
  simp [hd99]
theorem eset_u2 {e : Ev} (h : e.Wf) (pb : Option Addr) (cb : Nat) (q : Option Addr) (c : Nat) (z : Int) : (evA e pb cb q c).setIfInBounds 102 (.int .i64 z) = evA { e with u2 := z } pb cb q c := by
  have := set_at (hd99 e pb cb q c ++ [.int .i64 e.n, .int .i64 e.u0, .int .i64 e.u1]) (.int .i64 e.u2) (.int .i64 z) []
  rw [List.length_append, hd99_len h] at this
  unfold evA
  rw [evL_99, evL_99, show hd99 e pb cb q c ++ [.int .i64 e.n, .int .i64 e.u0, .int .i64 e.u1, .int .i64 e.u2] = (hd99 e pb cb q c ++ [.int .i64 e.n, .int .i64 e.u0, .int .i64 e.u1]) ++ .int .i64 e.u2 :: [] by simp]
  refine Eq.trans this ?_
  simp [hd99]
theorem eset_blk {e : Ev} (hw : e.Wf) (pb : Option Addr) (cb : Nat) (q : Option Addr) (c : Nat) (h' p' : List UInt8) (t' : List (List UInt8)) (hh : h'.length = 32) (hp : p'.length = 32) (q' : Option Addr) (c' : Nat) {A' : Array Value} (h3 : ∀ i, A'[i]? = if 2 ≤ i ∧ i < 2 + (blkA h' p' q' t'.length c').toList.length then (blkA h' p' q' t'.length c').toList[i - 2]? else (evA e pb cb q c)[i]?) : A' = evA { e with h := h', p := p', tx := t' } pb cb q' c' := by
  apply Array.toList_inj.1
  have := put_at (A := evA e pb cb q c) [.int .i64 e.k, .slice pb e.b.length cb] (blkA e.h e.p q e.tx.length c).toList (blkA h' p' q' t'.length c').toList (bytesV e.id ++ (Value.int .i64 e.n :: u3L e)) 2 rfl (by rw [blkA_toList, blkA_toList]; simp [bytesV_length, hw.h, hw.p, hh, hp]) (by simp [evA, evL, blkA_toList]) h3
  rw [this]
  simp [evA, evL, blkA_toList, u3L]
theorem eset_id {e : Ev} (hw : e.Wf) (pb : Option Addr) (cb : Nat) (q : Option Addr) (c : Nat) (x : List UInt8) (hx : x.length = 32) {A' : Array Value} (h3 : ∀ i, A'[i]? = if 67 ≤ i ∧ i < 67 + (idA x).toList.length then (idA x).toList[i - 67]? else (evA e pb cb q c)[i]?) : A' = evA { e with id := x } pb cb q c := by
  apply Array.toList_inj.1
  rw [idA_toList] at h3
  have := put_at (A := evA e pb cb q c) ([.int .i64 e.k, .slice pb e.b.length cb] ++ (blkA e.h e.p q e.tx.length c).toList) (bytesV e.id) (bytesV x) (Value.int .i64 e.n :: u3L e) 67 (by rw [blkA_toList]; simp [bytesV_length, hw.h, hw.p]) (by rw [bytesV_length, bytesV_length, hw.id, hx]) (by simp [evA, evL, blkA_toList]) h3
  rw [this]
  simp [evA, evL, blkA_toList, u3L]
theorem eset_us {e : Ev} (hw : e.Wf) (pb : Option Addr) (cb : Nat) (q : Option Addr) (c : Nat) (a0 a1 a2 : Int) {A' : Array Value} (h3 : ∀ i, A'[i]? = if 100 ≤ i ∧ i < 100 + [Value.int .i64 a0, .int .i64 a1, .int .i64 a2].length then [Value.int .i64 a0, .int .i64 a1, .int .i64 a2][i - 100]? else (evA e pb cb q c)[i]?) : A' = evA { e with u0 := a0, u1 := a1, u2 := a2 } pb cb q c := by
  apply Array.toList_inj.1
  have := put_at (A := evA e pb cb q c) (hd99 e pb cb q c ++ [.int .i64 e.n]) (u3L e) [.int .i64 a0, .int .i64 a1, .int .i64 a2] [] 100 (by rw [List.length_append, hd99_len hw]; rfl) rfl (by unfold evA; simp [evL_99, u3L]) h3
  rw [this]
  simp [evA, evL_99, hd99]
/-- an event's row, in a world that is turned there alone -/
structure EW (w0 : World) (g : Nat) (t : TypeId) (e : Ev) (pb : Option Addr) (cb : Nat) (q : Option Addr) (c : Nat) (x : World) : Prop where
  row : x.heap[g]? = some (.cells (evA e pb cb q c) t (0, 0))
  wf : e.Wf
  turn : Turns (fun k => k = g) w0 x
section
variable {w0 x : World} {g : Nat} {t : TypeId} {e : Ev} {pb : Option Addr} {cb : Nat} {q : Option Addr} {c : Nat}
theorem EW.cells (h : EW w0 g t e pb cb q c x) : EvC x g e pb cb q c := ev_row h.wf h.row
theorem EW.set (h : EW w0 g t e pb cb q c x) (i : Nat) (v : Value) {e' : Ev} {pb' : Option Addr} {cb' : Nat} {q' : Option Addr} {c' : Nat} (hv : (evA e pb cb q c).setIfInBounds i v = evA e' pb' cb' q' c') (hw : e'.Wf) : EW w0 g t e' pb' cb' q' c' (x.setCell ⟨g, i, none⟩ v) :=
  ⟨by rw [heap_setCell_same _ _ _ _ _ _ h.row, hv], hw, h.turn.setCell (p := ⟨g, i, none⟩) (fun _ => rfl) v⟩
theorem EW.kind (h : EW w0 g t e pb cb q c x) (z : Int) (hz : i64B z) : EW w0 g t { e with k := z } pb cb q c (x.setCell ⟨g, 0, none⟩ (.int .i64 z)) := h.set 0 _ (eset0 e pb cb q c z) ⟨h.wf.h, h.wf.p, h.wf.id, h.wf.tx, hz, h.wf.n, h.wf.u0, h.wf.u1, h.wf.u2⟩
theorem EW.bytes (h : EW w0 g t e pb cb q c x) (b : List UInt8) (p' : Option Addr) (c' : Nat) : EW w0 g t { e with b := b } p' c' q c (x.setCell ⟨g, 1, none⟩ (.slice p' b.length c')) := h.set 1 _ (eset1 e pb cb q c b p' c') ⟨h.wf.h, h.wf.p, h.wf.id, h.wf.tx, h.wf.k, h.wf.n, h.wf.u0, h.wf.u1, h.wf.u2⟩
theorem EW.num (h : EW w0 g t e pb cb q c x) (z : Int) (hz : i64B z) : EW w0 g t { e with n := z } pb cb q c (x.setCell ⟨g, 99, none⟩ (.int .i64 z)) := h.set 99 _ (eset_n h.wf pb cb q c z) ⟨h.wf.h, h.wf.p, h.wf.id, h.wf.tx, h.wf.k, hz, h.wf.u0, h.wf.u1, h.wf.u2⟩
theorem EW.v0 (h : EW w0 g t e pb cb q c x) (z : Int) (hz : i64B z) : EW w0 g t { e with u0 := z } pb cb q c (x.setCell ⟨g, 100, none⟩ (.int .i64 z)) := h.set 100 _ (eset_u0 h.wf pb cb q c z) ⟨h.wf.h, h.wf.p, h.wf.id, h.wf.tx, h.wf.k, h.wf.n, hz, h.wf.u1, h.wf.u2⟩
theorem EW.v1 (h : EW w0 g t e pb cb q c x) (z : Int) (hz : i64B z) : EW w0 g t { e with u1 := z } pb cb q c (x.setCell ⟨g, 101, none⟩ (.int .i64 z)) := h.set 101 _ (eset_u1 h.wf pb cb q c z) ⟨h.wf.h, h.wf.p, h.wf.id, h.wf.tx, h.wf.k, h.wf.n, h.wf.u0, hz, h.wf.u2⟩
theorem EW.v2 (h : EW w0 g t e pb cb q c x) (z : Int) (hz : i64B z) : EW w0 g t { e with u2 := z } pb cb q c (x.setCell ⟨g, 102, none⟩ (.int .i64 z)) := h.set 102 _ (eset_u2 h.wf pb cb q c z) ⟨h.wf.h, h.wf.p, h.wf.id, h.wf.tx, h.wf.k, h.wf.n, h.wf.u0, h.wf.u1, hz⟩
theorem EW.block (h : EW w0 g t e pb cb q c x) (h' p' : List UInt8) (t' : List (List UInt8)) (hh : h'.length = 32) (hp : p'.length = 32) (ht : ∀ y ∈ t', y.length = 32) (q' : Option Addr) (c' : Nat) : EW w0 g t { e with h := h', p := p', tx := t' } pb cb q' c' (x.setCells g 2 (blkA h' p' q' t'.length c').toList) := by
  have hT := turns_setCells (S := fun k => k = g) rfl (blkA h' p' q' t'.length c').toList 2 x h.turn
  obtain ⟨A', h1, h2, h3⟩ := setCells_row g _ (blkA h' p' q' t'.length c').toList 2 x _ h.row (by rw [evA_size h.wf, blkA_toList]; simp [bytesV_length, hh, hp])
  rw [eset_blk h.wf pb cb q c h' p' t' hh hp q' c' h3] at h1
  exact ⟨h1, ⟨hh, hp, h.wf.id, ht, h.wf.k, h.wf.n, h.wf.u0, h.wf.u1, h.wf.u2⟩, hT⟩
theorem EW.ident (h : EW w0 g t e pb cb q c x) (i : List UInt8) (hi : i.length = 32) : EW w0 g t { e with id := i } pb cb q c (x.setCells g 67 (idA i).toList) := by
  have hT := turns_setCells (S := fun k => k = g) rfl (idA i).toList 67 x h.turn
  obtain ⟨A', h1, h2, h3⟩ := setCells_row g _ (idA i).toList 67 x _ h.row (by rw [evA_size h.wf, Array.length_toList, idA_size]; omega)
  rw [eset_id h.wf pb cb q c i hi h3] at h1
  exact ⟨h1, ⟨h.wf.h, h.wf.p, hi, h.wf.tx, h.wf.k, h.wf.n, h.wf.u0, h.wf.u1, h.wf.u2⟩, hT⟩
theorem EW.units (h : EW w0 g t e pb cb q c x) (a0 a1 a2 : Int) (h0 : i64B a0) (h1 : i64B a1) (h2 : i64B a2) : EW w0 g t { e with u0 := a0, u1 := a1, u2 := a2 } pb cb q c (x.setCells g 100 [.int .i64 a0, .int .i64 a1, .int .i64 a2]) := by
  have hT := turns_setCells (S := fun k => k = g) rfl [.int .i64 a0, .int .i64 a1, .int .i64 a2] 100 x h.turn
  obtain ⟨A', q1, q2, q3⟩ := setCells_row g _ [Value.int .i64 a0, .int .i64 a1, .int .i64 a2] 100 x _ h.row (by rw [evA_size h.wf]; show 100 + 3 ≤ 103; omega)
  rw [eset_us h.wf pb cb q c a0 a1 a2 q3] at q1
  exact ⟨q1, ⟨h.wf.h, h.wf.p, h.wf.id, h.wf.tx, h.wf.k, h.wf.n, h0, h1, h2⟩, hT⟩
/-- whole arrays can be put there -/
theorem EW.there (h : EW w0 g t e pb cb q c x) (o m : Nat) (hm : o + m ≤ 103) : x.there g o m := fun j hj => by
  refine ⟨?_, frozen_of_row _ _ _ _ _ h.row⟩
  rw [cell_of_row _ _ _ _ _ _ h.row, Array.getElem?_eq_getElem (by rw [evA_size h.wf]; omega)]
  rfl
theorem EW.frozen (h : EW w0 g t e pb cb q c x) (i : Nat) : x.frozen? ⟨g, i, none⟩ = false := frozen_of_row _ _ _ _ _ h.row
end
theorem loadM {P : Program} {ops : Array Oper} {rest : List Oper} {op : Oper} {a : Act} {w : World} {Q : Exit → Act → World → Prop} (hw : Region.wanted op (yielded ops a.tmps) = true) (ty : TypeId) (x : Operand) (ho : op.op = .load ty x)
    (b o : Nat) (hx : a.eval x = .pointer (some ⟨b, o, none⟩)) (M : Array Value) (d : TypeDesc) (hc : w.rangeAt b o M.toList)
    (hu : P.underlying ty = some d) (hd : d.isRow = true) (hi : (P.info? ty).map (·.size) = some M.size)
    (h : wpList P ops Q rest (a.put op.dst (.agg M)) w) : wpList P ops Q (op :: rest) a w :=
  wpList_unguard hw (wpList_load_mid rfl ty x ho b o hx M.toList d hc hu hd (by rw [Array.length_toList]; exact hi) (by rw [Array.toArray_toList]; exact h))
theorem blkA_size {h p : List UInt8} (hh : h.length = 32) (hp : p.length = 32) (q : Option Addr) (n c : Nat) : (blkA h p q n c).size = 65 := by
  rw [← Array.length_toList, blkA_toList]; simp [bytesV_length, hh, hp]
theorem blkA_one (h p : List UInt8) (q : Option Addr) (n c : Nat) : (blkA h p q n c).all (·.oneCell') = true := by
  have := all_oneCell_toArray (cs := (blkA h p q n c).toList) (fun v hv => by
    rw [blkA_toList] at hv
    simp only [List.mem_append, List.mem_singleton] at hv
    rcases hv with (hv | hv) | hv
    · exact bytesV_one _ v hv
    · exact bytesV_one _ v hv
    · rw [hv]; rfl)
  rwa [Array.toArray_toList] at this
/-! ### the kinds' words -/
def ZN : Array Value := (List.replicate 7 (Value.string ⟨#[]⟩)).toArray
theorem zeroN (w : World) : (zeroValue 63).run Tryd.prog w = .ok (.agg ZN) w := by kernel_rfl
theorem infoN (n : Nat) (h : n = 7) : (Tryd.prog.info? 63).map (·.size) = some n := by subst h; kernel_rfl
theorem oneN : ((strV K6).toArray).all (·.oneCell') = true := by kernel_rfl
theorem built_names : Tryd.prog.built 63 [(0, .string ⟨#[]⟩), (1, .string ⟨#[102, 114, 97, 109, 101]⟩), (2, .string ⟨#[99, 111, 110, 110, 101, 99, 116]⟩), (3, .string ⟨#[100, 105, 115, 99, 111, 110, 110, 101, 99, 116]⟩), (4, .string ⟨#[101, 118, 105, 99, 116]⟩), (5, .string ⟨#[97, 114, 109]⟩), (6, .string ⟨#[114, 101, 115, 116, 97, 114, 116]⟩)] = some (strV K6).toArray := by kernel_rfl
set_option maxRecDepth 100000 in
theorem names_any (w : World) : Calls Tryd.prog 21 #[] w fun e w' => e = .returned (.agg (strV K6).toArray) ∧ Below w.heap.size w w' := by
  have hz := zeroN
  go_enter Tryd.func21, Tryd.ntmps21
  go_upto_region 1 with fail
  go_wp2_with (first
    | refine Rdr.wpList_build rfl 63 _ rfl [(0, .string ⟨#[]⟩), (1, .string ⟨#[102, 114, 97, 109, 101]⟩), (2, .string ⟨#[99, 111, 110, 110, 101, 99, 116]⟩), (3, .string ⟨#[100, 105, 115, 99, 111, 110, 110, 101, 99, 116]⟩), (4, .string ⟨#[101, 118, 105, 99, 116]⟩), (5, .string ⟨#[97, 114, 109]⟩), (6, .string ⟨#[114, 101, 115, 116, 97, 114, 116]⟩)] rfl _ built_names ?_
    | refine wpList_store_row rfl 63 _ _ rfl w.heap.size (strV K6).toArray rfl rfl 63 ZN (heap_alloc_last _ _) (infoN _ rfl) rfl oneN ?_)
  have HS := Lib.hid (setRow_heap _ _ _ (strV K6).toArray _ _ (heap_alloc_last w (.cells ZN 63)))
  refine bodyPost_ret (results_cell_row rfl _ _ _ _ _ _ _ rfl HS.out Tryd.underlying63 rfl (infoN _ rfl)) rfl ?_
  exact ⟨rfl, below_setRow (Below.allocs w _) (Nat.le_refl _) _⟩
set_option maxRecDepth 100000 in
theorem rnames_any (w : World) : Calls Tryd.prog 27 #[] w fun e w' => e = .returned (.slice (some ⟨w.heap.size, 0, none⟩) 7 7) ∧ Ws w' (some ⟨w.heap.size, 0, none⟩) 7 7 K6 ∧ Below w.heap.size w w' := by
  go_enter Tryd.func27, Tryd.ntmps27
  go_wp2_with fail
  go_ret
  exact ⟨rfl, Ws.row (ls := K6) (heap_alloc_last w _) rfl (by decide), Below.allocs _ _⟩
set_option maxRecDepth 100000 in
theorem rnum_any (x : Int) (w : World) : Calls Tryd.prog 30 #[.int .i64 x] w fun e w' => e = .returned (.bool (decide (okN x))) ∧ w = w' := by
  by_cases h0 : 0 ≤ x
  · have d0 : decide (0 ≤ x) = true := decide_eq_true h0
    by_cases h1 : x ≤ 65535
    · have d1 : decide (x ≤ 65535) = true := decide_eq_true h1
      have hq : decide (okN x) = true := decide_eq_true ⟨h0, h1⟩
      rw [hq]
      clear h0 h1 hq
      go_enter Tryd.func30, Tryd.ntmps30
      go_wp2_with fail
      go_ret
      exact ⟨rfl, rfl⟩
    · have d1 : decide (x ≤ 65535) = false := decide_eq_false h1
      have hq : decide (okN x) = false := decide_eq_false (fun h => h1 h.2)
      rw [hq]
      clear h0 h1 hq
      go_enter Tryd.func30, Tryd.ntmps30
      go_wp2_with fail
      go_ret
      exact ⟨rfl, rfl⟩
  · have d0 : decide (0 ≤ x) = false := decide_eq_false h0
    have hq : decide (okN x) = false := decide_eq_false (fun h => h0 h.1)
    rw [hq]
    clear h0 hq
    go_enter Tryd.func30, Tryd.ntmps30
    go_wp2_with fail
    go_ret
    exact ⟨rfl, rfl⟩
/-- an event is told -/
def EvP (e : Ev) (w : World) (x : Ending) (w' : World) : Prop := ∃ pb cb q c, x = .returned (.agg (evA e pb cb q c)) ∧ EvAt w' e pb cb q c ∧ Below w.heap.size w w'
set_option maxRecDepth 100000 in
set_option maxHeartbeats 1600000 in
theorem plain_any {e : Ev} {pb : Option Addr} {cb : Nat} {q : Option Addr} {c : Nat} (w : World) (h : e.Wf) :
    Calls Tryd.prog 9 #[.agg (evA e pb cb q c)] w fun x w' => x = .returned (.agg (evA e pb cb q c)) ∧ Below w.heap.size w w' := by
  have hz := zeroF
  obtain ⟨a1, a2, a3, a4⟩ := Go.Mir.two_allocs w (.cells (evA e pb cb q c) 31) (.cells zE 37)
  have HC := Lib.hid (ev_row h a1)
  have HB := Lib.hid a4
  have HZ := Lib.hid a2
  have HW := Lib.hid h
  have hk := HC.out.k
  have hb := HC.out.b
  have hn := HC.out.n
  have HBU := Lib.hid (built_all e h pb cb q c)
  obtain ⟨A, hA⟩ : ∃ A, A = evA e pb cb q c := ⟨_, rfl⟩
  have HAS : Hid (A.size = 103) := by show _ = _; rw [hA]; exact evA_size h pb cb q c
  have HAO : Hid (A.all (·.oneCell') = true) := by show _ = _; rw [hA]; exact evA_one e pb cb q c
  rw [← hA] at HBU ⊢
  rw [← hA] at HC HB HZ hk hb hn
  clear a1 a2 a3 a4 h hA
  go_enter Tryd.func9, Tryd.ntmps9
  go_upto_region 1 with fail
  generalize (w.alloc (.cells A 31)).alloc (.cells zE 37) = w1 at *
  go_wp2_with (first
    | ((with_reducible refine wpAt 8 ?_); refine loadM (by rfl) 28 _ rfl w.heap.size 2 rfl (blkA e.h e.p q e.tx.length c) _ HC.out.blk Tryd.underlying28 rfl (infoBl _ (blkA_size HW.out.h HW.out.p _ _ _)) ?_)
    | ((with_reducible refine wpAt 10 ?_); refine loadM (by rfl) 25 _ rfl w.heap.size 67 rfl (idA e.id) _ HC.out.id Tryd.underlying25 rfl (infoId _ (by rw [idA_size, HW.out.id])) ?_)
    | ((with_reducible refine wpAt 14 ?_); refine loadM (by rfl) 29 _ rfl w.heap.size 100 rfl (u3L e).toArray _ HC.out.us Tryd.underlying29 rfl (infoU3 _ rfl) ?_)
    | refine Rdr.wpList_build rfl 37 _ rfl [(0, .int .i64 e.k), (1, .slice pb e.b.length cb), (2, .agg (blkA e.h e.p q e.tx.length c)), (3, .agg (idA e.id)), (4, .int .i64 e.n), (5, .agg (u3L e).toArray)] rfl _ HBU.out ?_
    | refine wpList_store_row rfl 37 _ _ rfl (w.heap.size + 1) A rfl rfl 37 zE HZ.out (infoF _ HAS.out) (by rw [HAS.out]; exact zE_size) HAO.out ?_)
  have HS := Lib.hid (setRow_heap _ _ _ A _ _ HZ.out)
  refine bodyPost_ret (results_cell_row rfl _ _ _ _ _ _ _ rfl HS.out Tryd.underlying37 rfl (infoF _ HAS.out)) rfl ?_
  exact ⟨rfl, below_setRow HB.out (by omega) _⟩
end Go.Proofs.YtcddgbobbogpgaaDoor.Scr

namespace Go.Proofs.YtcddgbobbogpgaaDoor.RR
open Go.RowKit Go.Mir Go.Mir.Parts

theorem eqI (w : World) (a b : List UInt8) (ha : a.length = 32) (hb : b.length = 32) : (Op.equalIn 10000 25 (.agg (idA a)) (.agg (idA b))).run Tryd.prog w = .ok (a == b) w :=
  run_equal_ids w 9998 Tryd.underlying25 Tryd.underlying5 (by kernel_rfl) (by kernel_rfl) (by kernel_rfl) a b ha hb
theorem infoI (n : Nat) (h : n = 32) : (Tryd.prog.info? 25).map (·.size) = some n := by subst h; kernel_rfl
theorem bretd {a b : Bool} (h : a = b) : Ending.returned (.bool a) = .returned (.bool b) := by rw [h]
theorem take_eq_step {a b : List (List UInt8)} {k : Nat} (h : a.take k = b.take k) (ha : k < a.length) (hb : k < b.length) (e : a[k] = b[k]) : a.take (k + 1) = b.take (k + 1) := by
  rw [take_snoc a k ha, take_snoc b k hb, h, e]

set_option maxRecDepth 100000 in
set_option maxHeartbeats 400000 in
theorem idsSame_any (p p2 : Option Addr) (n c n2 c2 : Nat) (la lb : List (List UInt8)) (w : World) (hA : Is w p n c 32 la) (hB : Is w p2 n2 c2 32 lb) :
    Calls Tryd.prog 34 #[.slice p n c, .slice p2 n2 c2] w fun e w' => e = .returned (.bool (la == lb)) ∧ Below w.heap.size w w' := by
  have HA := Lib.hid hA
  have HB := Lib.hid hB
  have ha := hA.sl.le
  have hb := hB.sl.le
  have ham := hA.sl.max
  have hbm := hB.sl.max
  obtain rfl : la.length = n := hA.count
  obtain rfl : lb.length = n2 := hB.count
  clear hA hB
  by_cases hl : la.length = lb.length
  · have hlen : ((la.length : Int) == (lb.length : Int)) = true := by rw [beq_iff_eq]; omega
    have hlen2 : ((la.length : Int) != (lb.length : Int)) = false := by rw [bne_eq_false_iff_eq]; omega
    have HL := Lib.hid hl
    clear hl
    go_enter Tryd.func34, Tryd.ntmps34
    go_wp2_with fail
    go_loopw [5] (fun j wr => ∃ k : Nat, k ≤ la.length ∧ j = .int .i64 k ∧ la.take k = lb.take k ∧ Below w.heap.size w wr) (fun j _ => la.length - (intOf j).toNat)
    case atStart => exact ⟨0, by omega, rfl, rfl, Below.refl _ _⟩
    case round =>
      obtain ⟨k, hk, rfl, heq, hbw⟩ := hrel
      have HEQ := Lib.hid heq
      have HBW := Lib.hid hbw
      clear heq hbw
      by_cases hlt : k < la.length
      · have hlt2 : k < lb.length := by rw [← HL.out]; exact hlt
        obtain ⟨b, o, rfl⟩ := HA.out.sl.addr (by omega) (by omega)
        obtain ⟨b2, o2, rfl⟩ := HB.out.sl.addr (by omega) (by omega)
        have HRA := Lib.hid (range_grown ((HA.out.below HBW.out).range (by omega) k hlt))
        have HRB := Lib.hid (range_grown ((HB.out.below HBW.out).range (by omega) k hlt2))
        have HLA : Hid ((la[k]'hlt).length = 32) := HA.out.each _ (List.getElem_mem _)
        have HLB : Hid ((lb[k]'hlt2).length = 32) := HB.out.each _ (List.getElem_mem _)
        have HST : Hid (la[k]'hlt = lb[k]'hlt2 → la.take (k + 1) = lb.take (k + 1)) := fun e => take_eq_step HEQ.out hlt hlt2 e
        have HNE : Hid (¬ la[k]'hlt = lb[k]'hlt2 → (la == lb) = false) := fun h => by
          rw [beq_eq_false_iff_ne]; intro e; subst e; exact h rfl
        generalize la[k]'hlt = x at *
        generalize lb[k]'hlt2 = y at *
        have hq : ∀ w, (Op.equalIn 10000 25 (.agg (idA x)) (.agg (idA y))).run Tryd.prog w = .ok (x == y) w := fun w => eqI w _ _ HLA.out HLB.out
        have hd : decide ((k : Int) < (la.length : Int)) = true := decide_eq_true (by omega)
        by_cases hxy : x = y
        · have hbq : (x == y) = true := by rw [beq_iff_eq]; exact hxy
          have HN := Lib.hid (HST.out hxy)
          clear hxy
          go_wp2_with fail
          refine wp_region_grow (by kernel_rfl) (by kernel_rfl) ?_
          repeat (first
            | refine wpQuiet_load rfl 25 _ rfl b (o + k * 32) rfl (idA x) _ HRA.out Tryd.underlying25 rfl (infoI _ (by rw [idA_size, HLA.out])) ?_
            | refine wpQuiet_load rfl 25 _ rfl b2 (o2 + k * 32) rfl (idA y) _ HRB.out Tryd.underlying25 rfl (infoI _ (by rw [idA_size, HLB.out])) ?_
            | quiet_step (fail))
          refine wpQuiet_nil ?_
          intro w3 hb3
          have HB3 := Lib.hid (HBW.out.trans (hb3.mono HBW.out.size))
          clear hb3 hq
          go_wp2_with fail
          go_roundw
          case rel => exact ⟨k + 1, by omega, by go_num, HN.out, HB3.out⟩
          case measure => simp [intOf]; omega
        · have hbq : (x == y) = false := by rw [beq_eq_false_iff_ne]; exact hxy
          have HN := Lib.hid (HNE.out hxy)
          clear hxy
          go_wp2_with fail
          refine wp_region_grow (by kernel_rfl) (by kernel_rfl) ?_
          repeat (first
            | refine wpQuiet_load rfl 25 _ rfl b (o + k * 32) rfl (idA x) _ HRA.out Tryd.underlying25 rfl (infoI _ (by rw [idA_size, HLA.out])) ?_
            | refine wpQuiet_load rfl 25 _ rfl b2 (o2 + k * 32) rfl (idA y) _ HRB.out Tryd.underlying25 rfl (infoI _ (by rw [idA_size, HLB.out])) ?_
            | quiet_step (fail))
          refine wpQuiet_nil ?_
          intro w3 hb3
          have HB3 := Lib.hid (HBW.out.trans (hb3.mono HBW.out.size))
          clear hb3 hq
          go_wp2_with fail
          go_ret
          exact ⟨bretd HN.out.symm, HB3.out⟩
      · have HR : Hid ((la == lb) = true) := by
          show _ = _
          have h1 := HEQ.out
          rw [List.take_of_length_le (by omega), List.take_of_length_le (by rw [← HL.out]; omega)] at h1
          rw [beq_iff_eq]; exact h1
        have hd : decide ((k : Int) < (la.length : Int)) = false := decide_eq_false (by omega)
        go_wp2_with fail
        go_ret
        exact ⟨bretd HR.out.symm, HBW.out⟩
  · have hlen : ((la.length : Int) == (lb.length : Int)) = false := by rw [beq_eq_false_iff_ne]; omega
    have HR : Hid ((la == lb) = false) := by
      show _ = _
      rw [beq_eq_false_iff_ne]; intro e; exact hl (by rw [e])
    clear hl
    go_enter Tryd.func34, Tryd.ntmps34
    go_wp2_with fail
    go_ret
    exact ⟨bretd HR.out.symm, Below.refl _ _⟩

end Go.Proofs.YtcddgbobbogpgaaDoor.RR
