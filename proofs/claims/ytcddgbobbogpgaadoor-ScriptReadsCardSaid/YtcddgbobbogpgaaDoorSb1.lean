/- PARTS, JOINED: FROM A WALK TO THE STATEMENT OF A LAW, ONCE FOR ALL: whoever shows that the call returns true and turns nothing below the heap's old size has the law. No program is named. Conditions: the law's arguments can be read as data. FROM A WALK TO THE STATEMENT OF A LAW WHOSE ROW LISTS VARIABLES: as XLaw, the listed content handed on. No program is named. Conditions: the law's arguments can be read as data. LAYER 12, PLAIN: bytes as signs, numbers as digits, there and back. No program is named. Conditions: none. GENERAL LEMMAS FOR ALL WALKS OF THIS SET (no program is named): slices that read as lists, rows of cells, what stays below a block, small facts on numbers. Conditions: none. THE WALKS OF strings.Builder: one that the call made, written byte by byte, and read once. Conditions: its bytes stay below 2^46. PARTS: how many bytes they have in all, and as far as one has come. No program is named. Conditions: none. LAYER 12: the walks of the text of bytes. Conditions: bytes and texts of at most 2^40. BYTES AS A STRING. No program is named. Conditions: none. STRINGS AS LISTS OF BYTES; ARRAYS OF BYTES COMPARED. No program is named. Conditions: none. -/
import Derived.WalkKit
import Derived.ProofKit
import Derived.SizedLaws
import Derived.OpenShut
import Derived.ShutString
import Derived.ChangeOld
import Derived.JoinedCond
import Derived.Below
import Derived.Deep.DeepHandedRow
import GoSem.Op.String
import Derived.WalkSpells
import Derived.WalkLawsBesides
import Derived.Deep.WholeRow
import Derived.Lib.Hide
import Derived.Lib.SlBytesConst
import Derived.Laws.AppendOwnNone
import Derived.Maps.AppendAt
import Derived.Test.YtcddgbobbogpgaaDoorProg
import Derived.Lib.FrozenHead2
import Derived.Lib.OthersKept
import Derived.Shelf.Strings.BuilderK
import Derived.RegionTactic
import Derived.ChangeAlike
import Derived.Outline
import Derived.BigQuiet
import Derived.Deep.QuietTactic
import Derived.Laws.BytesArg
import Derived.Laws.BytesString
import Derived.Deep.Draws
import Derived.ChangeKeysEq
import Derived.Laws.CopyOwn
import Derived.Laws.Rows
import Derived.Laws.ResultCell
import Derived.Laws.Tables
namespace Go.Mir
open Go.ChangeShapes Go.WideShapes Go.ChangeAt Go.RowKit

variable {H : Type} {enc : TypeId × Value → H}

theorem below_trodAll {P : Program} {W W' : World} (hl : laidOutB P = true) (hb : Below W.heap.size W W') :
    ∀ {ts : List TypeId} {vs : List Value} {ds : List (DataW H)} {ps : List MemPlace}, (∀ t ∈ ts, P.readableRec t = true ∧ t < P.types.size) →
      DataW.TrodAll enc P W 0 (fun _ => true) true ts vs ds ps → DataW.TrodAll enc P W' 0 (fun b => decide (b < W.heap.size)) true ts vs ds ps
  | [], vs, ds, ps, _, h => by
    obtain ⟨rfl, rfl, rfl⟩ := trodAll_nil h
    exact rfl
  | t :: ts, vs, ds, ps, hr, h => by
    obtain ⟨v, vs', d, ds', p, q, rfl, rfl, rfl, h0, r0⟩ := trodAll_cons h
    have lt : ∀ x ∈ p, x.block < W.heap.size := by obtain ⟨m, hm⟩ := h0; exact DataW.trod_lt m _ _ _ hm
    exact trodAll_cons_mk (Below.trod hl (hr t (by simp)).1 (hr t (by simp)).2 h0 hb lt) (below_trodAll hl hb (fun t ht => hr t (by simp [ht])) r0)

/-- the statement's post, out of the walk's -/
theorem law_post {P : Program} {fn : Func} {s : ChangeSpec} {tb : TypeId} {W W' : World} {args : Array Value} {ds : List (DataW H)} {before : List MemPlace}
    (hl : laidOutB P = true) (hr : ∀ t ∈ fn.params.toList, P.readableRec t = true ∧ t < P.types.size) (hres : fn.resultTypes = #[tb]) (hb : P.underlying tb = some .bool) (hv : s.vars = [])
    (hs : s.fn H (ds ++ []) = { results := [.lit (.bool true)], args := ds }) (hW : DataW.Whole enc P fn.params.toList s.vars false W args.toList ds [] before) (bel : Below W.heap.size W W') :
    s.post enc P fn false true false false W args (.bool true) W' := by
  have hW' := hW
  obtain ⟨p, q, hA, hV, rfl, hfz, hnd⟩ := hW
  refine ⟨ds, [], p ++ q, [], p, [], hW', ?_, ?_, ?_, bel.frame _, fun h => by cases h⟩
  · rw [hs, hres]; exact trodAll_mk1 (shut_bool hb _)
  · rw [hs]; exact below_trodAll hl bel hr hA
  · rw [hs, hv]; exact rfl

/-- a law's statement without a bound -/
theorem law_said {C : Checked} {os : Os} {f : FuncId} {fn : Func} {s : ChangeSpec} {tb : TypeId} {conds : List PathCond}
    (own : ownKnob C.prog.godebug = none) (started : os.Started) (noInit : C.prog.inits.idxOf? f = none) (hfn : C.prog.funcs[f]? = some fn)
    (witness : ∃ (w : World) (tape : Tape) (i : Input), w.os = os ∧ (w.forCall tape i).Shaped C.prog ∧ i.vars = [] ∧ Input.okWide C.prog (w.forCall tape i) .any w.heap.size f i ∧
      s.pre6 enc C.prog fn conds false (w.forCall tape i).memory i.args ∧ Assume.holds {} C.prog (lone (Frame.enter C.prog f i.args .normal) [] (w.forCall tape i)))
    (hl : laidOutB C.prog = true) (hr : fn.params.toList.all (fun t => C.prog.readableRec t && decide (t < C.prog.types.size)) = true) (hres : fn.resultTypes = #[tb]) (hb : C.prog.underlying tb = some .bool) (hv : s.vars = [])
    (walk : ∀ (W : World) (base : Nat) (args : Array Value) (ds : List (DataW H)) (p : List MemPlace),
      (∀ (j : Nat) t v, fn.params[j]? = some t → args[j]? = some v → Value.okWide C.prog W .any base t v) →
      DataW.TrodAll enc C.prog W 0 (fun _ => true) true fn.params.toList args.toList ds p →
      s.fn H (ds ++ []) = { results := [.lit (.bool true)], args := ds } ∧ Calls C.prog f args W fun e W' => e = .returned (.bool true) ∧ Below W.heap.size W W') :
    ReturnsInHanded {} C os f .any (s.pre6 enc C.prog fn conds false) (s.post enc C.prog fn false true false false) := by
  refine returnsInHanded_of_change (C := C) own started noInit hfn witness ?_
  intro W base args ds gs before hval hW hcnd _
  have hr' : ∀ t ∈ fn.params.toList, C.prog.readableRec t = true ∧ t < C.prog.types.size := fun t ht => by
    have := List.all_eq_true.1 hr t ht; simpa using this
  obtain ⟨p, q, hA, hV, rfl, hfz, hnd⟩ := id hW
  rw [hv] at hV
  obtain ⟨rfl, rfl⟩ : gs = [] ∧ q = [] := by
    cases gs with
    | nil => exact ⟨rfl, hV⟩
    | cons g gs => exact hV.elim
  obtain ⟨hs, hc⟩ := walk W base args ds p hval hA
  refine hc.mono fun e W' ⟨he, bel⟩ => ?_
  subst he
  exact ⟨_, rfl, law_post hl hr' hres hb hv hs hW bel⟩

/-- the same, with what each slice and string weighs handed on -/
theorem law_said_sized {C : Checked} {os : Os} {f : FuncId} {fn : Func} {s : ChangeSpec} {tb : TypeId} {conds : List PathCond}
    (own : ownKnob C.prog.godebug = none) (started : os.Started) (noInit : C.prog.inits.idxOf? f = none) (hfn : C.prog.funcs[f]? = some fn)
    (witness : ∃ (w : World) (tape : Tape) (i : Input), w.os = os ∧ (w.forCall tape i).Shaped C.prog ∧ i.vars = [] ∧ Input.okWide C.prog (w.forCall tape i) .any w.heap.size f i ∧
      s.pre6 enc C.prog fn conds false (w.forCall tape i).memory i.args ∧ Assume.holds {} C.prog (lone (Frame.enter C.prog f i.args .normal) [] (w.forCall tape i)))
    (hl : laidOutB C.prog = true) (hr : fn.params.toList.all (fun t => C.prog.readableRec t && decide (t < C.prog.types.size)) = true) (hres : fn.resultTypes = #[tb]) (hb : C.prog.underlying tb = some .bool) (hv : s.vars = []) (hvt : s.plain.varTypes C.prog = [])
    (walk : ∀ (W : World) (base : Nat) (args : Array Value) (ds : List (DataW H)) (p : List MemPlace),
      (∀ (j : Nat) t v, fn.params[j]? = some t → args[j]? = some v → Value.okWide C.prog W .any base t v) →
      DataW.TrodAll enc C.prog W 0 (fun _ => true) true fn.params.toList args.toList ds p → (DataW.weightsEach C.prog fn.params.toList ds).all (· ≤ reachBytes) = true →
      s.fn H (ds ++ []) = { results := [.lit (.bool true)], args := ds } ∧ Calls C.prog f args W fun e W' => e = .returned (.bool true) ∧ Below W.heap.size W W') :
    ReturnsInHanded {} C os f .any (s.pre6 enc C.prog fn conds false) (s.post enc C.prog fn false true false false) := by
  refine returnsInHanded_of_change_sized (C := C) own started noInit hfn witness ?_
  intro W base args ds gs before hval hW hcnd hwt _
  have hr' : ∀ t ∈ fn.params.toList, C.prog.readableRec t = true ∧ t < C.prog.types.size := fun t ht => by
    have := List.all_eq_true.1 hr t ht; simpa using this
  obtain ⟨p, q, hA, hV, rfl, hfz, hnd⟩ := id hW
  rw [hv] at hV
  obtain ⟨rfl, rfl⟩ : gs = [] ∧ q = [] := by
    cases gs with
    | nil => exact ⟨rfl, hV⟩
    | cons g gs => exact hV.elim
  obtain ⟨hs, hc⟩ := walk W base args ds p hval hA (by rw [hvt] at hwt; simpa using hwt)
  refine hc.mono fun e W' ⟨he, bel⟩ => ?_
  subst he
  exact ⟨_, rfl, law_post hl hr' hres hb hv hs hW bel⟩

/-- a law's statement where what it reads is bounded by 'k' -/
theorem law_upto {C : Checked} {os : Os} {f : FuncId} {fn : Func} {s : OpenSpec} {k : (H : Type) → List (DataW H) → Bool} {F : Stop.Interp} {tb : TypeId} {conds : List PathCond}
    (hk : s.cond = some k) (own : ownKnob C.prog.godebug = none) (started : os.Started) (noInit : C.prog.inits.idxOf? f = none) (hfn : C.prog.funcs[f]? = some fn)
    (witness : ∃ (w : World) (tape : Tape) (i : Input), w.os = os ∧ (w.forCall tape i).Shaped C.prog ∧ i.vars = [] ∧ Input.okWide C.prog (w.forCall tape i) .any w.heap.size f i ∧
      s.pre6 enc C.prog fn conds false (w.forCall tape i).memory i.args ∧ Assume.holds {} C.prog (lone (Frame.enter C.prog f i.args .normal) [] (w.forCall tape i)))
    (hl : laidOutB C.prog = true) (hr : fn.params.toList.all (fun t => C.prog.readableRec t && decide (t < C.prog.types.size)) = true) (hres : fn.resultTypes = #[tb]) (hb : C.prog.underlying tb = some .bool) (hv : (s.at F).vars = [])
    (walk : ∀ (W : World) (base : Nat) (args : Array Value) (ds : List (DataW H)) (p : List MemPlace),
      (∀ (j : Nat) t v, fn.params[j]? = some t → args[j]? = some v → Value.okWide C.prog W .any base t v) →
      DataW.TrodAll enc C.prog W 0 (fun _ => true) true fn.params.toList args.toList ds p → k H ds = true →
      (s.at F).fn H (ds ++ []) = { results := [.lit (.bool true)], args := ds } ∧ Calls C.prog f args W fun e W' => e = .returned (.bool true) ∧ Below W.heap.size W W') :
    ReturnsInHanded {} C os f .any (s.pre6 enc C.prog fn conds false) ((s.at F).post enc C.prog fn false true false false) := by
  refine returnsInHanded_of_cond (C := C) hk own started noInit hfn witness ?_
  intro W base args ds gs before hval hW hcnd hkk _
  have hr' : ∀ t ∈ fn.params.toList, C.prog.readableRec t = true ∧ t < C.prog.types.size := fun t ht => by
    have := List.all_eq_true.1 hr t ht; simpa using this
  have hvs : s.vars = [] := hv
  obtain ⟨p, q, hA, hV, rfl, hfz, hnd⟩ := id hW
  rw [hvs] at hV
  obtain ⟨rfl, rfl⟩ : gs = [] ∧ q = [] := by
    cases gs with
    | nil => exact ⟨rfl, hV⟩
    | cons g gs => exact hV.elim
  obtain ⟨hs, hc⟩ := walk W base args ds p hval hA (by simpa using hkk)
  refine hc.mono fun e W' ⟨he, bel⟩ => ?_
  subst he
  exact ⟨_, rfl, law_post hl hr' hres hb hv hs hW bel⟩

end Go.Mir

namespace Go.Mir
open Go.ChangeShapes Go.WideShapes Go.ChangeAt Go.RowKit
variable {H : Type} {enc : TypeId × Value → H}

theorem law_row {C : Checked} {os : Os} {f : FuncId} {fn : Func} {s : ChangeSpec} {F : Stop.Interp} {tb : TypeId} {conds : List PathCond} {laid : List (String × DataW Unit)}
    (own : ownKnob C.prog.godebug = none) (started : os.Started) (noInit : C.prog.inits.idxOf? f = none) (hfn : C.prog.funcs[f]? = some fn)
    (witness : ∃ (w : World) (tape : Tape) (i : Input), w.os = os ∧ (w.forCall tape i).Shaped C.prog ∧ i.vars = [] ∧ Input.okWide C.prog (w.forCall tape i) .any w.heap.size f i ∧
      (OpenSpec.ofChange s).preRow enc C.prog fn conds false laid (w.forCall tape i).memory i.args ∧ Assume.holds {} C.prog (lone (Frame.enter C.prog f i.args .normal) [] (w.forCall tape i)))
    (hl : laidOutB C.prog = true) (hr : fn.params.toList.all (fun t => C.prog.readableRec t && decide (t < C.prog.types.size)) = true) (hres : fn.resultTypes = #[tb]) (hb : C.prog.underlying tb = some .bool) (hv : s.vars = [])
    (walk : ∀ (W : World) (base : Nat) (args : Array Value) (ds : List (DataW H)) (p : List MemPlace),
      (∀ (j : Nat) t v, fn.params[j]? = some t → args[j]? = some v → Value.okWide C.prog W .any base t v) →
      DataW.TrodAll enc C.prog W 0 (fun _ => true) true fn.params.toList args.toList ds p → laidMetH C.prog laid W →
      s.fn H (ds ++ []) = { results := [.lit (.bool true)], args := ds } ∧ Calls C.prog f args W fun e W' => e = .returned (.bool true) ∧ Below W.heap.size W W') :
    ReturnsInHanded {} C os f .any ((OpenSpec.ofChange s).preRow enc C.prog fn conds false laid) (((OpenSpec.ofChange s).at F).post enc C.prog fn false true false false) := by
  refine returnsInHanded_of_row (C := C) (s := OpenSpec.ofChange s) own started noInit hfn witness ?_
  intro W base args ds gs before hval hW _ _ _ hL _ _
  have hr' : ∀ t ∈ fn.params.toList, C.prog.readableRec t = true ∧ t < C.prog.types.size := fun t ht => by
    have := List.all_eq_true.1 hr t ht; simpa using this
  have hW1 : DataW.Whole enc C.prog fn.params.toList s.vars false W args.toList ds gs before := hW
  obtain ⟨p, q, hA, hV, rfl, hfz, hnd⟩ := id hW1
  rw [hv] at hV
  obtain ⟨rfl, rfl⟩ : gs = [] ∧ q = [] := by
    cases gs with
    | nil => exact ⟨rfl, hV⟩
    | cons g gs => exact hV.elim
  obtain ⟨hs, hc⟩ := walk W base args ds p hval hA hL
  refine hc.mono fun e W' ⟨he, bel⟩ => ?_
  subst he
  exact ⟨_, rfl, law_post hl hr' hres hb hv hs hW1 bel⟩
theorem law_row_upto {C : Checked} {os : Os} {f : FuncId} {fn : Func} {s : OpenSpec} {k : (H : Type) → List (DataW H) → Bool} {F : Stop.Interp} {tb : TypeId} {conds : List PathCond} {laid : List (String × DataW Unit)}
    (hk : s.cond = some k) (own : ownKnob C.prog.godebug = none) (started : os.Started) (noInit : C.prog.inits.idxOf? f = none) (hfn : C.prog.funcs[f]? = some fn)
    (witness : ∃ (w : World) (tape : Tape) (i : Input), w.os = os ∧ (w.forCall tape i).Shaped C.prog ∧ i.vars = [] ∧ Input.okWide C.prog (w.forCall tape i) .any w.heap.size f i ∧
      s.preRow enc C.prog fn conds false laid (w.forCall tape i).memory i.args ∧ Assume.holds {} C.prog (lone (Frame.enter C.prog f i.args .normal) [] (w.forCall tape i)))
    (hl : laidOutB C.prog = true) (hr : fn.params.toList.all (fun t => C.prog.readableRec t && decide (t < C.prog.types.size)) = true) (hres : fn.resultTypes = #[tb]) (hb : C.prog.underlying tb = some .bool) (hv : (s.at F).vars = [])
    (walk : ∀ (W : World) (base : Nat) (args : Array Value) (ds : List (DataW H)) (p : List MemPlace),
      (∀ (j : Nat) t v, fn.params[j]? = some t → args[j]? = some v → Value.okWide C.prog W .any base t v) →
      DataW.TrodAll enc C.prog W 0 (fun _ => true) true fn.params.toList args.toList ds p → laidMetH C.prog laid W → k H ds = true →
      (s.at F).fn H (ds ++ []) = { results := [.lit (.bool true)], args := ds } ∧ Calls C.prog f args W fun e W' => e = .returned (.bool true) ∧ Below W.heap.size W W') :
    ReturnsInHanded {} C os f .any (s.preRow enc C.prog fn conds false laid) ((s.at F).post enc C.prog fn false true false false) := by
  refine returnsInHanded_of_row (C := C) (s := s) own started noInit hfn witness ?_
  intro W base args ds gs before hval hW _ hkk _ hL _ _
  have hr' : ∀ t ∈ fn.params.toList, C.prog.readableRec t = true ∧ t < C.prog.types.size := fun t ht => by
    have := List.all_eq_true.1 hr t ht; simpa using this
  have hvs : s.vars = [] := hv
  obtain ⟨p, q, hA, hV, rfl, hfz, hnd⟩ := id hW
  rw [hvs] at hV
  obtain ⟨rfl, rfl⟩ : gs = [] ∧ q = [] := by
    cases gs with
    | nil => exact ⟨rfl, hV⟩
    | cons g gs => exact hV.elim
  obtain ⟨hs, hc⟩ := walk W base args ds p hval hA hL (by simpa using hkk k hk)
  refine hc.mono fun e W' ⟨he, bel⟩ => ?_
  subst he
  exact ⟨_, rfl, law_post hl hr' hres hb hv hs hW bel⟩
end Go.Mir

namespace Go.Mir.Hx

/-! ### signs -/
/-- a half byte's sign -/
def sgn (n : Nat) : UInt8 := if n < 10 then UInt8.ofNat (48 + n) else UInt8.ofNat (87 + n)
/-- a sign's half byte -/
def dig (c : Nat) : Option Nat := if 48 ≤ c ∧ c ≤ 57 then some (c - 48) else if 97 ≤ c ∧ c ≤ 102 then some (c - 87) else none
theorem sgn_toNat (n : Nat) (h : n < 16) : (sgn n).toNat = if n < 10 then 48 + n else 87 + n := by
  unfold sgn
  split <;> (rw [UInt8.toNat_ofNat']; exact Nat.mod_eq_of_lt (by omega))
theorem dig_sgn (n : Nat) (h : n < 16) : dig (sgn n).toNat = some n := by
  rw [sgn_toNat n h]; unfold dig
  by_cases h1 : n < 10
  · rw [if_pos h1, if_pos (by omega)]; congr 1; omega
  · rw [if_neg h1, if_neg (by omega), if_pos (by omega)]; congr 1; omega
theorem dig_lt {c n : Nat} (h : dig c = some n) : n < 16 := by
  unfold dig at h
  split at h
  · cases h; omega
  · split at h
    · cases h; omega
    · cases h
theorem sgn_dig {c : UInt8} {n : Nat} (h : dig c.toNat = some n) : sgn n = c := by
  apply UInt8.toNat_inj.1
  rw [sgn_toNat n (dig_lt h)]
  unfold dig at h
  split at h
  · cases h; rw [if_pos (by omega)]; omega
  · split at h
    · cases h; rw [if_neg (by omega)]; omega
    · cases h
theorem dig_high {c : Nat} (h : 128 ≤ c) : dig c = none := by unfold dig; rw [if_neg (by omega), if_neg (by omega)]

/-- bytes as signs -/
def pairsL (b : List UInt8) : List UInt8 := b.flatMap fun x => [sgn (x.toNat / 16), sgn (x.toNat % 16)]
theorem pairsL_nil : pairsL [] = [] := rfl
theorem pairsL_cons (x : UInt8) (b : List UInt8) : pairsL (x :: b) = sgn (x.toNat / 16) :: sgn (x.toNat % 16) :: pairsL b := rfl
theorem pairsL_append (a b : List UInt8) : pairsL (a ++ b) = pairsL a ++ pairsL b := by simp [pairsL]
theorem pairsL_snoc (a : List UInt8) (x : UInt8) : pairsL (a ++ [x]) = pairsL a ++ [sgn (x.toNat / 16)] ++ [sgn (x.toNat % 16)] := by rw [pairsL_append]; simp [pairsL]
theorem pairsL_length (b : List UInt8) : (pairsL b).length = 2 * b.length := by
  induction b with
  | nil => rfl
  | cons x b ih => rw [pairsL_cons, List.length_cons, List.length_cons, ih, List.length_cons]; omega

/-- signs as bytes -/
def readL : List UInt8 → Option (List UInt8)
  | [] => some []
  | [_] => none
  | a :: b :: r => match dig a.toNat, dig b.toNat, readL r with
    | some x, some y, some l => some (UInt8.ofNat (16 * x + y) :: l)
    | _, _, _ => none
theorem readL_two (a b : UInt8) (r : List UInt8) : readL (a :: b :: r) = match dig a.toNat, dig b.toNat, readL r with
    | some x, some y, some l => some (UInt8.ofNat (16 * x + y) :: l)
    | _, _, _ => none := by rw [readL]
theorem byte_parts (x : UInt8) : UInt8.ofNat (16 * (x.toNat / 16) + x.toNat % 16) = x := by
  rw [Nat.div_add_mod]; simp
theorem readL_pairs (b : List UInt8) : readL (pairsL b) = some b := by
  induction b with
  | nil => rfl
  | cons x b ih =>
    have hx := x.toNat_lt
    rw [pairsL_cons, readL_two, dig_sgn _ (by omega), dig_sgn _ (by omega), ih]
    simp only [byte_parts]
theorem pairs_read : ∀ (s b : List UInt8), readL s = some b → pairsL b = s
  | [], b, h => by rw [readL] at h; cases h; rfl
  | [_], b, h => by rw [readL] at h; cases h
  | a :: c :: r, b, h => by
    rw [readL_two] at h
    split at h
    · rename_i x y l hx hy hl
      cases h
      have hx' := dig_lt hx
      have hy' := dig_lt hy
      rw [pairsL_cons, pairs_read r l hl, UInt8.toNat_ofNat', Nat.mod_eq_of_lt (show 16 * x + y < 2 ^ 8 by omega),
        show (16 * x + y) / 16 = x by omega, show (16 * x + y) % 16 = y by omega, sgn_dig hx, sgn_dig hy]
    · cases h
theorem read_length {s b : List UInt8} (h : readL s = some b) : s.length = 2 * b.length := by rw [← pairs_read s b h, pairsL_length]
theorem readL_odd : ∀ (s : List UInt8), s.length % 2 = 1 → readL s = none := fun s h => by
  cases hr : readL s with
  | none => rfl
  | some b => have := read_length hr; omega
/-- two signs more -/
theorem readL_append : ∀ (s t : List UInt8), s.length % 2 = 0 → readL (s ++ t) = (readL s).bind fun x => (readL t).map fun y => x ++ y
  | [], t, _ => by cases h : readL t <;> simp [readL, h]
  | [_], t, h => by simp at h
  | a :: b :: r, t, h => by
    have ih := readL_append r t (by simp at h; omega)
    rw [List.cons_append, List.cons_append, readL_two, readL_two, ih]
    cases dig a.toNat <;> cases dig b.toNat <;> cases readL r <;> cases readL t <;> rfl

/-! ### the state of a reading, sign by sign: bytes, the high half, is one half there? -/
def stp (x : List UInt8 × Nat × Bool) (n : Nat) : List UInt8 × Nat × Bool := if x.2.2 then (x.1 ++ [UInt8.ofNat (16 * x.2.1 + n)], n, false) else (x.1, n, true)
def st (x : List UInt8 × Nat × Bool) : List UInt8 → Option (List UInt8 × Nat × Bool)
  | [] => some x
  | c :: r => match dig c.toNat with
    | some n => st (stp x n) r
    | none => none
theorem st_snoc (c : UInt8) : ∀ (s : List UInt8) (x : List UInt8 × Nat × Bool), st x (s ++ [c]) = (st x s).bind fun y => (dig c.toNat).map fun n => stp y n
  | [], x => by simp only [List.nil_append, st]; cases dig c.toNat <;> rfl
  | d :: r, x => by
    rw [List.cons_append]
    simp only [st]
    cases dig d.toNat with
    | none => rfl
    | some n => exact st_snoc c r (stp x n)
theorem st_bad (c : UInt8) (h : dig c.toNat = none) : ∀ (s t : List UInt8) (x : List UInt8 × Nat × Bool), st x (s ++ c :: t) = none
  | [], t, x => by simp only [List.nil_append, st, h]
  | d :: r, t, x => by
    rw [List.cons_append]
    simp only [st]
    cases dig d.toNat with
    | none => rfl
    | some n => exact st_bad c h r t (stp x n)
/-- is it half way? -/
theorem st_half : ∀ (s : List UInt8) (x y : List UInt8 × Nat × Bool), st x s = some y → y.2.2 = (x.2.2 ^^ decide (s.length % 2 = 1))
  | [], x, y, h => by simp only [st, Option.some.injEq] at h; subst h; simp
  | c :: r, x, y, h => by
    simp only [st] at h
    cases hd : dig c.toNat with
    | none => rw [hd] at h; cases h
    | some n =>
      rw [hd] at h
      have h1 := st_half r _ y h
      have h2 : (stp x n).2.2 = !x.2.2 := by unfold stp; cases x.2.2 <;> rfl
      rw [h1, h2]
      by_cases hp : r.length % 2 = 1
      · rw [decide_eq_true hp, decide_eq_false (by simp; omega)]; cases x.2.2 <;> rfl
      · rw [decide_eq_false hp, decide_eq_true (by simp; omega)]; cases x.2.2 <;> rfl
theorem st_read : ∀ (s : List UInt8) (o : List UInt8) (h0 : Nat), s.length % 2 = 0 → (st (o, h0, false) s).map (·.1) = (readL s).map (o ++ ·)
  | [], o, h0, _ => by simp [st, readL]
  | [_], o, h0, h => by simp at h
  | a :: b :: r, o, h0, h => by
    rw [readL_two]
    simp only [st]
    cases ha : dig a.toNat with
    | none => rfl
    | some x =>
      cases hb : dig b.toNat with
      | none => rfl
      | some y =>
        have ih := st_read r (o ++ [UInt8.ofNat (16 * x + y)]) y (by simp at h; omega)
        simp only [stp, Bool.false_eq_true, if_false, if_true]
        rw [ih]
        cases readL r <;> simp
/-- the end of a reading -/
theorem st_end (s : List UInt8) : (match st ([], 0, false) s with | some y => (if y.2.2 then none else some y.1) | none => none) = readL s := by
  cases h : st ([], 0, false) s with
  | none =>
    by_cases hp : s.length % 2 = 1
    · rw [readL_odd s hp]
    · have h1 := st_read s [] 0 (by omega)
      rw [h] at h1
      cases hr : readL s with
      | none => rfl
      | some l => rw [hr] at h1; cases h1
  | some y =>
    have h2 := st_half s _ y h
    simp only
    by_cases hp : s.length % 2 = 1
    · rw [h2, decide_eq_true hp, readL_odd s hp]; rfl
    · have h1 := st_read s [] 0 (by omega)
      rw [h] at h1
      rw [h2, decide_eq_false hp]
      cases hr : readL s with
      | none => rw [hr] at h1; cases h1
      | some l =>
        rw [hr] at h1
        simp only [Option.map_some, List.nil_append, Option.some.injEq] at h1
        simp [h1]

/-- bytes told, and a text read -/
def textL (l : List UInt8) : List UInt8 := if l = [] then [45] else pairsL l
def bytesL (l : List UInt8) : Option (List UInt8) := if l = [45] then some [] else if l = [] then none else readL l
theorem pairsL_ne (l : List UInt8) : pairsL l ≠ [45] := fun h => by
  have := congrArg List.length h
  rw [pairsL_length] at this; simp at this; omega
theorem bytes_text (l : List UInt8) : bytesL (textL l) = some l := by
  unfold textL
  by_cases h : l = []
  · rw [if_pos h, h]; rfl
  · rw [if_neg h]
    unfold bytesL
    rw [if_neg (pairsL_ne l), if_neg (fun e => h (by
      have := congrArg List.length e
      rw [pairsL_length] at this
      exact List.length_eq_zero_iff.1 (by simp at this; omega)))]
    exact readL_pairs l
theorem text_bytes (s b : List UInt8) (h : bytesL s = some b) : textL b = s := by
  unfold bytesL at h
  split at h
  · rename_i h1; cases h; rw [h1]; rfl
  · split at h
    · cases h
    · rename_i h1 h2
      have := pairs_read s b h
      unfold textL
      rw [if_neg (fun e => h2 (by rw [← this, e]; rfl))]
      exact this

/-! ### ids: the last zero bytes go -/
/-- how many bytes of an id are told -/
def trimN (x : List UInt8) : Nat → Nat
  | 0 => 0
  | 1 => 1
  | n + 2 => if x[n + 1]? = some 0 then trimN x (n + 1) else n + 2
theorem trimN_bounds (x : List UInt8) : ∀ n, trimN x n ≤ n ∧ (0 < n → 0 < trimN x n)
  | 0 => ⟨Nat.le_refl _, fun h => h⟩
  | 1 => ⟨Nat.le_refl _, fun _ => by simp [trimN]⟩
  | n + 2 => by
    have ih := trimN_bounds x (n + 1)
    rw [trimN]
    split
    · exact ⟨by omega, fun _ => ih.2 (by omega)⟩
    · exact ⟨Nat.le_refl _, fun _ => by omega⟩
theorem trimN_zero (x : List UInt8) : ∀ n i, trimN x n ≤ i → i < n → x[i]? = some 0
  | 0, i, _, h => by omega
  | 1, i, h, h' => by simp only [trimN] at h; omega
  | n + 2, i, h, h' => by
    rw [trimN] at h
    split at h
    · rename_i hz
      by_cases hi : i = n + 1
      · rw [hi]; exact hz
      · exact trimN_zero x (n + 1) i h (by omega)
    · omega
theorem trimN_last (x : List UInt8) : ∀ n, 1 < trimN x n → x[trimN x n - 1]? ≠ some 0
  | 0, h => by simp [trimN] at h
  | 1, h => by simp [trimN] at h
  | n + 2, h => by
    rw [trimN] at h ⊢
    split at h
    · rename_i hz; rw [if_pos hz]; exact trimN_last x (n + 1) h
    · rename_i hz; rw [if_neg hz]; simpa using hz
theorem trimN_step (x : List UInt8) (n : Nat) (h : 1 < n) (hz : x[n - 1]? = some 0) : trimN x n = trimN x (n - 1) := by
  obtain ⟨m, rfl⟩ : ∃ m, n = m + 2 := ⟨n - 2, by omega⟩
  rw [trimN, if_pos (by simpa using hz)]; rfl
theorem trimN_stop (x : List UInt8) (n : Nat) (h : n ≤ 1 ∨ x[n - 1]? ≠ some 0) : trimN x n = n := by
  match n with
  | 0 => rfl
  | 1 => rfl
  | m + 2 => rw [trimN, if_neg (by rcases h with h | h; omega; simpa using h)]
/-- bytes, and zeros up to 32 -/
def padId (b : List UInt8) : List UInt8 := b ++ List.replicate (32 - b.length) 0
theorem padId_length (b : List UInt8) (h : b.length ≤ 32) : (padId b).length = 32 := by simp [padId]; omega
theorem padId_get (b : List UInt8) (h : b.length ≤ 32) (i : Nat) (hi : i < 32) : (padId b)[i]? = some (b.getD i 0) := by
  unfold padId
  by_cases hb : i < b.length
  · rw [List.getElem?_append_left hb]; simp [hb]
  · rw [List.getElem?_append_right (by omega), List.getElem?_replicate_of_lt (by omega)]
    simp [List.getD, List.getElem?_eq_none (by omega : b.length ≤ i)]
/-- an id, told, and padded again -/
theorem pad_trim (x : List UInt8) (h : x.length = 32) : padId (x.take (trimN x 32)) = x := by
  have hb := trimN_bounds x 32
  have hl : (x.take (trimN x 32)).length = trimN x 32 := by rw [List.length_take]; omega
  apply List.ext_getElem?
  intro i
  by_cases hi : i < 32
  · rw [padId_get _ (by omega) i hi]
    by_cases hk : i < trimN x 32
    · rw [List.getD_eq_getElem?_getD, List.getElem?_take_of_lt hk, List.getElem?_eq_getElem (by omega)]; rfl
    · rw [trimN_zero x 32 i (by omega) hi, List.getD_eq_getElem?_getD, List.getElem?_eq_none (by omega)]; rfl
  · rw [List.getElem?_eq_none (by rw [padId_length _ (by omega)]; omega), List.getElem?_eq_none (by omega)]
/-- which bytes are an id's, told -/
theorem trim_pad (b : List UInt8) (h0 : 0 < b.length) (h : b.length ≤ 32) : (padId b).take (trimN (padId b) 32) = b ↔ (b.length ≤ 1 ∨ b[b.length - 1]? ≠ some 0) := by
  have key : ∀ k, b.length ≤ k → k ≤ 32 → trimN (padId b) k = trimN (padId b) b.length := by
    intro k hk h32
    induction k with
    | zero => omega
    | succ k ih =>
      by_cases e : b.length = k + 1
      · rw [e]
      · rw [trimN_step _ (k + 1) (by omega) (by rw [Nat.add_sub_cancel, padId_get b h k (by omega), List.getD_eq_getElem?_getD, List.getElem?_eq_none (by omega)]; rfl)]
        exact ih (by omega) (by omega)
  rw [key 32 h (Nat.le_refl _)]
  have hlast : (padId b)[b.length - 1]? = b[b.length - 1]? := by unfold padId; rw [List.getElem?_append_left (by omega)]
  constructor
  · intro he
    by_cases h1 : b.length ≤ 1
    · exact .inl h1
    · refine .inr ?_
      have ht : trimN (padId b) b.length = b.length := by
        have := congrArg List.length he
        rw [List.length_take, padId_length b h] at this
        have := (trimN_bounds (padId b) b.length).1
        omega
      have := trimN_last (padId b) b.length (by omega)
      rw [ht, hlast] at this; exact this
  · intro hc
    rw [trimN_stop _ _ (by rcases hc with hc | hc; exact .inl hc; exact .inr (by rw [hlast]; exact hc))]
    unfold padId
    rw [List.take_left']; rfl
theorem padId_inj {a b : List UInt8} (ha : a.length = 32) (hb : b.length = 32) (h : pairsL (a.take (trimN a 32)) = pairsL (b.take (trimN b 32))) : a = b := by
  have h1 : a.take (trimN a 32) = b.take (trimN b 32) := by
    have e1 := readL_pairs (a.take (trimN a 32))
    rw [h, readL_pairs] at e1
    exact (Option.some.inj e1).symm
  rw [← pad_trim a ha, h1, pad_trim b hb]

/-! ### numbers -/
def dec : Nat → Nat → List UInt8
  | 0, _ => []
  | f + 1, n => if n < 10 then [UInt8.ofNat (48 + n)] else dec f (n / 10) ++ [UInt8.ofNat (48 + n % 10)]
/-- a number's digits -/
def decL (n : Nat) : List UInt8 := dec (n + 1) n
theorem dec_enough : ∀ (f g n : Nat), n < f → n < g → dec f n = dec g n
  | 0, _, _, h, _ => by omega
  | _, 0, _, _, h => by omega
  | f + 1, g + 1, n, hf, hg => by
    rw [dec, dec]
    split
    · rfl
    · rw [dec_enough f g (n / 10) (by omega) (by omega)]
theorem decL_small (n : Nat) (h : n < 10) : decL n = [UInt8.ofNat (48 + n)] := by rw [decL, dec, if_pos h]
theorem decL_big (n : Nat) (h : 10 ≤ n) : decL n = decL (n / 10) ++ [UInt8.ofNat (48 + n % 10)] := by
  rw [decL, dec, if_neg (by omega), decL, dec_enough n (n / 10 + 1) (n / 10) (by omega) (by omega)]
def isD (c : UInt8) : Prop := 48 ≤ c.toNat ∧ c.toNat ≤ 57
def val (s : List UInt8) : Nat := s.foldl (fun n c => 10 * n + (c.toNat - 48)) 0
theorem val_snoc (s : List UInt8) (c : UInt8) : val (s ++ [c]) = 10 * val s + (c.toNat - 48) := by simp [val]
theorem digit_toNat (n : Nat) (h : n < 10) : (UInt8.ofNat (48 + n)).toNat = 48 + n := by rw [UInt8.toNat_ofNat']; exact Nat.mod_eq_of_lt (by omega)
theorem val_dec (n : Nat) : val (decL n) = n := by
  induction n using Nat.strongRecOn with
  | _ n ih =>
    by_cases h : n < 10
    · rw [decL_small n h]; simp only [val, List.foldl]; rw [digit_toNat n h]; omega
    · rw [decL_big n (by omega), val_snoc, ih (n / 10) (by omega), digit_toNat _ (by omega)]; omega
theorem dec_digits (n : Nat) : ∀ c ∈ decL n, isD c := by
  induction n using Nat.strongRecOn with
  | _ n ih =>
    by_cases h : n < 10
    · rw [decL_small n h]; intro c hc; simp only [List.mem_singleton] at hc; subst hc; unfold isD; rw [digit_toNat n h]; omega
    · rw [decL_big n (by omega)]; intro c hc
      rw [List.mem_append] at hc
      rcases hc with hc | hc
      · exact ih (n / 10) (by omega) c hc
      · simp only [List.mem_singleton] at hc; subst hc; unfold isD; rw [digit_toNat _ (by omega)]; omega
theorem dec_pos (n : Nat) : 0 < (decL n).length := by
  by_cases h : n < 10
  · rw [decL_small n h]; simp
  · rw [decL_big n (by omega)]; simp
/-- how many digits -/
theorem dec_bounds (n : Nat) : n < 10 ^ (decL n).length ∧ (10 ≤ n → 10 ^ ((decL n).length - 1) ≤ n) := by
  induction n using Nat.strongRecOn with
  | _ n ih =>
    by_cases h : n < 10
    · rw [decL_small n h]; exact ⟨by simpa using h, fun h => by omega⟩
    · have hi := ih (n / 10) (by omega)
      have hp := dec_pos (n / 10)
      rw [decL_big n (by omega), List.length_append, List.length_singleton, Nat.add_sub_cancel]
      refine ⟨by rw [Nat.pow_succ]; omega, fun _ => ?_⟩
      by_cases h2 : 10 ≤ n / 10
      · have h3 := hi.2 h2
        obtain ⟨m, hm⟩ : ∃ m, (decL (n / 10)).length = m + 1 := ⟨(decL (n / 10)).length - 1, by omega⟩
        rw [hm] at h3 ⊢
        rw [Nat.pow_succ]
        simp only [Nat.add_sub_cancel] at h3
        omega
      · rw [decL_small (n / 10) (by omega)]; simpa using h
/-- a number's text: digits, and no zero ahead -/
def Nice (s : List UInt8) : Prop := s ≠ [] ∧ (∀ c ∈ s, isD c) ∧ (s[0]? = some 48 → s.length = 1)
theorem snocRec {P : List UInt8 → Prop} (h0 : P []) (h1 : ∀ s c, P s → P (s ++ [c])) (s : List UInt8) : P s := by
  have key : ∀ l : List UInt8, P l.reverse := by
    intro l
    induction l with
    | nil => exact h0
    | cons c l ih => rw [List.reverse_cons]; exact h1 _ c ih
  have := key s.reverse
  rwa [List.reverse_reverse] at this
theorem val_lt : ∀ (s : List UInt8), (∀ c ∈ s, isD c) → val s < 10 ^ s.length := by
  intro s
  refine snocRec (P := fun s => (∀ c ∈ s, isD c) → val s < 10 ^ s.length) ?_ ?_ s
  · intro _; simp [val]
  · intro s c ih h
    have h1 := ih (fun x hx => h x (by simp [hx]))
    have h2 := h c (by simp)
    unfold isD at h2
    rw [val_snoc, List.length_append, List.length_singleton, Nat.pow_succ]
    omega
theorem dec_val : ∀ (s : List UInt8), Nice s → decL (val s) = s := by
  intro s
  refine snocRec (P := fun s => Nice s → decL (val s) = s) ?_ ?_ s
  · intro h; exact absurd rfl h.1
  · intro s c ih h
    have hc := h.2.1 c (by simp)
    unfold isD at hc
    have hc8 : UInt8.ofNat (48 + (c.toNat - 48)) = c := by rw [show 48 + (c.toNat - 48) = c.toNat by omega]; simp
    by_cases hs : s = []
    · subst hs
      rw [List.nil_append, show [c] = ([] : List UInt8) ++ [c] from rfl, val_snoc]
      rw [show 10 * val [] + (c.toNat - 48) = c.toNat - 48 by simp [val], decL_small _ (by omega), hc8]; rfl
    · have hn : Nice s := ⟨hs, fun x hx => h.2.1 x (by simp [hx]), fun h0 => by
        have hl : 0 < s.length := List.length_pos_iff.2 hs
        have := h.2.2 (by rw [List.getElem?_append_left hl]; exact h0)
        rw [List.length_append, List.length_singleton] at this; omega⟩
      have ih' := ih hn
      have hpos : 0 < val s := by
        rcases Nat.eq_zero_or_pos (val s) with h0 | h0
        · exfalso
          rw [h0, decL_small 0 (by omega)] at ih'
          have := h.2.2 (by rw [← ih']; rfl)
          rw [← ih'] at this; simp at this
        · exact h0
      rw [val_snoc, decL_big _ (by omega), show (10 * val s + (c.toNat - 48)) / 10 = val s by omega, show (10 * val s + (c.toNat - 48)) % 10 = c.toNat - 48 by omega, ih', hc8]
theorem dec_nice (n : Nat) : Nice (decL n) := by
  refine ⟨fun h => by have := dec_pos n; rw [h] at this; simp at this, dec_digits n, ?_⟩
  induction n using Nat.strongRecOn with
  | _ n ih =>
    intro h
    by_cases h1 : n < 10
    · rw [decL_small n h1]; rfl
    · exfalso
      rw [decL_big n (by omega), List.getElem?_append_left (dec_pos _)] at h
      have h2 := ih (n / 10) (by omega) h
      by_cases h3 : n / 10 < 10
      · rw [decL_small _ h3] at h
        have h4 : UInt8.ofNat (48 + n / 10) = 48 := by simpa using h
        have := congrArg UInt8.toNat h4
        rw [digit_toNat _ h3] at this
        have h5 : (48 : UInt8).toNat = 48 := rfl
        omega
      · have := (dec_bounds (n / 10)).1
        rw [h2] at this; omega
theorem foldl_val : ∀ (s : List UInt8) (n : Nat), s.foldl (fun n c => 10 * n + (c.toNat - 48)) n = n * 10 ^ s.length + val s
  | [], n => by simp [val]
  | c :: s, n => by
    have h0 : val (c :: s) = s.foldl (fun n c => 10 * n + (c.toNat - 48)) (c.toNat - 48) := by simp [val]
    rw [h0, List.foldl_cons, foldl_val s, foldl_val s (c.toNat - 48), List.length_cons, Nat.pow_succ, Nat.add_mul]
    have : 10 * n * 10 ^ s.length = n * (10 ^ s.length * 10) := by rw [Nat.mul_comm 10 n, Nat.mul_assoc, Nat.mul_comm 10]
    omega
theorem val_cons (c : UInt8) (s : List UInt8) : val (c :: s) = (c.toNat - 48) * 10 ^ s.length + val s := by
  have h := foldl_val s (c.toNat - 48)
  rw [← h]; simp [val]
/-- the order of texts of one length is that of their numbers -/
theorem less_val : ∀ (a b : List UInt8), a.length = b.length → (∀ c ∈ a, isD c) → (∀ c ∈ b, isD c) → (Op.bytesLess a b = true ↔ val a < val b)
  | [], [], _, _, _ => by simp [Op.bytesLess, val]
  | [], _ :: _, h, _, _ => by simp at h
  | _ :: _, [], h, _, _ => by simp at h
  | x :: a, y :: b, h, ha, hb => by
    have hl : a.length = b.length := by simpa using h
    have ih := less_val a b hl (fun c hc => ha c (by simp [hc])) (fun c hc => hb c (by simp [hc]))
    have hx := ha x (by simp)
    have hy := hb y (by simp)
    unfold isD at hx hy
    have va := val_lt a (fun c hc => ha c (by simp [hc]))
    have vb := val_lt b (fun c hc => hb c (by simp [hc]))
    rw [val_cons, val_cons, ← hl]
    rw [← hl] at vb
    generalize 10 ^ a.length = P at *
    simp only [Op.bytesLess, Bool.or_eq_true, Bool.and_eq_true, decide_eq_true_eq, beq_iff_eq, ih, UInt8.lt_iff_toNat_lt]
    rcases Nat.lt_trichotomy x.toNat y.toNat with hc | hc | hc
    · obtain ⟨d, hd⟩ : ∃ d, y.toNat - 48 = (x.toNat - 48) + (d + 1) := ⟨y.toNat - x.toNat - 1, by omega⟩
      rw [hd, Nat.add_mul, Nat.add_mul, Nat.one_mul]
      exact ⟨fun _ => by omega, fun _ => .inl hc⟩
    · have hxy : x = y := UInt8.toNat_inj.1 hc
      subst hxy
      constructor
      · rintro (h | h)
        · omega
        · omega
      · intro h; exact .inr ⟨rfl, by omega⟩
    · obtain ⟨d, hd⟩ : ∃ d, x.toNat - 48 = (y.toNat - 48) + (d + 1) := ⟨x.toNat - y.toNat - 1, by omega⟩
      rw [hd, Nat.add_mul, Nat.add_mul, Nat.one_mul]
      constructor
      · rintro (h | h)
        · omega
        · have := h.1; subst this; omega
      · intro h; omega
theorem dec_longer (v m : Nat) (h : (decL m).length < (decL v).length) : m < v := by
  have h1 := (dec_bounds m).1
  have h2 := dec_bounds v
  have hp := dec_pos m
  by_cases hv : v < 10
  · have h5 : (decL v).length = 1 := by rw [decL_small v hv]; rfl
    omega
  · have h3 := h2.2 (by omega)
    have h4 : 10 ^ (decL m).length ≤ 10 ^ ((decL v).length - 1) := Nat.pow_le_pow_right (by omega) (by omega)
    omega
/-- which texts tell too great a number -/
theorem too_great (s : List UInt8) (m : Nat) (h : Nice s) : ((decL m).length < s.length ∨ s.length = (decL m).length ∧ Op.bytesLess (decL m) s = true) ↔ m < val s := by
  have hs := dec_val s h
  rcases Nat.lt_trichotomy (decL m).length s.length with hl | hl | hl
  · exact ⟨fun _ => dec_longer _ _ (by rw [hs]; exact hl), fun _ => .inl hl⟩
  · have h1 := less_val (decL m) s hl (dec_digits m) h.2.1
    rw [val_dec] at h1
    exact ⟨fun h => by rcases h with h | h; omega; exact h1.1 h.2, fun h => .inr ⟨hl.symm, h1.2 h⟩⟩
  · have h1 := dec_longer m (val s) (by rw [hs]; exact hl)
    exact ⟨fun h => by rcases h with h | h <;> omega, fun h => by omega⟩
end Go.Mir.Hx

namespace Go.Mir
open Go.RowKit

/-- a slice whose cells read as 'vs': n elements of 'size' cells each, c of room -/
structure Sl (w : World) (p : Option Addr) (n c size : Nat) (vs : List Value) : Prop where
  len : vs.length = n * size
  le : n ≤ c
  max : c ≤ 9223372036854775807
  nil0 : p = none → c = 0
  cell : ∀ a, p = some a → ∀ j u, vs[j]? = some u → w.cell? (a.add j) = some u

theorem Sl.below {w w' : World} {p : Option Addr} {n c size : Nat} {vs : List Value} (h : Sl w p n c size vs) (hb : Below w.heap.size w w') : Sl w' p n c size vs :=
  ⟨h.len, h.le, h.max, h.nil0, fun a ha j u hu => by
    have := h.cell a ha j u hu
    rw [hb.cell (block_lt_of_cell this)]; exact this⟩

theorem addr_add_block (a : Addr) (j : Nat) : (a.add j).block = a.block := by unfold Addr.add; split <;> rfl

/-- the same below a smaller block, where all its cells lie there -/
theorem Sl.below' {B : Nat} {w w' : World} {p : Option Addr} {n c size : Nat} {vs : List Value} (h : Sl w p n c size vs) (hb : Below B w w') (hB : ∀ a, p = some a → a.block < B) : Sl w' p n c size vs :=
  ⟨h.len, h.le, h.max, h.nil0, fun a ha j u hu => by
    have := h.cell a ha j u hu
    rw [hb.cell (by rw [addr_add_block]; exact hB a ha)]; exact this⟩

theorem Sl.nil (w : World) (size : Nat) : Sl w none 0 0 size [] := ⟨by simp, by omega, by omega, fun _ => rfl, fun _ h => by cases h⟩

theorem cell_spot {w : World} {a : Addr} {v : Value} (h : w.cell? a = some v) : a = ⟨a.block, a.off, none⟩ := by
  obtain ⟨b, o, s⟩ := a
  cases s with
  | none => rfl
  | some k => simp only [World.cell?] at h; split at h <;> simp at h

theorem add_none (b o j : Nat) : (⟨b, o, none⟩ : Addr).add j = ⟨b, o + j, none⟩ := Addr.add_lit b o j

/-- where there is an element there is an address -/
theorem Sl.addr {w : World} {p : Option Addr} {n c size : Nat} {vs : List Value} (h : Sl w p n c size vs) (hn : 0 < n) (hs : 0 < size) : ∃ b o, p = some ⟨b, o, none⟩ := by
  cases p with
  | none => have := h.nil0 rfl; have := h.le; omega
  | some a =>
    have hl : 0 < vs.length := by rw [h.len]; exact Nat.mul_pos hn hs
    have := h.cell a rfl 0 vs[0] (by simp [hl])
    rw [show a.add 0 = a from rfl] at this
    exact ⟨a.block, a.off, congrArg some (cell_spot this)⟩

theorem Sl.at {w : World} {b o : Nat} {n c size : Nat} {vs : List Value} (h : Sl w (some ⟨b, o, none⟩) n c size vs) {j : Nat} {u : Value} (hu : vs[j]? = some u) : w.cell? ⟨b, o + j, none⟩ = some u := by
  rw [← add_none]; exact h.cell _ rfl j u hu

/-- bytes, numbers of a kind, as values -/
def bytesV (l : List UInt8) : List Value := l.map fun b => .int .u8 (b.toNat : Int)
theorem bytesV_length (l : List UInt8) : (bytesV l).length = l.length := by simp [bytesV]
theorem bytesV_get (l : List UInt8) (j : Nat) (h : j < l.length) : (bytesV l)[j]? = some (.int .u8 (l[j].toNat : Int)) := by simp [bytesV, h]
theorem bytesV_append (a b : List UInt8) : bytesV (a ++ b) = bytesV a ++ bytesV b := by simp [bytesV]
theorem bytesV_one (l : List UInt8) : ∀ u ∈ bytesV l, u.oneCell' = true := by
  intro u hu; simp only [bytesV, List.mem_map] at hu; obtain ⟨_, _, rfl⟩ := hu; rfl

/-- a []byte that reads as 'l' -/
abbrev Bs (w : World) (p : Option Addr) (n c : Nat) (l : List UInt8) : Prop := Sl w p n c 1 (bytesV l)
theorem Bs.length {w : World} {p : Option Addr} {n c : Nat} {l : List UInt8} (h : Bs w p n c l) : l.length = n := by
  have := h.len; simpa [bytesV_length] using this
theorem Bs.byte {w : World} {b o : Nat} {n c : Nat} {l : List UInt8} (h : Bs w (some ⟨b, o, none⟩) n c l) {j : Nat} (hj : j < l.length) : w.cell? ⟨b, o + j, none⟩ = some (.int .u8 (l[j].toNat : Int)) :=
  h.at (bytesV_get l j hj)

theorem getElem?_flatMap {α β : Type} (f : α → List β) (m : Nat) : ∀ (l : List α), (∀ x ∈ l, (f x).length = m) → ∀ i j (hi : i < l.length), j < m → (l.flatMap f)[i * m + j]? = (f l[i])[j]?
  | [], _, _, _, hi, _ => by simp at hi
  | x :: l, h, i, j, hi, hj => by
    rw [List.flatMap_cons]
    have hx := h x (by simp)
    cases i with
    | zero => rw [Nat.zero_mul, Nat.zero_add, List.getElem?_append_left (by omega)]; rfl
    | succ i =>
      rw [List.getElem?_append_right (by rw [hx, Nat.add_mul]; omega), hx, show (i + 1) * m + j - m = i * m + j from by rw [Nat.add_mul]; omega]
      exact getElem?_flatMap f m l (fun y hy => h y (by simp [hy])) i j (by simpa using hi) hj
/-- a slice of arrays of bytes, each of 'size' -/
structure Is (w : World) (p : Option Addr) (n c size : Nat) (ids : List (List UInt8)) : Prop where
  sl : Sl w p n c size (ids.flatMap bytesV)
  each : ∀ x ∈ ids, x.length = size
  count : ids.length = n
theorem Is.below {w w' : World} {p : Option Addr} {n c size : Nat} {ids : List (List UInt8)} (h : Is w p n c size ids) (hb : Below w.heap.size w w') : Is w' p n c size ids := ⟨h.sl.below hb, h.each, h.count⟩
theorem Is.one {w : World} {b o n c size : Nat} {ids : List (List UInt8)} (h : Is w (some ⟨b, o, none⟩) n c size ids) (i : Nat) (hi : i < ids.length) (hs : size ≤ 9223372036854775807) : Bs w (some ⟨b, o + i * size, none⟩) size size ids[i] :=
  ⟨by rw [bytesV_length, h.each _ (List.getElem_mem hi), Nat.mul_one], Nat.le_refl _, hs, fun h => (by cases h), fun a ha j u hu => by
    obtain rfl := Option.some.inj ha
    have hj : j < size := by
      have := (List.getElem?_eq_some_iff.1 hu).1
      rwa [bytesV_length, h.each _ (List.getElem_mem hi)] at this
    rw [add_none, Nat.add_assoc]
    refine h.sl.at ?_
    rw [getElem?_flatMap bytesV size ids (fun x hx => by rw [bytesV_length, h.each x hx]) i j hi hj]; exact hu⟩

/-- [][]byte: each element a slice of its own -/
structure Pts (w : World) (p : Option Addr) (n c : Nat) (ls : List (List UInt8)) : Prop where
  len : ls.length = n
  le : n ≤ c
  max : c ≤ 9223372036854775807
  nil0 : p = none → c = 0
  cell : ∀ a, p = some a → ∀ j (h : j < ls.length), ∃ q m k, w.cell? (a.add j) = some (.slice q m k) ∧ Bs w q m k ls[j]

theorem Pts.below {w w' : World} {p : Option Addr} {n c : Nat} {ls : List (List UInt8)} (h : Pts w p n c ls) (hb : Below w.heap.size w w') : Pts w' p n c ls :=
  ⟨h.len, h.le, h.max, h.nil0, fun a ha j hj => by
    obtain ⟨q, m, k, h1, h2⟩ := h.cell a ha j hj
    exact ⟨q, m, k, by rw [hb.cell (block_lt_of_cell h1)]; exact h1, h2.below hb⟩⟩
theorem Pts.addr {w : World} {p : Option Addr} {n c : Nat} {ls : List (List UInt8)} (h : Pts w p n c ls) (hn : 0 < n) : ∃ b o, p = some ⟨b, o, none⟩ := by
  cases p with
  | none => have := h.nil0 rfl; have := h.le; omega
  | some a =>
    obtain ⟨q, m, k, h1, _⟩ := h.cell a rfl 0 (by rw [h.len]; exact hn)
    rw [show a.add 0 = a from rfl] at h1
    exact ⟨a.block, a.off, congrArg some (cell_spot h1)⟩

theorem Below.allocs (w : World) (o : Obj) : Below w.heap.size w (w.alloc o) := (Below.refl _ _).alloc (Nat.le_refl _) _
theorem cell_alloc_new (w : World) (cs : Array Value) (t : TypeId) (j : Nat) : (w.alloc (.cells cs t)).cell? ⟨w.heap.size, j, none⟩ = cs[j]? := by
  rw [cell_of_row _ _ _ _ _ _ (heap_alloc_last _ _)]

/-- the slices that a literal has just laid -/
theorem Pts.made0 (w : World) : Pts w none 0 0 [] := ⟨rfl, by omega, by omega, fun _ => rfl, fun _ h => by cases h⟩
theorem Pts.made1 {w : World} {p : Option Addr} {n c b : Nat} {l : List UInt8} (h : Bs w p n c l) (t : TypeId) (hb : b = w.heap.size) : Pts (w.alloc (.cells #[.slice p n c] t)) (some ⟨b, 0, none⟩) 1 1 [l] := by
  subst hb
  exact ⟨rfl, by omega, by omega, fun h => (by cases h), fun a ha j hj => by
    obtain rfl := Option.some.inj ha
    have hj0 : j = 0 := by simp at hj; omega
    subst hj0
    exact ⟨p, n, c, by rw [add_none, cell_alloc_new]; rfl, h.below (Below.allocs _ _)⟩⟩
theorem Pts.made2 {w : World} {p p' : Option Addr} {n c n' c' b : Nat} {l l' : List UInt8} (h : Bs w p n c l) (h' : Bs w p' n' c' l') (t : TypeId) (hb : b = w.heap.size) : Pts (w.alloc (.cells #[.slice p n c, .slice p' n' c'] t)) (some ⟨b, 0, none⟩) 2 2 [l, l'] := by
  subst hb
  exact ⟨rfl, by omega, by omega, fun h => (by cases h), fun a ha j hj => by
    obtain rfl := Option.some.inj ha
    have hj2 : j = 0 ∨ j = 1 := by simp at hj; omega
    rcases hj2 with rfl | rfl
    · exact ⟨p, n, c, by rw [add_none, cell_alloc_new]; rfl, h.below (Below.allocs _ _)⟩
    · exact ⟨p', n', c', by rw [add_none, cell_alloc_new]; rfl, h'.below (Below.allocs _ _)⟩⟩
/-- the bytes that a literal has just laid -/
theorem Bs.made (w : World) (l : List UInt8) (cs : Array Value) (t : TypeId) (fr : Nat × Nat) (n : Nat) (hcs : cs.toList = bytesV l) (hn : l.length = n) (hm : n ≤ 9223372036854775807) : Bs (w.alloc (.cells cs t fr)) (some ⟨w.heap.size, 0, none⟩) n n l :=
  ⟨by rw [bytesV_length, hn, Nat.mul_one], by omega, hm, fun h => (by cases h), fun a ha j u hu => by
    obtain rfl := Option.some.inj ha
    rw [add_none, World.cell?_alloc_mark, ← Array.getElem?_toList, hcs, Nat.zero_add]; exact hu⟩

theorem own_below {w w' : World} {base e size n : Nat} {v : Value} {xs : List Value} (h : w.ownsRow base e size v n xs) (hg : w.grownBy w' v.ownBlock) (hb : base ≤ w.heap.size) : Below base w w' :=
  (Below.refl _ _).grown hg hb (fun k hk => (h.lt k hk).1)

/-- what the call owns reads as a slice -/
theorem own_sl {w : World} {base e size n : Nat} {v : Value} {xs : List Value} (h : w.ownsRow base e size v n xs) : ∃ p c, v = .slice p n c ∧ Sl w p n c size xs := by
  rcases h.2 with ⟨rfl, rfl⟩ | ⟨g, cap, cur, rfl, hb, hg, hn, hm, hs, ht⟩
  · refine ⟨none, 0, rfl, ?_⟩
    have : xs = [] := by have := h.1; simpa using this
    subst this; exact Sl.nil _ _
  · refine ⟨_, _, rfl, ⟨h.1, hn, by simpa [maxLen] using hm, fun h => (by cases h), fun a ha j u hu => ?_⟩⟩
    obtain rfl := Option.some.inj ha
    exact h.cells rfl j u hu

theorem own_some {w : World} {base e size n : Nat} {v : Value} {xs : List Value} (h : w.ownsRow base e size v n xs) (hv : ¬ v = .slice none 0 0) : ∃ g cap, v = .slice (some ⟨g, 0, none⟩) n cap ∧ base ≤ g ∧ n ≤ cap ∧ cap ≤ 9223372036854775807 := by
  rcases h.2 with ⟨rfl, rfl⟩ | ⟨g, cap, cur, rfl, hb, hg, hn, hm, hs, ht⟩
  · exact absurd rfl hv
  · exact ⟨g, cap, rfl, hb, hn, by simpa [maxLen] using hm⟩

theorem own_made0 (w : World) (e size base g : Nat) (hg : g = w.heap.size) (hb : base ≤ g) : (w.alloc (.cells #[] e)).ownsRow base e size (.slice (some ⟨g, 0, none⟩) 0 0) 0 [] := by
  subst hg
  exact World.ownsRow_made w #[] 0 hb (by simp [maxLen]) (by simp)

/-- append of whatever slice onto what the call owns -/
theorem wpList_append_sl {P : Program} {w : World} {ops : Array Oper} {rest : List Oper} {o : Oper} {a : Act} {Q : Exit → Act → World → Prop} (hgd : o.guard = none) (s x : Operand) (t : TypeId)
    (ho : o.op = .call { callee := .builtin .append, args := #[s, x], argTypes := #[t, t] })
    {base e size bytes : Nat} {z : Value} (ht : P.underlying t = some (.slice e)) (hi : (P.info? e).map (fun i => (i.zero, i.size, i.bytes)) = some (some z, size, bytes)) (hzs : z.cells.size = size) (hsz : 0 < size)
    {v : Value} {n : Nat} {xs : List Value} (hs : a.eval s = v) (hown : w.ownsRow base e size v n xs)
    {px : Option Addr} {m c : Nat} {news : List Value} (hx : a.eval x = .slice px m c) (hS : Sl w px m c size news) (h1 : ∀ u ∈ news, u.oneCell' = true)
    (hb : n + m ≤ 9223372036854775807 ∧ (n + m) * bytes ≤ 140737488355328) (hbase : base ≤ w.heap.size)
    (h : ∀ v' w', w'.ownsRow base e size v' (n + m) (xs ++ news) → w.grownBy w' v.ownBlock → Below base w w' → (v' = .slice none 0 0 ↔ v = .slice none 0 0 ∧ m = 0) → wpList P ops Q rest (a.put o.dst v') w') : wpList P ops Q (o :: rest) a w := by
  obtain ⟨i, hi0, hz, hsize, hby⟩ := info_parts hi
  cases px with
  | some ad =>
    exact wpList_append_own w hgd s x t ho base e i z size bytes ht hi0 hz hsize hby hzs hsz v n xs hs hown ad m c news hx hS.len (hS.cell ad rfl) h1 (by simpa [maxLen] using hb.1) hb.2 hbase
      (fun v' w' h2 h3 h4 => h v' w' h2 h3 (own_below hown h3 hbase) h4)
  | none =>
    have hc := hS.nil0 rfl
    have hm0 : m = 0 := by have := hS.le; omega
    subst hc hm0
    have hn : news = [] := by have := hS.len; simpa using this
    subst hn
    have hxs : xs ++ [] = xs := List.append_nil _
    refine wpList_append_own_none hgd s x t ho base e i size ht hi0 v n xs hs hown hx ?_
    exact h v w (by rw [hxs]; exact hown) (World.grownBy.refl _ _) (Below.refl _ _) ⟨fun h => ⟨h, rfl⟩, fun h => h.1⟩

theorem below_call {w wp W wk : World} (H : Below w.heap.size w wp) (hW : Below wp.heap.size wp W) (h : Below W.heap.size W wk) : Below w.heap.size w wk :=
  H.trans ((hW.trans (h.mono hW.size)).mono H.size)

/-- what a cell holds, behind a name that the walk does not open -/
def cellOr (w : World) (a : Addr) : Value := (w.cell? a).getD undef
theorem cellOr_eq {w : World} {a : Addr} (h : (w.cell? a).isSome = true) : w.cell? a = some (cellOr w a) := by
  unfold cellOr
  cases hc : w.cell? a with
  | none => rw [hc] at h; cases h
  | some v => rfl
theorem below_of_drew {B : Nat} {w w1 : World} (h : Below B w.drew w1) : Below B w w1 := ⟨h.os, h.tape, h.output, h.size, h.block⟩
theorem block_old {w : World} (o : Obj) {i : Nat} {x : Obj} (h : w.heap[i]? = some x) : (w.alloc o).heap[i]? = some x := by
  rw [Below.heap_alloc w o i (Array.getElem?_eq_some_iff.1 h).1]; exact h
theorem Below.keepBlock {B : Nat} {w w' : World} (h : Below B w w') {i : Nat} {x : Obj} (hi : w.heap[i]? = some x) (hB : i < B) : w'.heap[i]? = some x := by rw [h.block i hB]; exact hi
theorem Below.keepOld {w w' : World} (h : Below w.heap.size w w') {i : Nat} {x : Obj} (hi : w.heap[i]? = some x) : w'.heap[i]? = some x := Below.keepBlock h hi (Array.getElem?_eq_some_iff.1 hi).1

/-- append onto what the call owns: where the new value lies: as it lay, or in a new block -/
theorem wpList_append_nx {P : Program} {w : World} {ops : Array Oper} {rest : List Oper} {o : Oper} {a : Act} {Q : Exit → Act → World → Prop} (hgd : o.guard = none) (s x : Operand) (t : TypeId)
    (ho : o.op = .call { callee := .builtin .append, args := #[s, x], argTypes := #[t, t] })
    {base e size bytes : Nat} {z : Value} (ht : P.underlying t = some (.slice e)) (hi : (P.info? e).map (fun i => (i.zero, i.size, i.bytes)) = some (some z, size, bytes)) (hzs : z.cells.size = size) (hsz : 0 < size)
    {v : Value} {n : Nat} {xs : List Value} (hs : a.eval s = v) (hown : w.ownsRow base e size v n xs)
    {px : Option Addr} {m c : Nat} {news : List Value} (hx : a.eval x = .slice px m c) (hS : Sl w px m c size news) (h1 : ∀ u ∈ news, u.oneCell' = true)
    (hb : n + m ≤ 9223372036854775807 ∧ (n + m) * bytes ≤ 140737488355328) (hbase : base ≤ w.heap.size)
    (h : ∀ p' c' w', w'.ownsRow base e size (.slice p' (n + m) c') (n + m) (xs ++ news) → w.grownBy w' v.ownBlock → (∀ k, (Value.slice p' (n + m) c').ownBlock = some k → v.ownBlock = some k ∨ k = w.heap.size) → (p' = none ↔ v = .slice none 0 0 ∧ m = 0) →
      wpList P ops Q rest (a.put o.dst (.slice p' (n + m) c')) w') : wpList P ops Q (o :: rest) a w := by
  obtain ⟨i, hi0, hz, hsize, hby⟩ := info_parts hi
  cases px with
  | some ad =>
    refine wpList_plain hgd fun K hK => ?_
    obtain ⟨v', w', hr, h2, h3, h4, h5⟩ := run_append_own_at (P := P) w base t o.type e i z size bytes ht hi0 hz hsize hby hzs hsz v n xs hown ad m c news hS.len (hS.cell ad rfl) h1 (by simpa [maxLen] using hb.1) hb.2 hbase
    unfold Oper.wp execOp
    simp only [ho, resolve, invoke, builtin, Sem.run_bind, Sem.run_pure, Result.andThen_ok, List.map_toArray, List.map_cons, List.map_nil, hs, hx, hr]
    obtain ⟨p', c', rfl, hsl⟩ := own_sl h2
    refine hK _ _ (h p' c' w' h2 h3 ?_ ?_)
    · intro k hk
      rcases h5 with h5 | h5
      · exact .inl (by rw [← h5]; exact hk)
      · rw [h5] at hk; exact .inr (Option.some.inj hk).symm
    · rw [← h4]
      constructor
      · intro hp
        have hc := hsl.nil0 hp
        have hn : n + m = 0 := by have := hsl.le; omega
        rw [hp, hc, hn]
      · intro hp
        injection hp
  | none =>
    have hc := hS.nil0 rfl
    have hm0 : m = 0 := by have := hS.le; omega
    subst hc hm0
    have hn : news = [] := by have := hS.len; simpa using this
    subst hn
    have hxs : xs ++ [] = xs := List.append_nil _
    obtain ⟨p', c', rfl, _⟩ := own_sl hown
    refine wpList_append_own_none hgd s x t ho base e i size ht hi0 _ n xs hs hown hx ?_
    exact h p' c' w (by rw [hxs]; exact hown) (World.grownBy.refl _ _) (fun k hk => .inl hk) (by
      have := hown.2
      rcases this with ⟨h, rfl⟩ | ⟨g, cap, cur, h, _⟩
      · cases h; simp
      · cases h; simp)

/-- an array behind an address, cut from 'l' on -/
theorem run_sliceAt_from {P : Program} (w : World) (t e : TypeId) (n size : Nat) (ht : P.underlying t = some (.array n e)) (hs : (P.info? e).map (·.size) = some size) (a : Addr) (k : IntKind) (x : Int) (l : Nat) (hx : x = (l : Int)) (hl : l < n) :
    (Instr.sliceAt t (.pointer (some a)) (some (.int k x)) none none).run P w = .ok (.slice (some (a.add (l * size))) (n - l) (n - l)) w := by
  subst hx
  obtain ⟨i, hi, rfl⟩ := Option.map_eq_some_iff.1 hs
  have h1 : ((0 : Int) ≤ (l : Int) ∧ (l : Int) ≤ (n : Int)) := by omega
  have h2 : ¬ n = l := by omega
  simp [Instr.sliceAt, run_underlying ht, Instr.sureAddr, Instr.sliceBounds, Instr.sliceBound, asIntOf, sizeOf, typeInfo, hi, h2, show l ≤ n by omega]

/-! ### what may have turned: blocks out of 'S' alone, of those that were there -/
structure Turns (S : Nat → Prop) (w w' : World) : Prop where
  os : w'.os = w.os
  tape : w'.tape = w.tape
  output : w'.output = w.output
  size : w.heap.size ≤ w'.heap.size
  block : ∀ k, k < w.heap.size → ¬ S k → w'.heap[k]? = w.heap[k]?

theorem Turns.refl (S : Nat → Prop) (w : World) : Turns S w w := ⟨rfl, rfl, rfl, Nat.le_refl _, fun _ _ _ => rfl⟩
theorem Turns.trans {S S' : Nat → Prop} {a b c : World} (h : Turns S a b) (k : Turns S' b c) (hs : ∀ i, i < a.heap.size → S' i → S i) : Turns S a c :=
  ⟨k.os.trans h.os, k.tape.trans h.tape, k.output.trans h.output, Nat.le_trans h.size k.size, fun i hi hS => (k.block i (Nat.lt_of_lt_of_le hi h.size) (fun h' => hS (hs i hi h'))).trans (h.block i hi hS)⟩
theorem Turns.imp {S S' : Nat → Prop} {a b : World} (h : Turns S a b) (hs : ∀ i, i < a.heap.size → S i → S' i) : Turns S' a b :=
  ⟨h.os, h.tape, h.output, h.size, fun i hi hS => h.block i hi (fun h' => hS (hs i hi h'))⟩
theorem Turns.of_below {S : Nat → Prop} {a b : World} (h : Below a.heap.size a b) : Turns S a b := ⟨h.os, h.tape, h.output, h.size, fun i hi _ => h.block i hi⟩
theorem Turns.below {S : Nat → Prop} {a b : World} {B : Nat} (h : Turns S a b) (hB : B ≤ a.heap.size) (hs : ∀ i, S i → B ≤ i) : Below B a b :=
  ⟨h.os, h.tape, h.output, h.size, fun i hi => h.block i (by omega) (fun h' => by have := hs i h'; omega)⟩
theorem Turns.drew {S : Nat → Prop} {a b : World} (h : Turns S a b) : Turns S a b.drew := ⟨h.os, h.tape, h.output, h.size, h.block⟩
theorem Turns.of_drew {S : Nat → Prop} {a b : World} (h : Turns S a.drew b) : Turns S a b := ⟨h.os, h.tape, h.output, h.size, h.block⟩
theorem Turns.grown {S : Nat → Prop} {a b : World} {row : Option Nat} (h : a.grownBy b row) (hs : ∀ k, row = some k → S k) : Turns S a b :=
  ⟨h.os, h.tape, h.output, h.size, fun i hi hS => h.block i hi (fun e => hS (hs i e.symm))⟩
theorem Turns.setCell {S : Nat → Prop} {a b : World} (h : Turns S a b) {p : Addr} (hp : p.block < a.heap.size → S p.block) (u : Value) : Turns S a (b.setCell p u) :=
  ⟨h.os, h.tape, h.output, by simpa [World.setCell] using h.size, fun i hi hS => by
    rw [Below.heap_setCell _ _ _ _ (fun e => hS (by rw [e]; exact hp (by omega)))]; exact h.block i hi hS⟩
theorem Turns.alloc {S : Nat → Prop} {a b : World} (h : Turns S a b) (o : Obj) : Turns S a (b.alloc o) :=
  ⟨h.os, h.tape, h.output, Nat.le_trans h.size (by simp), fun i hi hS => by
    rw [Below.heap_alloc b o i (Nat.lt_of_lt_of_le hi h.size)]; exact h.block i hi hS⟩
theorem Turns.keep {S : Nat → Prop} {a b : World} (h : Turns S a b) {i : Nat} {x : Obj} (hi : a.heap[i]? = some x) (hS : ¬ S i) : b.heap[i]? = some x := by
  rw [h.block i (Array.getElem?_eq_some_iff.1 hi).1 hS]; exact hi
theorem Turns.cell {S : Nat → Prop} {a b : World} (h : Turns S a b) {p : Addr} {v : Value} (hc : a.cell? p = some v) (hS : ¬ S p.block) : b.cell? p = some v := by
  rw [World.cell?_of_block (h.block p.block (block_lt_of_cell hc) hS)]; exact hc

/-- what a slice reads as, where none of its cells lies in 'S' -/
theorem Sl.touch {S : Nat → Prop} {w w' : World} {p : Option Addr} {n c size : Nat} {vs : List Value} (h : Sl w p n c size vs) (ht : Turns S w w') (ho : ∀ a, p = some a → a.block < w.heap.size → ¬ S a.block) : Sl w' p n c size vs :=
  ⟨h.len, h.le, h.max, h.nil0, fun a ha j u hu => by
    have hc := h.cell a ha j u hu
    exact ht.cell hc (by rw [addr_add_block]; exact ho a ha (by have := block_lt_of_cell hc; rwa [addr_add_block] at this))⟩
theorem Pts.touch {S : Nat → Prop} {w w' : World} {p : Option Addr} {n c : Nat} {ls : List (List UInt8)} (h : Pts w p n c ls) (ht : Turns S w w') (ho : ∀ k, k < w.heap.size → ¬ S k) : Pts w' p n c ls :=
  ⟨h.len, h.le, h.max, h.nil0, fun a ha j hj => by
    obtain ⟨q, m, k, h1, h2⟩ := h.cell a ha j hj
    exact ⟨q, m, k, ht.cell h1 (ho _ (block_lt_of_cell h1)), h2.touch ht (fun a _ hlt => ho _ hlt)⟩⟩
theorem own_touch {S : Nat → Prop} {w w' : World} {base e size n : Nat} {v : Value} {xs : List Value} (h : w.ownsRow base e size v n xs) (ht : Turns S w w') (ho : ∀ k, v.ownBlock = some k → ¬ S k) : w'.ownsRow base e size v n xs := by
  refine ⟨h.1, ?_⟩
  rcases h.2 with hn | ⟨g, cap, cur, rfl, hb, hgg, rest⟩
  · exact .inl hn
  · exact .inr ⟨g, cap, cur, rfl, hb, ht.keep hgg (ho g rfl), rest⟩
theorem own_base {w : World} {base base' e size n : Nat} {v : Value} {xs : List Value} (h : w.ownsRow base e size v n xs) (hb : ∀ k, v.ownBlock = some k → base' ≤ k) : w.ownsRow base' e size v n xs := by
  refine ⟨h.1, ?_⟩
  rcases h.2 with hn | ⟨g, cap, cur, rfl, _, hgg, rest⟩
  · exact .inl hn
  · exact .inr ⟨g, cap, cur, rfl, hb g rfl, hgg, rest⟩
/-- the next value of a row that is appended to lies where it lay, or in a new block -/
def NextV (w : World) (v v' : Value) : Prop := ∀ k, v'.ownBlock = some k → k < w.heap.size → v.ownBlock = some k

end Go.Mir

namespace Go.Proofs.YtcddgbobbogpgaaDoor.Bld
open Go.RowKit Go.Mir

theorem infoB : (Tryd.prog.info? 5).map (fun i => (i.zero, i.size, i.bytes)) = some (some (.int .u8 0), 1, 1) := by kernel_rfl

/-- a builder that a call made: its block, its bytes' slice, bytes -/
structure BAt (w : World) (b : Nat) (v : Value) (l : List UInt8) : Prop where
  blk : ∃ a, (a = .pointer none ∨ a = .pointer (some ⟨b, 0, none⟩)) ∧ w.heap[b]? = some (.cells #[a, v] 95 (0, 0))
  own : w.ownsRow 0 5 1 v l.length (bytesV l)
  sep : v.ownBlock ≠ some b
/-- its blocks -/
def foot (b : Nat) (v : Value) (k : Nat) : Prop := k = b ∨ v.ownBlock = some k
theorem BAt.touch {S : Nat → Prop} {w w' : World} {b : Nat} {v : Value} {l : List UInt8} (h : BAt w b v l) (ht : Turns S w w') (hS : ∀ k, foot b v k → ¬ S k) : BAt w' b v l := by
  obtain ⟨a, ha, hb⟩ := h.blk
  exact ⟨⟨a, ha, ht.keep hb (hS _ (.inl rfl))⟩, own_touch h.own ht (fun k hk => hS k (.inr hk)), h.sep⟩
theorem BAt.lt {w : World} {b : Nat} {v : Value} {l : List UInt8} (h : BAt w b v l) : ∀ k, foot b v k → k < w.heap.size := by
  intro k hk
  rcases hk with rfl | hk
  · obtain ⟨a, ha, hb⟩ := h.blk
    exact (Array.getElem?_eq_some_iff.1 hb).1
  · exact (h.own.lt k hk).2
theorem BAt.fresh (w : World) (fr : Nat) (h : fr = w.heap.size) : BAt (w.alloc (.cells #[.pointer none, .slice none 0 0] 95)) fr (.slice none 0 0) [] := by
  subst h
  exact ⟨⟨_, .inl rfl, heap_alloc_last _ _⟩, ⟨rfl, .inl ⟨rfl, rfl⟩⟩, by simp [Value.ownBlock]⟩

/-- what a call leaves of a builder -/
def Left (b : Nat) (v : Value) (l : List UInt8) (w w' : World) : Prop := ∃ v', BAt w' b v' l ∧ Turns (foot b v) w w' ∧ NextV w v v'

theorem sizeB : ∃ j, Tryd.prog.info? 95 = some j ∧ j.size = 2 := Option.map_eq_some_iff.1 (by kernel_rfl)
theorem liesB : liesAt Tryd.prog Tryd.prog.depth 95 (2 / Tryd.prog.cellsOf 95) 0 95 1 = true := by kernel_rfl

set_option maxRecDepth 100000 in
theorem check_any (b : Nat) (v : Value) (l : List UInt8) (w : World) (h : BAt w b v l) :
    Calls Tryd.prog 62 #[.pointer (some ⟨b, 0, none⟩)] w fun e w' => e = .returned (.tuple #[]) ∧ (w'.heap[b]? = some (.cells #[.pointer (some ⟨b, 0, none⟩), v] 95 (0, 0)) ∧ w'.ownsRow 0 5 1 v l.length (bytesV l) ∧ Turns (fun k => k = b) w w') := by
  obtain ⟨a, ha, hb⟩ := h.blk
  obtain ⟨j, hj, hjs⟩ := sizeB
  have HOWN := Lib.hid h.own
  have HSEP := Lib.hid h.sep
  have c0 : w.cell? ⟨b, 0, none⟩ = some a := by rw [cell_of_row _ _ _ _ _ _ hb]; rfl
  have f0 : w.frozen? ⟨b, 0, none⟩ = false := frozen_of_row _ _ _ _ _ hb
  have HSH : Hid (w.shape? b = some (95, 2)) := by show _ = _; simp [World.shape?, hb]
  have HB := Lib.hid hb
  have HJ := Lib.hid hj
  have HJS := Lib.hid hjs
  clear h hb hj hjs
  rcases ha with rfl | rfl
  · go_enter Tryd.func62, Tryd.ntmps62
    go_wp2
    rw [Lib.run_to_unsafe w ⟨b, 0, none⟩ Tryd.underlying93 Tryd.underlying128 HJ.out (by rw [HJS.out]; decide) HSH.out (Nat.zero_lt_succ 1)]
    simp only [Result.andThen]
    rw [Oper.upon_value]
    go_wp2
    rw [run_callFunc_extern Tryd.func74 (by kernel_rfl) (by kernel_rfl) (by kernel_rfl) (e := Extern.AbiNoEscape.same) (by kernel_rfl)]
    rw [Lib.run_noEscape]
    simp only [Result.andThen]
    rw [Oper.upon_value]
    go_wp2
    rw [Lib.run_from_unsafe w ⟨b, 0, none⟩ Tryd.underlying128 Tryd.underlying93 HJ.out HSH.out liesB]
    simp only [Result.andThen]
    rw [Oper.upon_value]
    go_wp2
    go_end0
    refine ⟨rfl, ?_, own_touch HOWN.out ((Turns.refl (fun k => k = b) _).setCell (fun _ => rfl) _) (fun k hk e => HSEP.out (by rw [hk, e])), (Turns.refl (fun k => k = b) _).setCell (fun _ => rfl) _⟩
    rw [heap_setCell_same _ _ _ _ _ _ HB.out]; rfl
  · go_enter Tryd.func62, Tryd.ntmps62
    go_wp2
    rw [Lib.run_neq_ptr_same w _ Tryd.underlying93 HJ.out]
    go_wp2
    go_end0
    exact ⟨rfl, HB.out, HOWN.out, Turns.refl _ _⟩

set_option maxRecDepth 100000 in
theorem writeByte_any (b : Nat) (v : Value) (l : List UInt8) (c : UInt8) (w : World) (h : BAt w b v l) (hl : l.length ≤ 70368744177664) :
    Calls Tryd.prog 67 #[.pointer (some ⟨b, 0, none⟩), .int .u8 (c.toNat : Int)] w fun e w' => e = .returned .nilIface ∧ Left b v (l ++ [c]) w w' := by
  have H := Lib.hid h
  clear h
  go_enter Tryd.func67, Tryd.ntmps67
  go_wp2_with fail
  refine (check_any b v l w H.out).mono ?_
  rintro e w1 ⟨rfl, hb1, ho1, ht1⟩
  have c1 : w1.cell? ⟨b, 1, none⟩ = some v := by rw [cell_of_row _ _ _ _ _ _ hb1]; rfl
  have f1 : w1.frozen? ⟨b, 1, none⟩ = false := frozen_of_row _ _ _ _ _ hb1
  have HS : Hid (Bs (w1.alloc (.cells #[.int .u8 (c.toNat : Int)] 5)) (some ⟨w1.heap.size, 0, none⟩) 1 1 [c]) := Bs.made w1 [c] _ _ _ 1 rfl rfl (by omega)
  have HO : Hid ((w1.alloc (.cells #[.int .u8 (c.toNat : Int)] 5)).ownsRow 0 5 1 v l.length (bytesV l)) := ho1.alloc _
  have HO1 := Lib.hid ho1
  have HB1 := Lib.hid hb1
  have HT1 := Lib.hid ht1
  have hsep : ¬ b = w1.heap.size := by have := (Array.getElem?_eq_some_iff.1 hb1).1; omega
  clear ho1 hb1 ht1
  go_wp2_with (at_builtin; refine wpList_append_nx rfl _ _ 23 rfl (base := 0) Tryd.underlying23 infoB rfl (by omega) rfl HO.out rfl HS.out (bytesV_one _) (by omega) (Nat.zero_le _) ?_)
  intro p' c' w3 hown hg hnx hne
  have hlt : b < (w1.alloc (.cells #[.int .u8 (c.toNat : Int)] 5)).heap.size := by have := (Array.getElem?_eq_some_iff.1 HB1.out).1; simp; omega
  have hb3 : w3.heap[b]? = some (.cells #[.pointer (some ⟨b, 0, none⟩), v] 95 (0, 0)) := by
    rw [hg.block b hlt (fun e => H.out.sep e.symm)]
    exact block_old _ HB1.out
  have e1 : w3.cell? ⟨b, 1, none⟩ = some v := by rw [cell_of_row _ _ _ _ _ _ hb3]; rfl
  have g1 : w3.frozen? ⟨b, 1, none⟩ = false := frozen_of_row _ _ _ _ _ hb3
  have HB3 := Lib.hid hb3
  have HO3 := Lib.hid hown
  have HG := Lib.hid hg
  have HNX := Lib.hid hnx
  clear hb3 hown hg hnx hne c1 f1
  go_wp2_with fail
  go_ret
  have hsz1 : (w1.alloc (.cells #[.int .u8 (c.toNat : Int)] 5)).heap.size = w1.heap.size + 1 := by simp
  have hs3 : ¬ (Value.slice p' (l.length + 1) c').ownBlock = some b := by
    intro e
    rcases HNX.out b e with h | h
    · exact H.out.sep h
    · have := (Array.getElem?_eq_some_iff.1 HB1.out).1; omega
  refine ⟨rfl, .slice p' (l.length + 1) c', ⟨⟨_, .inr rfl, by rw [heap_setCell_same _ _ _ _ _ _ HB3.out]; rfl⟩, ?_, hs3⟩, ?_, ?_⟩
  · have := own_touch HO3.out ((Turns.refl (fun k => k = b) _).setCell (p := ⟨b, 1, none⟩) (fun _ => rfl) (.slice p' (l.length + 1) c')) (fun k hk e => hs3 (by rw [hk, e]))
    rw [bytesV_append, List.length_append, List.length_singleton]
    exact this
  · exact (HT1.out.imp (S' := foot b v) (fun i _ h => .inl h)).trans (((Turns.of_below (S := foot b v) (Below.allocs w1 _)).trans (Turns.grown (S := foot b v) HG.out (fun k hk => .inr hk)) (fun _ _ h => h)).setCell (fun _ => .inl rfl) _) (fun _ _ h => h)
  · intro j hj hjl
    rcases HNX.out j hj with h | h
    · exact h
    · have := HT1.out.size; omega

/-- read: the bytes as a string; behind it the builder is not written again -/
theorem below_freeze' (w : World) (p : Addr) (n B : Nat) (h : B ≤ p.block) : Below B w (w.freeze p n) := Lib.below_freeze (Below.refl B w) (p := p) h n
set_option maxRecDepth 100000 in
set_option maxHeartbeats 400000 in
theorem string_any (b : Nat) (v : Value) (l : List UInt8) (w : World) (h : BAt w b v l) (h0 : l ≠ []) (B : Nat) (hB : ∀ k, foot b v k → B ≤ k) :
    Calls Tryd.prog 43 #[.pointer (some ⟨b, 0, none⟩)] w fun e w' => e = .returned (.string ⟨l.toArray⟩) ∧ Below B w w' := by
  obtain ⟨a, ha, hb⟩ := h.blk
  have hl0 : l.length ≠ 0 := by simpa using h0
  obtain ⟨g, cap, hv, _, hcap, _⟩ := own_some h.own (fun e => by
    have := h.own.2
    rcases this with ⟨_, h1⟩ | ⟨g, cap, cur, h1, _⟩
    · exact hl0 h1
    · rw [e] at h1; cases h1)
  subst hv
  have hg : B ≤ g := hB g (.inr rfl)
  obtain ⟨cur, hgb⟩ : ∃ cur, w.heap[g]? = some (.cells cur 5 (0, 0)) ∧ cur.size = cap := by
    rcases h.own.2 with ⟨h1, _⟩ | ⟨g', cap', cur, h1, _, h2, _, _, h3, _⟩
    · cases h1
    · cases h1; exact ⟨cur, h2, by simpa using h3⟩
  have c1 : w.drew.cell? ⟨b, 1, none⟩ = some (.slice (some ⟨g, 0, none⟩) l.length cap) := by
    have : w.drew.heap[b]? = some (.cells #[a, .slice (some ⟨g, 0, none⟩) l.length cap] 95 (0, 0)) := hb
    rw [cell_of_row _ _ _ _ _ _ this]; rfl
  have hSD : (Builtin.unsafeSliceData_ #[23] 116 #[.slice (some ⟨g, 0, none⟩) l.length cap]).run Tryd.prog w.drew = .ok (.pointer (some ⟨g, 0, none⟩)) w.drew :=
    Lib.run_unsafeSliceData_row _ _ _ _ _ _ (by omega)
  have hUS : (Builtin.unsafeString_ #[116, 3] 9 #[.pointer (some ⟨g, 0, none⟩), .int .i64 l.length]).run Tryd.prog w.drew = .ok (.string ⟨l.toArray⟩) (w.drew.freeze ⟨g, 0, none⟩ l.length) := by
    have hmx := h.own
    refine Lib.run_unsafeString_row w.drew 116 3 9 5 Tryd.underlying116 (by kernel_rfl) g cur.size (by have hg' : w.drew.heap[g]? = some (.cells cur 5 (0, 0)) := hgb.1; simp [World.shape?, hg']) l h0 (by rw [hgb.2]; omega) ?_ ?_
    · obtain ⟨p, c, e1, hs⟩ := own_sl h.own
      have := hs.le; have := hs.max; omega
    · intro j x hx
      have := h.own.cells (g := g) rfl j (.int .u8 x.toNat) (by simp [bytesV, hx])
      exact this
  have HBEL : Hid (Below B w (w.drew.freeze ⟨g, 0, none⟩ l.length)) := Lib.below_freeze (Below.drew (Below.refl B w)) (p := ⟨g, 0, none⟩) hg _
  clear h ha hb hgb hB
  go_enter Tryd.func43, Tryd.ntmps43
  go_wp2
  go_region
  all_goals (go_wp2; go_ret; exact ⟨rfl, HBEL.out⟩)
end Go.Proofs.YtcddgbobbogpgaaDoor.Bld

namespace Go.Mir.Parts

theorem take_snoc {α : Type} (l : List α) (k : Nat) (h : k < l.length) : l.take (k + 1) = l.take k ++ [l[k]] := by
  rw [List.take_succ_eq_append_getElem h]
def total (ls : List (List UInt8)) : Nat := (ls.map List.length).sum
theorem total_take (ls : List (List UInt8)) (k : Nat) (h : k < ls.length) : total (ls.take (k + 1)) = total (ls.take k) + ls[k].length := by
  rw [take_snoc ls k h]; simp only [total, List.map_append, List.sum_append, List.map_cons, List.map_nil, List.sum_cons, List.sum_nil, Nat.add_zero]
theorem total_le (ls : List (List UInt8)) (k : Nat) : total (ls.take k) ≤ total ls := by
  have := congrArg total (List.take_append_drop k ls)
  simp only [total, List.map_append, List.sum_append] at this ⊢
  omega
theorem total_flatten (ls : List (List UInt8)) : ls.flatten.length = total ls := by simp [total, List.length_flatten]


end Go.Mir.Parts

namespace Go.Proofs.YtcddgbobbogpgaaDoor.HexW
open Go.RowKit Bld Go.Mir Go.Mir.Hx Go.Mir.Parts

theorem signs_at (i : Nat) (h : i < 16) (h' : i < (⟨#[48, 49, 50, 51, 52, 53, 54, 55, 56, 57, 97, 98, 99, 100, 101, 102]⟩ : ByteArray).size) : (⟨#[48, 49, 50, 51, 52, 53, 54, 55, 56, 57, 97, 98, 99, 100, 101, 102]⟩ : ByteArray)[i] = sgn i := by
  have key : ∀ j : Fin 16, (⟨#[48, 49, 50, 51, 52, 53, 54, 55, 56, 57, 97, 98, 99, 100, 101, 102]⟩ : ByteArray)[j.val]'(j.isLt) = sgn j.val := by decide
  exact key ⟨i, h⟩

/-! ### a sign's half byte -/
theorem sign_any (c : Nat) (w : World) (h1 : c ≤ 2147483647) :
    Calls Tryd.prog 81 #[.int .i32 (c : Int)] w fun e w' => e = .returned (.tuple #[.int .u8 (((dig c).getD 0 : Nat) : Int), .bool (dig c).isSome]) ∧ w = w' := by
  by_cases ha : 48 ≤ c ∧ c ≤ 57
  · have HR : Hid (dig c = some (c - 48)) := by show _ = _; unfold dig; rw [if_pos (by omega)]
    obtain ⟨ha1, ha2⟩ := ha
    have b1 : decide ((48 : Int) ≤ (c : Int)) = true := by simp; omega
    have b2 : decide ((c : Int) ≤ 57) = true := by simp; omega
    go_enter Tryd.func81, Tryd.ntmps81
    go_wp2
    go_ret2
    rw [HR.out]
    refine ⟨?_, rfl⟩
    simp
    omega
  · by_cases hb : 97 ≤ c ∧ c ≤ 102
    · have HR : Hid (dig c = some (c - 87)) := by show _ = _; unfold dig; rw [if_neg ha, if_pos hb]
      obtain ⟨hb1, hb2⟩ := hb
      clear ha
      have b0 : decide ((48 : Int) ≤ (c : Int)) = true := by simp; omega
      have b1 : decide ((c : Int) ≤ 57) = false := by simp; omega
      have b2 : decide ((97 : Int) ≤ (c : Int)) = true := by simp; omega
      have b3 : decide ((c : Int) ≤ 102) = true := by simp; omega
      go_enter Tryd.func81, Tryd.ntmps81
      go_wp2
      go_ret2
      rw [HR.out]
      refine ⟨?_, rfl⟩
      simp
      omega
    · have HR : Hid (dig c = none) := by show _ = _; unfold dig; rw [if_neg ha, if_neg hb]
      by_cases h48 : 48 ≤ c
      · have b0 : decide ((48 : Int) ≤ (c : Int)) = true := by simp; omega
        have b1 : decide ((c : Int) ≤ 57) = false := by simp; omega
        by_cases h97 : 97 ≤ c
        · have b2 : decide ((97 : Int) ≤ (c : Int)) = true := by simp; omega
          have b3 : decide ((c : Int) ≤ 102) = false := by simp; omega
          clear ha hb
          go_enter Tryd.func81, Tryd.ntmps81
          go_wp2
          go_ret2
          rw [HR.out]
          exact ⟨rfl, rfl⟩
        · have b2 : decide ((97 : Int) ≤ (c : Int)) = false := by simp; omega
          clear ha hb
          go_enter Tryd.func81, Tryd.ntmps81
          go_wp2
          go_ret2
          rw [HR.out]
          exact ⟨rfl, rfl⟩
      · have b0 : decide ((48 : Int) ≤ (c : Int)) = false := by simp; omega
        have b2 : decide ((97 : Int) ≤ (c : Int)) = false := by simp; omega
        clear ha hb
        go_enter Tryd.func81, Tryd.ntmps81
        go_wp2
        go_ret2
        rw [HR.out]
        exact ⟨rfl, rfl⟩

set_option maxRecDepth 100000 in
theorem pairs_any (p : Option Addr) (n c : Nat) (l : List UInt8) (w : World) (h : Bs w p n c l) (hn : n ≤ 1099511627776) (h0 : 0 < n) :
    Calls Tryd.prog 47 #[.slice p n c] w fun e w' => e = .returned (.string ⟨(pairsL l).toArray⟩) ∧ Below w.heap.size w w' := by
  have H := Lib.hid h
  have hl := h.length
  clear h
  go_enter Tryd.func47, Tryd.ntmps47
  go_wp2
  have HZ : Hid (BAt (w.alloc (.cells #[.pointer none, .slice none 0 0] 95)) w.heap.size (.slice none 0 0) []) := BAt.fresh w _ rfl
  go_loopw [8] (fun j wr => ∃ (k : Nat) (v : Value), k ≤ n ∧ j = .int .i64 k ∧ BAt wr w.heap.size v (pairsL (l.take k)) ∧ Below w.heap.size w wr ∧ ∀ i, foot w.heap.size v i → w.heap.size ≤ i) (fun j _ => n - (intOf j).toNat)
  case atStart => exact ⟨0, _, by omega, rfl, HZ.out, Below.allocs _ _, fun i hi => by
    rcases hi with rfl | hi
    · exact Nat.le_refl _
    · simp [Value.ownBlock] at hi⟩
  case round =>
    obtain ⟨k, v, hk, rfl, hB, hb, hf⟩ := hrel
    by_cases hlt : k < n
    · obtain ⟨b, o, rfl⟩ := H.out.addr (by omega) (by omega)
      have hc := Bs.byte (H.out.below hb) (j := k) (by omega)
      have hx := (l[k]'(by omega)).toNat_lt
      have HTK := Lib.hid (take_snoc l k (by omega))
      have HPL := Lib.hid (pairsL_length (l.take k))
      have hd : decide ((k : Int) < (n : Int)) = true := by simp; omega
      generalize l[k]'(by omega) = x at *
      have HB := Lib.hid hB
      have HBB := Lib.hid hb
      have HF := Lib.hid hf
      clear hB hb hf
      go_wp2_with fail
      refine (writeByte_any _ v _ _ _ HB.out (by rw [HPL.out, List.length_take]; omega)).mono ?_
      rintro e w1 ⟨rfl, v1, hB1, ht1, hn1⟩
      have HB1 := Lib.hid hB1
      have HT1 := Lib.hid ht1
      have HN1 := Lib.hid hn1
      have HB2 : Hid (Below w.heap.size w w1) := HBB.out.trans (ht1.below HBB.out.size HF.out)
      have HF1 : Hid (∀ i, foot w.heap.size v1 i → w.heap.size ≤ i) := fun i hi => by
        rcases hi with rfl | hi
        · exact Nat.le_refl _
        · by_cases hlt : i < wr.heap.size
          · exact HF.out i (.inr (hn1 i hi hlt))
          · have := HBB.out.size; omega
      clear hB1 ht1 hn1 hc
      go_wp2_with fail
      refine (writeByte_any _ v1 _ _ _ HB1.out (by rw [List.length_append, HPL.out, List.length_take, List.length_singleton]; omega)).mono ?_
      rintro e w2 ⟨rfl, v2, hB2, ht2, hn2⟩
      have HBX := Lib.hid hB2
      have HB3 : Hid (Below w.heap.size w w2) := HB2.out.trans (ht2.below HB2.out.size HF1.out)
      have HF2 : Hid (∀ i, foot w.heap.size v2 i → w.heap.size ≤ i) := fun i hi => by
        rcases hi with rfl | hi
        · exact Nat.le_refl _
        · by_cases hlt : i < w1.heap.size
          · exact HF1.out i (.inr (hn2 i hi hlt))
          · have := HB2.out.size; omega
      clear hB2 ht2 hn2
      go_wp2_with fail
      go_roundw
      case rel =>
        refine ⟨k + 1, v2, by omega, by go_num, ?_, HB3.out, HF2.out⟩
        have := HBX.out
        rw [signs_at _ (by omega), signs_at _ (by omega)] at this
        rw [HTK.out, pairsL_snoc]
        exact this
      case measure => simp [intOf]; omega
    · have hk' : k = l.length := by omega
      rw [hk', List.take_length] at hB
      have HB := Lib.hid hB
      have HBB := Lib.hid hb
      have HF := Lib.hid hf
      have HN : Hid (pairsL l ≠ []) := fun e => by
        have := congrArg List.length e
        rw [pairsL_length, List.length_nil] at this; omega
      have hd : decide ((k : Int) < (n : Int)) = false := by simp; omega
      clear hB hb hf hk'
      go_wp2_with fail
      refine (string_any _ v _ _ HB.out HN.out w.heap.size HF.out).mono ?_
      rintro e w1 ⟨rfl, hb1⟩
      have HB1 := Lib.hid hb1
      clear hb1
      go_wp2_with fail
      go_ret
      exact ⟨rfl, HBB.out.trans HB1.out⟩

/-! ### signs read -/
def ReadP (l : List UInt8) (w : World) (e : Ending) (w' : World) : Prop := Below w.heap.size w w' ∧ ((∃ b p c, readL l = some b ∧ l ≠ [] ∧ e = .returned (.tuple #[.slice p b.length c, .bool true]) ∧ Bs w' p b.length c b ∧ (∀ a, p = some a → w.heap.size ≤ a.block)) ∨ ((readL l = none ∨ l = []) ∧ ∃ v, e = .returned (.tuple #[v, .bool false])))
theorem own_ne_iter {w : World} {base e size n : Nat} {v : Value} {xs : List Value} {k pos : Nat} {s : ByteArray} (h : w.ownsRow base e size v n xs) (hk : w.heap[k]? = some (.stringIter s pos)) : ∀ i, v.ownBlock = some i → ¬ i = k := by
  intro i hi e1
  subst e1
  rcases h.2 with ⟨rfl, _⟩ | ⟨g, cap, cur, rfl, _, hg, _⟩
  · simp [Value.ownBlock] at hi
  · simp [Value.ownBlock] at hi
    subst hi
    rw [hk] at hg; cases hg
theorem turns_iterAt (w : World) (k : Nat) (s : ByteArray) (pos : Nat) : Turns (fun i => i = k) w (w.iterAt k s pos) :=
  ⟨rfl, rfl, rfl, by rw [Lib.iterAt_size]; exact Nat.le_refl _, fun i _ hi => Lib.iterAt_other w k i s pos hi⟩

theorem or_half (h n : Nat) (hh : h < 16) (hn : n < 16) : bits BinOp.or IntKind.u8 ((h : Int) * 16) (n : Int) = ((UInt8.ofNat (16 * h + n)).toNat : Int) := by
  have key : ∀ a b : Fin 16, bits BinOp.or IntKind.u8 ((a.val : Int) * 16) (b.val : Int) = ((UInt8.ofNat (16 * a.val + b.val)).toNat : Int) := by decide
  exact key ⟨h, hh⟩ ⟨n, hn⟩
theorem read_bad (l : List UInt8) (k : Nat) (hk : k < l.length) (h : dig l[k].toNat = none) : readL l = none := by
  have h1 := st_bad l[k] h (l.take k) (l.drop (k + 1)) ([], 0, false)
  rw [← List.drop_eq_getElem_cons hk, List.take_append_drop] at h1
  have h2 := st_end l
  rw [h1] at h2; exact h2.symm
theorem read_fin (l : List UInt8) (y : List UInt8 × Nat × Bool) (h : st ([], 0, false) l = some y) : readL l = if y.2.2 then none else some y.1 := by
  have h2 := st_end l
  rw [h] at h2; exact h2.symm
theorem next_rune (wr : World) (it : Nat) (s : ByteArray) (k : Nat) (hit : wr.heap[it]? = some (.stringIter s k)) (hp : k < s.size) :
    ∃ D Wd : Nat, (∀ ty, (Instr.next (.pointer (some ⟨it, 0, none⟩)) true ty).run Tryd.prog wr = .ok (.tuple #[.bool true, .int .i64 k, .int .i32 (D : Int)]) (wr.iterAt it s (k + Wd))) ∧ D ≤ 2147483647 ∧ ((D < 128 ∧ D = (s[k]'hp).toNat ∧ Wd = 1) ∨ (128 ≤ D ∧ 128 ≤ (s[k]'hp).toNat ∧ 1 ≤ Wd)) := by
  refine ⟨(Utf8.decode s k).1, (Utf8.decode s k).2, fun ty => Lib.run_next_any_at wr it s k ty hit hp, decode_le s k, ?_⟩
  by_cases ha : (s[k]'hp).toNat < 128
  · rw [decode_ascii s k hp ha]; exact .inl ⟨ha, rfl, rfl⟩
  · have h1 := decode_high s k hp (by omega)
    exact .inr ⟨h1.1, by omega, h1.2⟩
theorem byte_at (s : ByteArray) (k : Nat) (h : k < s.size) : s[k] = s.data.toList[k]'(by simpa using h) := rfl

set_option maxRecDepth 100000 in
theorem read_any (s : ByteArray) (w : World) (hs : s.size ≤ 1099511627776) :
    Calls Tryd.prog 73 #[.string s] w (ReadP s.data.toList w) := by
  obtain ⟨i0, hi0, hz0, hz1, hz2⟩ := info_parts infoB
  obtain ⟨w1, hmk, hown, hgr⟩ := run_make_own (P := Tryd.prog) w w.heap.size 23 5 i0 _ 1 Tryd.underlying23 hi0 hz0 hz1 .i64 .i64 (s.size / 2) (by rw [hz2]; omega) (by unfold maxLen; omega) (Nat.le_refl _)
  have hb1 : Below w.heap.size w w1 := (Below.refl _ _).grown hgr (Nat.le_refl _) (fun k hk => by cases hk)
  have hsz : w.heap.size ≤ w1.heap.size := hb1.size
  rw [show ((s.size / 2 : Nat) : Int) = (s.size : Int) / 2 by omega] at hmk
  clear hi0 hz0 hz1 hz2
  have HO := Lib.hid hown
  have HB1 := Lib.hid hb1
  clear hown hgr hb1
  go_enter Tryd.func73, Tryd.ntmps73
  go_wp2
  clear hmk
  have HW1 : Hid (w1.iter s 0 = w1.alloc (.stringIter s 0)) := rfl
  have hls : s.data.toList.length = s.size := by simp
  have HLS := Lib.hid hls
  clear hls
  go_loopw [4, 5, 6] (fun o h f wr => ∃ (k : Nat) (y : List UInt8 × Nat × Bool) (p : Option Addr) (c : Nat), k ≤ s.size ∧ st ([], 0, false) (s.data.toList.take k) = some y ∧ o = .slice p y.1.length c ∧ h = .int .u8 (y.2.1 : Int) ∧ f = .bool y.2.2 ∧ y.2.1 < 16 ∧ y.1.length ≤ k ∧
    wr.ownsRow w.heap.size 5 1 (.slice p y.1.length c) y.1.length (bytesV y.1) ∧ wr.heap[w1.heap.size]? = some (.stringIter s k) ∧ Below w.heap.size w wr) (fun _ _ _ wr => s.size - wr.iterPos w1.heap.size)
  case atStart =>
    refine ⟨0, ([], 0, false), _, _, by omega, rfl, rfl, rfl, rfl, by decide, by simp, ?_, World.iter_heap _ _ _, ?_⟩
    · rw [HW1.out]; exact HO.out.alloc _
    · rw [HW1.out]; exact HB1.out.alloc hsz _
  case round =>
    obtain ⟨k, ⟨o, h, f⟩, p, c, hk, hst, rfl, rfl, rfl, hh, hol, hown, hit, hb⟩ := hrel
    simp only at hst hh hol hown
    have HST := Lib.hid hst
    have HOW := Lib.hid hown
    have HIT := Lib.hid hit
    have HBB := Lib.hid hb
    clear hst hown hit hb
    by_cases hlt : k < s.size
    · obtain ⟨D, Wd, hnx, hD1, hD2⟩ := next_rune wr _ s k HIT.out hlt
      have HTK := Lib.hid (take_snoc s.data.toList k (by rw [HLS.out]; exact hlt))
      have HIT1 := Lib.hid (Lib.iterAt_heap wr _ s k (k + Wd) HIT.out)
      have HB2 := Lib.hid (Lib.below_iterAt HBB.out hsz s (k + Wd))
      have HOW2 : Hid ((wr.iterAt w1.heap.size s (k + Wd)).ownsRow w.heap.size 5 1 (.slice p o.length c) o.length (bytesV o)) := own_touch HOW.out (turns_iterAt _ _ _ _) (fun i hi e => own_ne_iter HOW.out HIT.out i hi e)
      have HD2 := Lib.hid hD2
      clear hD2
      cases hdg : dig D with
      | none =>
        have HDG : Hid (dig D = none) := hdg
        have HRN : Hid (readL s.data.toList = none) := by
          refine read_bad _ k (by rw [HLS.out]; exact hlt) ?_
          rw [← byte_at s k hlt]
          rcases HD2.out with ⟨_, e, _⟩ | ⟨_, e, _⟩
          · rw [← e]; exact hdg
          · exact dig_high e
        clear hdg
        go_wp2_with fail
        refine (sign_any D _ hD1).mono ?_
        rintro e w' ⟨rfl, rfl⟩
        rw [HDG.out]
        go_wp2_with fail
        go_ret2
        exact ⟨HB2.out, .inr ⟨.inl HRN.out, _, rfl⟩⟩
      | some n =>
        have HDG : Hid (dig D = some n) := hdg
        have hn16 := dig_lt hdg
        obtain ⟨h128, hDk, rfl⟩ : D < 128 ∧ D = (s[k]'hlt).toNat ∧ Wd = 1 := by
          rcases HD2.out with h | ⟨h, _⟩
          · exact h
          · rw [dig_high h] at hdg; cases hdg
        have HDK := Lib.hid hDk
        have HST2 : Hid (st ([], 0, false) (s.data.toList.take (k + 1)) = some (stp (o, h, f) n)) := by
          show _ = _
          rw [HTK.out, st_snoc, HST.out, ← byte_at s k hlt, ← hDk, hdg]; rfl
        clear hdg hDk
        cases f with
        | false =>
          go_wp2_with fail
          refine (sign_any D _ hD1).mono ?_
          rintro e w' ⟨rfl, rfl⟩
          rw [HDG.out]
          go_wp2_with fail
          go_roundw
          case rel => exact ⟨k + 1, stp (o, h, false) n, p, c, by omega, HST2.out, rfl, rfl, rfl, hn16, by show o.length ≤ _; omega, HOW2.out, HIT1.out, HB2.out⟩
          case measure => simp [World.iterPos, HIT.out, HIT1.out]; omega
        | true =>
          go_wp2_with fail
          refine (sign_any D _ hD1).mono ?_
          rintro e w' ⟨rfl, rfl⟩
          rw [HDG.out]
          have hor := or_half h n hh hn16
          obtain ⟨x, hx⟩ : ∃ x, x = UInt8.ofNat (16 * h + n) := ⟨_, rfl⟩
          rw [← hx] at hor
          have HX := Lib.hid hx
          clear hx
          have HS : Hid (Bs ((wr.iterAt w1.heap.size s (k + 1)).alloc (.cells #[.int .u8 ((x).toNat : Int)] 5)) (some ⟨(wr.iterAt w1.heap.size s (k + 1)).heap.size, 0, none⟩) 1 1 [x]) := Bs.made _ [x] _ _ _ 1 rfl rfl (by omega)
          have HOX : Hid (((wr.iterAt w1.heap.size s (k + 1)).alloc (.cells #[.int .u8 ((x).toNat : Int)] 5)).ownsRow w.heap.size 5 1 (.slice p o.length c) o.length (bytesV o)) := HOW2.out.alloc _
          have hbs := HB2.out.size
          go_wp2_with (at_builtin; refine wpList_append_nx rfl _ _ 23 rfl (base := w.heap.size) Tryd.underlying23 infoB rfl (by omega) rfl HOX.out rfl HS.out (bytesV_one _) (by omega) (by simp; omega) ?_)
          intro p' c' w3 hown hg hnx hne
          have hit3 : w3.heap[w1.heap.size]? = some (.stringIter s (k + 1)) := by
            have hi1 := block_old (.cells #[.int .u8 (x.toNat : Int)] 5) HIT1.out
            rw [hg.block _ (Array.getElem?_eq_some_iff.1 hi1).1 (fun e => own_ne_iter HOW2.out HIT1.out _ e.symm rfl)]
            exact hi1
          have hb3 : Below w.heap.size w w3 := (HB2.out.alloc hbs _).grown hg (by simp; omega) (fun i hi => (HOX.out.lt i hi).1)
          have HO3 := Lib.hid hown
          have HIT3 := Lib.hid hit3
          have HB3 := Lib.hid hb3
          clear hown hg hnx hne hit3 hb3 hor
          go_wp2_with fail
          go_roundw
          case rel =>
            refine ⟨k + 1, stp (o, h, true) n, p', c', by omega, HST2.out, ?_, rfl, rfl, hn16, ?_, ?_, HIT3.out, HB3.out⟩
            · simp [stp]
            · simp [stp]; omega
            · have := HO3.out
              simp only [stp, if_true]
              rw [List.length_append, List.length_singleton, bytesV_append, ← HX.out]
              exact this
          case measure => simp [World.iterPos, HIT.out, HIT3.out]; omega
    · obtain rfl : k = s.size := by omega
      have HND : ∀ ty, (Instr.next (.pointer (some ⟨w1.heap.size, 0, none⟩)) true ty).run Tryd.prog wr = .ok (.tuple #[.bool false]) wr := fun ty => Lib.run_next_end_at wr _ s _ ty HIT.out (by omega)
      have HF : Hid (readL s.data.toList = if f then none else some o) := by
        refine read_fin s.data.toList (o, h, f) ?_
        rw [← HST.out]
        congr 1
        exact (List.take_of_length_le (by rw [HLS.out]; exact Nat.le_refl _)).symm
      cases f with
      | true =>
        go_wp2_with fail
        go_ret2
        exact ⟨HBB.out, .inr ⟨.inl HF.out, _, rfl⟩⟩
      | false =>
        by_cases h0 : 0 < s.size
        · have hd : decide ((0 : Int) < (s.size : Int)) = true := by simp; omega
          go_wp2_with fail
          go_ret2
          refine ⟨HBB.out, .inl ⟨o, p, c, HF.out, fun e => ?_, rfl, ?_, ?_⟩⟩
          · have h1 := HLS.out
            rw [e] at h1
            have h2 : 0 = s.size := h1
            omega
          · obtain ⟨p', c', e', hs'⟩ := own_sl HOW.out
            cases e'; exact hs'
          · intro a ha
            subst ha
            obtain ⟨g, cap, e', hg, _⟩ := own_some HOW.out (by simp)
            cases e'; exact hg
        · have hd : decide ((0 : Int) < (s.size : Int)) = false := decide_eq_false (by omega)
          have HE : Hid (s.data.toList = []) := List.length_eq_zero_iff.1 (by rw [HLS.out]; omega)
          go_wp2_with fail
          go_ret2
          refine ⟨HBB.out, .inr ⟨.inr HE.out, _, rfl⟩⟩
end Go.Proofs.YtcddgbobbogpgaaDoor.HexW

namespace Go.Mir
open Go.RowKit

/-- a list of bytes as a string -/
def strOf (l : List UInt8) : ByteArray := strOfNums (l.map fun b => (b.toNat : Int))
theorem run_convert_bs {P : Program} {w : World} {p : Option Addr} {n c : Nat} {l : List UInt8} (src dst e : TypeId) (hs : P.underlying src = some (.slice e)) (he : P.underlying e = some (.int .u8)) (hd : P.underlying dst = some .string) (h : Bs w p n c l) :
    (convert src dst (.slice p n c)).run P w = .ok (.string (strOf l)) w := by
  have hl := h.length
  by_cases hn : n = 0
  · have hnil : l = [] := List.length_eq_zero_iff.1 (by omega)
    subst hnil; subst hn
    cases p with
    | none => rw [run_convert_bytes_nil w src e hs he 0 c dst hd]; rfl
    | some a =>
      rw [run_convert_bytes_string w src dst e _ 0 c hs he hd, run_bytesToString w a 0 c [] ?_]
      · rfl
      · exact run_loadCells_list (P := P) w a [] (fun j v hj => by simp at hj)
  · obtain ⟨b, o, rfl⟩ := h.addr (by omega) (by omega)
    exact run_convert_bytes_arg w src e hs he b o n c _ (by simpa using hl) (fun i hi => by
      rw [h.byte (by omega)]
      simp [List.getD, show i < l.length by omega]) dst hd
theorem Bs.drewN {w : World} {p : Option Addr} {n c : Nat} {l : List UInt8} (h : Bs w p n c l) (k : Nat) : Bs (w.drewN k) p n c l :=
  ⟨h.len, h.le, h.max, h.nil0, fun a ha j u hu => by
    have := h.cell a ha j u hu
    exact this⟩
end Go.Mir

namespace Go.Mir
open Go.RowKit

/-- a list of bytes as a string -/
def S (l : List UInt8) : ByteArray := ⟨l.toArray⟩
theorem S_of (s : ByteArray) : s = S s.data.toList := by cases s; simp [S]
theorem S_data (l : List UInt8) : (S l).data.toList = l := by simp [S]
theorem S_inj {a b : List UInt8} (h : S a = S b) : a = b := by rw [← S_data a, h, S_data]
@[go_sem] theorem S_toList (l : List UInt8) : (S l).toList = l := ByteArray.toList_mk l
@[go_sem] theorem S_size (l : List UInt8) : (S l).size = l.length := by simp [S, ByteArray.size]
@[go_sem] theorem S_append (a b : List UInt8) : S a ++ S b = S (a ++ b) := ByteArray.mk_append_mk a b
@[go_sem] theorem S_get (l : List UInt8) (i : Nat) (h : i < (S l).size) : (S l)[i]'h = l[i]'(by simpa [S_size] using h) := rfl
theorem strOf_S (l : List UInt8) : strOf l = S l := by
  unfold strOf strOfNums S
  rw [List.map_map]
  congr 2
  have : (fun n : Int => UInt8.ofNat n.toNat) ∘ (fun b : UInt8 => (b.toNat : Int)) = id := by funext b; simp
  rw [this, List.map_id]
/-- bytes as a string -/
theorem run_conv {P : Program} {w : World} {p : Option Addr} {n c : Nat} {l : List UInt8} (src dst e : TypeId) (hs : P.underlying src = some (.slice e)) (he : P.underlying e = some (.int .u8)) (hd : P.underlying dst = some .string) (h : Bs w p n c l) :
    (convert src dst (.slice p n c)).run P w = .ok (.string (S l)) w := by rw [← strOf_S]; exact run_convert_bs src dst e hs he hd h

/-! ### arrays of bytes -/
theorem run_items {P : Program} {w : World} (d : Nat) {e : TypeId} (he : P.underlying e = some (.int .u8)) (hc : P.cellsOf e = 1) (hp : P.plainKey e = true) (a b : List UInt8) : ∀ is : List Nat, (∀ i ∈ is, i < a.length ∧ i < b.length) →
    (Op.eqItems (d + 1) e (P.cellsOf e) (bytesV a).toArray (bytesV b).toArray is).run P w = .ok (is.all fun i => a[i]? == b[i]?) w
  | [], _ => by simp [Op.eqItems]
  | i :: is, h => by
    have hi := h i (by simp)
    have ih := run_items (w := w) d he hc hp a b is (fun j hj => h j (by simp [hj]))
    have ga : (bytesV a).toArray[i * P.cellsOf e]? = some (.int .u8 (a[i].toNat : Int)) := by rw [hc, Nat.mul_one, List.getElem?_toArray, bytesV_get a i hi.1]
    have gb : (bytesV b).toArray[i * P.cellsOf e]? = some (.int .u8 (b[i].toNat : Int)) := by rw [hc, Nat.mul_one, List.getElem?_toArray, bytesV_get b i hi.2]
    have hbq : (((a[i].toNat : Int)) == (b[i].toNat : Int)) = (a[i]? == b[i]?) := by
      rw [List.getElem?_eq_getElem hi.1, List.getElem?_eq_getElem hi.2, Bool.eq_iff_iff]
      simp only [beq_iff_eq, Option.some.injEq]
      exact ⟨fun h => UInt8.toNat_inj.1 (by omega), fun h => by rw [h]⟩
    simp only [Op.eqItems, Sem.run_bind, run_part_plain w hp ga, run_part_plain w hp gb, Result.andThen_ok, run_equalIn_int w d e .u8 .u8 _ _ he, hbq, List.all_cons]
    cases a[i]? == b[i]?
    · simp
    · simpa using ih
theorem all_range (a b : List UInt8) (h : a.length = b.length) : ((List.range a.length).all fun i => a[i]? == b[i]?) = (a == b) := by
  rw [Bool.eq_iff_iff, List.all_eq_true, beq_iff_eq]
  constructor
  · intro hx
    apply List.ext_getElem?
    intro i
    by_cases hi : i < a.length
    · exact beq_iff_eq.1 (hx i (List.mem_range.2 hi))
    · rw [List.getElem?_eq_none (by omega), List.getElem?_eq_none (by omega)]
  · rintro rfl i _; simp
theorem run_equal_bytes {P : Program} (w : World) (d : Nat) {t e : TypeId} {n : Nat} (hu : P.underlying t = some (.array n e)) (he : P.underlying e = some (.int .u8)) (hi : ∃ i, P.info? e = some i) (hc : P.cellsOf e = 1) (hp : P.plainKey e = true) (a b : List UInt8) (ha : a.length = n) (hb : b.length = n) :
    (Op.equalIn (d + 2) t (.agg (bytesV a).toArray) (.agg (bytesV b).toArray)).run P w = .ok (a == b) w := by
  obtain ⟨i, hi⟩ := hi
  rw [run_equalIn_array w (d + 1) _ _ hu hi, run_items d he hc hp a b _ (fun i hi => by have := List.mem_range.1 hi; omega), ← ha, all_range a b (by omega)]
/-- an operation under a guard that lets it by -/
theorem wpList_unguard {P : Program} {w : World} {ops : Array Oper} {rest : List Oper} {o : Oper} {a : Act} {Q : Exit → Act → World → Prop} (hw : Region.wanted o (yielded ops a.tmps) = true)
    (h : wpList P ops Q ({ o with guard := none } :: rest) a w) : wpList P ops Q (o :: rest) a w := by
  unfold wpList at h ⊢
  rw [if_pos hw]
  rw [if_pos (by simp [Region.wanted])] at h
  exact h
/-- a copy under a guard that lets it by -/
theorem wpList_copy_g {P : Program} {w : World} {ops : Array Oper} {rest : List Oper} {o : Oper} {a : Act} {Q : Exit → Act → World → Prop} (hw : Region.wanted o (yielded ops a.tmps) = true) (d s : Operand) (dT sT : TypeId)
    (ho : o.op = .call { callee := .builtin .copy, args := #[d, s], argTypes := #[dT, sT] }) (elem : TypeId) (hu : P.underlying dT = some (.slice elem)) (hsz : (P.info? elem).map (·.size) = some 1)
    (dp sp : Option Addr) (dLen dCap sLen sCap : Nat) (hd : a.eval d = .slice dp dLen dCap) (hs : a.eval s = .slice sp sLen sCap)
    (g off : Nat) (cur : List Value) (t : TypeId) (hg : w.heap[g]? = some (.cells cur.toArray t (0, 0))) (cs : List Value) (hn : cs.length = Nat.min sLen dLen)
    (hpos : 0 < cs.length → dp = some ⟨g, off, none⟩ ∧ ∃ ad, sp = some ad ∧ ∀ j v, cs[j]? = some v → w.cell? (ad.add j) = some v)
    (hfit : off + cs.length ≤ cur.length) (h1 : ∀ v ∈ cs, v.oneCell' = true) (B : Nat) (w0 : World) (hb : Below B w0 w) (hBg : B ≤ g)
    (h : ∀ w', Hid (w'.heap[g]? = some (.cells (splice cur off cs).toArray t (0, 0))) → Below B w0 w' → wpList P ops Q rest (a.put o.dst (goInt cs.length)) w') :
    wpList P ops Q (o :: rest) a w :=
  wpList_unguard hw (wpList_copy_splice rfl d s dT sT ho elem hu hsz dp sp dLen dCap sLen sCap hd hs g off cur t hg cs hn hpos hfit h1 B w0 hb hBg h)
/-- a whole row loaded under a guard that lets it by -/
theorem wpList_load_row_g {P : Program} {ops : Array Oper} {rest : List Oper} {o : Oper} {a : Act} {w : World} {Q : Exit → Act → World → Prop} (hw : Region.wanted o (yielded ops a.tmps) = true) (ty : TypeId) (x : Operand) (ho : o.op = .load ty x)
    (g : Nat) (hx : a.eval x = .pointer (some ⟨g, 0, none⟩)) (t : TypeId) (cs : Array Value) (fr : Nat × Nat) (d : TypeDesc) (hg : w.heap[g]? = some (.cells cs t fr))
    (hu : P.underlying ty = some d) (hd : (match d with | .struct _ | .array _ _ => true | _ => false) = true) (hi : (P.info? ty).map (·.size) = some cs.size)
    (h : wpList P ops Q rest (a.put o.dst (.agg cs)) w) : wpList P ops Q (o :: rest) a w :=
  wpList_unguard hw (wpList_load_row rfl ty x ho g hx t cs fr d hg hu hd hi h)
/-- two results, the first a row in memory -/
theorem results_row_tmp {P : Program} {fn : Func} {p u : Tmp} {ty : TypeId} (h : fn.results = #[.cell p ty, .tmp u]) (tmps : Array Value) (w : World) (g : Nat) (t : TypeId) (cs : Array Value) (fr : Nat × Nat) (d : TypeDesc)
    (hp : tmps.getD p undef = .pointer (some ⟨g, 0, none⟩)) (hg : w.heap[g]? = some (.cells cs t fr))
    (hu : P.underlying ty = some d) (hd : (match d with | .struct _ | .array _ _ => true | _ => false) = true) (hi : (P.info? ty).map (·.size) = some cs.size) :
    (results fn tmps).run P w = .ok (.tuple #[.agg cs, tmps.getD u undef]) w := by
  rw [results_cell_tmp h, hp]
  simp [asAddr, run_loadVar_row w g t ty cs fr d hg hu hd hi, Result.andThen]
/-- an array behind an address, up to 'l' -/
theorem run_sliceAt_upto {P : Program} (w : World) (t e : TypeId) (n size : Nat) (ht : P.underlying t = some (.array n e)) (hs : (P.info? e).map (·.size) = some size) (a : Addr) (k : IntKind) (x : Int) (l : Nat) (hx : x = (l : Int)) (hl : l ≤ n) (hn : 0 < n) :
    (Instr.sliceAt t (.pointer (some a)) none (some (.int k x)) none).run P w = .ok (.slice (some a) l n) w := by
  subst hx
  obtain ⟨i, hi, rfl⟩ := Option.map_eq_some_iff.1 hs
  have h1 : ((0 : Int) ≤ (l : Int) ∧ (l : Int) ≤ (n : Int)) := by omega
  have h2 : ¬ n = 0 := by omega
  have h3 : a.add 0 = a := rfl
  simp [Instr.sliceAt, run_underlying ht, Instr.sureAddr, Instr.sliceBounds, Instr.sliceBound, asIntOf, sizeOf, typeInfo, hi, h3, hl]
end Go.Mir
