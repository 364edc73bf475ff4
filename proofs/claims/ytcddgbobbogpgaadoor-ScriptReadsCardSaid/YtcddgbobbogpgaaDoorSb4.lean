/- PARTS, JOINED: PLAIN PART OF SCRIPTS: whole texts. Conditions: none. SCRIPTS IN MEMORY: an event's cells. Conditions: none. WHAT COMES IN, OPENED: a law's argument that can be read as data, as the walks' own readings. No program is named. Conditions: none. SLICES OF STRUCTS, AND A STRUCT COPIED WHOLE INTO A NEW BLOCK. No program is named. Conditions: none. SCRIPTS IN MEMORY: an event's row as it is filled; the kinds' words. Conditions: none. THE WALK OF THE REFERENCE's Same: are two lists of ids the same? Conditions: none. -/
import Derived.Test.YtcddgbobbogpgaaDoorSb1
import Derived.Test.YtcddgbobbogpgaaDoorSb2
import Derived.Test.YtcddgbobbogpgaaDoorSb3
import Derived.Deep.Slices
import Derived.Deep.MidRow
import Derived.Test.YtcddgbobbogpgaaDoorProg
import Derived.Laws.Tables
namespace Go.Proofs.YtcddgbobbogpgaaDoor.Scr
open Go.Mir Go.Mir.Hx HexW Rpl
open Go.Lib (join joinTail)

structure Cf where
  d : Int
  s : Int
  k : Int
  e : Int
  a : Int
  o : Int
deriving DecidableEq
def Cf.l (c : Cf) : List Int := [c.d, c.s, c.k, c.e, c.a, c.o]
def Cf.zero : Cf := ⟨0, 0, 0, 0, 0, 0⟩
def Cf.of (l : List Nat) : Cf := ⟨(l.getD 0 0 : Nat), (l.getD 1 0 : Nat), (l.getD 2 0 : Nat), (l.getD 3 0 : Nat), (l.getD 4 0 : Nat), (l.getD 5 0 : Nat)⟩
def okC (x : Int) : Prop := 0 ≤ x ∧ x ≤ 100000
instance (x : Int) : Decidable (okC x) := by unfold okC; infer_instance
def confW : List UInt8 := [99, 111, 110, 102, 105, 103]
def headL (c : Cf) : List UInt8 := join (confW :: c.l.map (fun x => decL x.toNat)) [32]
def flatT (ls : List (List UInt8)) : List UInt8 := (ls.map (· ++ [10])).flatten
def textB (c : Cf) (l : List Ev) : List UInt8 := flatT (headL c :: l.map lineE)
def printB (c : Cf) (l : List Ev) : List UInt8 × Int :=
  if ∀ x ∈ c.l, okC x then (if ∀ e ∈ l, Good e then (if (textB c l).length ≤ 20000 then (textB c l, 0) else ([], 3)) else ([], 1)) else ([], 1)
/-! ### lines -/
def cutL : List UInt8 → List UInt8 × List UInt8
  | [] => ([], [])
  | c :: r => if c = 10 then ([], r) else (c :: (cutL r).1, (cutL r).2)
def linesL : List UInt8 → List (List UInt8)
  | [] => []
  | c :: r => if c = 10 then [] :: linesL r else match linesL r with
    | [] => [[c]]
    | h :: t => (c :: h) :: t
theorem lines_cut : ∀ s : List UInt8, s ≠ [] → linesL s = (cutL s).1 :: linesL (cutL s).2
  | [], h => absurd rfl h
  | [c], _ => by
    by_cases hc : c = 10
    · subst hc; rfl
    · simp [linesL, cutL, hc]
  | c :: d :: r, _ => by
    by_cases hc : c = 10
    · subst hc; simp [linesL, cutL]
    · have ih := lines_cut (d :: r) (by simp)
      rw [linesL, if_neg hc, ih]
      conv => rhs; rw [cutL, if_neg hc]
theorem cut_lt : ∀ s : List UInt8, s ≠ [] → (cutL s).2.length < s.length
  | [], h => absurd rfl h
  | c :: r, _ => by
    rw [cutL]
    split
    · show r.length < r.length + 1; omega
    · cases r with
      | nil => show 0 < 1; omega
      | cons d t =>
        have := cut_lt (d :: t) (by simp)
        show (cutL (d :: t)).2.length < (d :: t).length + 1
        omega
theorem cut_len : ∀ s : List UInt8, (cutL s).1.length ≤ s.length
  | [] => Nat.le_refl _
  | c :: r => by
    have := cut_len r
    rw [cutL]
    split
    · exact Nat.zero_le _
    · show (cutL r).1.length + 1 ≤ r.length + 1; omega
theorem cut_app : ∀ (x r : List UInt8), (10 : UInt8) ∉ x → cutL (x ++ 10 :: r) = (x, r)
  | [], r, _ => by simp [cutL]
  | c :: x, r, h => by
    have hc : ¬ c = 10 := fun e => h (by rw [e]; simp)
    rw [List.cons_append, cutL, if_neg hc, cut_app x r (fun hx => h (List.mem_cons_of_mem _ hx))]
theorem lines_flat : ∀ ls : List (List UInt8), (∀ x ∈ ls, (10 : UInt8) ∉ x) → linesL (flatT ls) = ls
  | [], _ => rfl
  | x :: ls, h => by
    have hf : flatT (x :: ls) = x ++ 10 :: flatT ls := by simp [flatT]
    rw [hf, lines_cut _ (by simp), cut_app x _ (h x (by simp)), lines_flat ls (fun y hy => h y (List.mem_cons_of_mem _ hy))]
theorem lines_sum : ∀ (n : Nat) (s : List UInt8), s.length ≤ n → (((linesL s).map fun x => x.length + 1).sum ≤ s.length + 1) ∧ ∀ x ∈ linesL s, x.length ≤ s.length
  | _, [], _ => ⟨by simp [linesL], fun x hx => by simp [linesL] at hx⟩
  | 0, c :: r, h => by simp at h
  | n + 1, c :: r, h => by
    have hl := lines_cut (c :: r) (by simp)
    have h2 := cut_lt (c :: r) (by simp)
    have h3 : (cutL (c :: r)).1.length + (cutL (c :: r)).2.length ≤ (c :: r).length ∧ ((cutL (c :: r)).2 ≠ [] → (cutL (c :: r)).1.length + 1 + (cutL (c :: r)).2.length = (c :: r).length) := cut_two (c :: r)
    obtain ⟨i1, i2⟩ := lines_sum n (cutL (c :: r)).2 (by omega)
    rw [hl]
    refine ⟨?_, fun x hx => ?_⟩
    · rw [List.map_cons, List.sum_cons]
      by_cases he : (cutL (c :: r)).2 = []
      · rw [he] at i1 ⊢
        have : ((linesL []).map fun x => x.length + 1).sum = 0 := by simp [linesL]
        omega
      · have := h3.2 he; omega
    · rcases List.mem_cons.1 hx with rfl | hx
      · exact cut_len _
      · have := i2 x hx; omega
where
  cut_two : ∀ s : List UInt8, (cutL s).1.length + (cutL s).2.length ≤ s.length ∧ ((cutL s).2 ≠ [] → (cutL s).1.length + 1 + (cutL s).2.length = s.length)
    | [] => ⟨Nat.le_refl _, fun h => absurd rfl h⟩
    | c :: r => by
      obtain ⟨h1, h2⟩ := cut_two r
      rw [cutL]
      split
      · exact ⟨by show 0 + r.length ≤ r.length + 1; omega, fun _ => by show 0 + 1 + r.length = r.length + 1; omega⟩
      · refine ⟨by show (cutL r).1.length + 1 + (cutL r).2.length ≤ r.length + 1; omega, fun h => ?_⟩
        have := h2 h
        show (cutL r).1.length + 1 + 1 + (cutL r).2.length = r.length + 1
        omega
/-! ### parsed -/
def confB (s : List UInt8) : Option Cf := if (sp s).getD 0 [] = confW then (if ((sp s).drop 1).length = 6 then (numsM 100000 ((sp s).drop 1)).map Cf.of else none) else none
def stepL (st : Option (Cf × List Ev)) (x : List UInt8) : Option (Option (Cf × List Ev)) :=
  if x = [] ∨ x.head? = some 35 then some st else match st with
    | none => (confB x).map fun c => some (c, [])
    | some (c, l) => (readE x).map fun e => some (c, l ++ [e])
def runL : Option (Cf × List Ev) → List (List UInt8) → Option (Option (Cf × List Ev))
  | st, [] => some st
  | st, x :: r => (stepL st x).bind fun st' => runL st' r
def goB : Option (Cf × List Ev) → List (List UInt8) → Nat → Cf × List Ev × Int × Int
  | none, [], n => (Cf.zero, [], ((n + 1 : Nat) : Int), 4)
  | some (c, l), [], _ => (c, l, 0, 0)
  | st, x :: r, n => match stepL st x with
    | none => (Cf.zero, [], ((n + 1 : Nat) : Int), 4)
    | some st' => goB st' r (n + 1)
def parseB (s : List UInt8) : Cf × List Ev × Int × Int := if 20000 < s.length then (Cf.zero, [], 0, 3) else goB none (linesL s) 0
theorem run_snoc : ∀ (ls : List (List UInt8)) (st : Option (Cf × List Ev)) (x : List UInt8), runL st (ls ++ [x]) = (runL st ls).bind fun st' => stepL st' x
  | [], st, x => by simp [runL]
  | y :: ls, st, x => by
    rw [List.cons_append, runL, runL]
    cases h : stepL st y with
    | none => rfl
    | some st' => simp only [Option.bind_some]; exact run_snoc ls st' x
theorem go_cons (st : Option (Cf × List Ev)) (x : List UInt8) (r : List (List UInt8)) (n : Nat) : goB st (x :: r) n = match stepL st x with
    | none => (Cf.zero, [], ((n + 1 : Nat) : Int), 4)
    | some st' => goB st' r (n + 1) := by
  cases st <;> rfl
theorem go_run : ∀ (pre rest : List (List UInt8)) (st0 st : Option (Cf × List Ev)) (n : Nat), runL st0 pre = some st → goB st0 (pre ++ rest) n = goB st rest (n + pre.length)
  | [], rest, st0, st, n, h => by
    obtain rfl := Option.some.inj h
    rfl
  | x :: pre, rest, st0, st, n, h => by
    rw [runL] at h
    obtain ⟨st1, h1, h2⟩ := Option.bind_eq_some_iff.1 h
    rw [List.cons_append, go_cons, h1]
    show goB st1 (pre ++ rest) (n + 1) = _
    rw [go_run pre rest st1 st (n + 1) h2, List.length_cons, show n + 1 + pre.length = n + (pre.length + 1) by omega]
/-! ### signs -/
def Sgn (x : List UInt8) : Prop := ∀ c ∈ x, c = 32 ∨ 45 ≤ c.toNat
theorem sgn_pairs (b : List UInt8) : Sgn (pairsL b) := fun c h => by
  unfold pairsL at h
  obtain ⟨x, _, hx⟩ := List.mem_flatMap.1 h
  have hl := x.toNat_lt
  right
  rcases List.mem_cons.1 hx with rfl | hx
  · rw [sgn_toNat _ (by omega)]; split <;> omega
  · rw [List.mem_singleton] at hx
    rw [hx, sgn_toNat _ (by omega)]; split <;> omega
theorem sgn_text (b : List UInt8) : Sgn (textL b) := by
  unfold textL
  split
  · intro c hc
    rw [List.mem_singleton] at hc
    rw [hc]; right; decide
  · exact sgn_pairs b
theorem sgn_dec (n : Nat) : Sgn (decL n) := fun c h => by
  right
  have := (dec_digits n c h).1
  have h2 : (48 : UInt8).toNat ≤ c.toNat := this
  have h48 : (48 : UInt8).toNat = 48 := rfl
  omega
theorem sgn_k6 (i : Nat) : Sgn (K6.getD i []) := by
  have h1 : ∀ x ∈ K6, ∀ c ∈ x, c = 32 ∨ 45 ≤ c.toNat := by decide
  by_cases h : i < K6.length
  · rw [List.getD_eq_getElem?_getD, List.getElem?_eq_getElem h]
    exact h1 _ (List.getElem_mem h)
  · rw [List.getD_eq_getElem?_getD, List.getElem?_eq_none (by omega)]
    exact fun c hc => nomatch hc
theorem sgn_join (ws : List (List UInt8)) (h : ∀ x ∈ ws, Sgn x) : Sgn (join ws [32]) := by
  cases ws with
  | nil => intro c hc; rw [Go.Lib.join_nil] at hc; cases hc
  | cons a r =>
    intro c hc
    rw [Go.Lib.join_cons, List.mem_append] at hc
    rcases hc with hc | hc
    · exact h a (by simp) c hc
    · unfold joinTail at hc
      obtain ⟨y, hy, hc⟩ := List.mem_flatten.1 hc
      obtain ⟨z, hz, rfl⟩ := List.mem_map.1 hy
      rcases List.mem_append.1 hc with hc | hc
      · rw [List.mem_singleton] at hc; exact .inl hc
      · exact h z (List.mem_cons_of_mem _ hz) c hc
theorem sgn_rest (e : Ev) : ∀ x ∈ restE e, Sgn x := fun x hx => by
  unfold restE at hx
  split at hx
  · rw [List.mem_singleton] at hx; rw [hx]; exact sgn_text _
  · split at hx
    · rcases List.mem_cons.1 hx with rfl | hx
      · exact sgn_pairs _
      · rcases List.mem_cons.1 hx with rfl | hx
        · exact sgn_pairs _
        · obtain ⟨y, _, rfl⟩ := List.mem_map.1 hx
          exact sgn_pairs _
    · split at hx
      · obtain ⟨y, _, rfl⟩ := List.mem_map.1 hx
        exact sgn_dec _
      · rw [List.mem_singleton] at hx; rw [hx]; exact sgn_pairs _
theorem sgn_line {e : Ev} (h : Good e) : Sgn (lineE e) := by
  unfold lineE
  rw [if_pos h]
  exact sgn_join _ (fun x hx => by
    rcases List.mem_cons.1 hx with rfl | hx
    · exact sgn_k6 _
    · exact sgn_rest e x hx)
theorem sgn_conf : Sgn confW := by
  have : ∀ c ∈ confW, c = 32 ∨ 45 ≤ c.toNat := by decide
  exact this
theorem sgn_head (c : Cf) : Sgn (headL c) := sgn_join _ (fun x hx => by
  rcases List.mem_cons.1 hx with rfl | hx
  · exact sgn_conf
  · obtain ⟨y, _, rfl⟩ := List.mem_map.1 hx
    exact sgn_dec _)
theorem Sgn.no10 {x : List UInt8} (h : Sgn x) : (10 : UInt8) ∉ x := fun hx => by
  rcases h 10 hx with h | h
  · exact absurd h (by decide)
  · exact absurd h (by decide)
theorem Sgn.no35 {x : List UInt8} (h : Sgn x) (h0 : x ≠ []) : ¬ (x = [] ∨ x.head? = some 35) := fun hh => by
  rcases hh with hh | hh
  · exact h0 hh
  · obtain ⟨y, hy⟩ := List.head?_eq_some_iff.1 hh
    rcases h 35 (by rw [hy]; simp) with h | h
    · exact absurd h (by decide)
    · exact absurd h (by decide)
theorem join_ne (a : List UInt8) (r : List (List UInt8)) (h : a ≠ []) : join (a :: r) [32] ≠ [] := by
  rw [Go.Lib.join_cons]
  cases a with
  | nil => exact absurd rfl h
  | cons x y => simp
theorem line_ne {e : Ev} (h : Good e) : lineE e ≠ [] := by
  unfold lineE
  rw [if_pos h]
  refine join_ne _ _ ?_
  have h1 := h.1
  have hk : e.k.toNat = 1 ∨ e.k.toNat = 2 ∨ e.k.toNat = 3 ∨ e.k.toNat = 4 ∨ e.k.toNat = 5 ∨ e.k.toNat = 6 := by omega
  rcases hk with hk | hk | hk | hk | hk | hk <;> rw [hk] <;> decide
theorem head_ne (c : Cf) : headL c ≠ [] := join_ne _ _ (by decide)
/-! ### there and back -/
theorem step_line {e : Ev} (h : Good e) (hw : e.Wf) (c : Cf) (l : List Ev) : stepL (some (c, l)) (lineE e) = some (some (c, l ++ [e])) := by
  unfold stepL
  rw [if_neg ((sgn_line h).no35 (line_ne h))]
  show (readE (lineE e)).map _ = _
  rw [read_line h hw]; rfl
theorem conf_words (c : Cf) : sp (headL c) = confW :: c.l.map (fun x => decL x.toNat) := sp_join _ (by simp) (fun x hx => by
  rcases List.mem_cons.1 hx with rfl | hx
  · decide
  · obtain ⟨y, _, rfl⟩ := List.mem_map.1 hx
    exact dec_no32 _)
theorem conf_head {c : Cf} (h : ∀ x ∈ c.l, okC x) : confB (headL c) = some c := by
  unfold confB
  rw [conf_words]
  show (if confW = confW then (if (c.l.map fun x => decL x.toNat).length = 6 then (numsM 100000 (c.l.map fun x => decL x.toNat)).map Cf.of else none) else none) = _
  rw [if_pos rfl]
  show (if (c.l.map fun x => decL x.toNat).length = 6 then (numsM 100000 (c.l.map fun x => decL x.toNat)).map Cf.of else none) = _
  rw [if_pos (show (c.l.map fun x => decL x.toNat).length = 6 from rfl), nums_text (fun x hx => h x hx)]
  obtain ⟨d, s, k, e, a, o⟩ := c
  have h1 : ∀ x ∈ [d, s, k, e, a, o], okC x := h
  have q : ∀ x ∈ [d, s, k, e, a, o], ((x.toNat : Nat) : Int) = x := fun x hx => by have := h1 x hx; unfold okC at this; omega
  show some (Cf.mk ((d.toNat : Nat) : Int) ((s.toNat : Nat) : Int) ((k.toNat : Nat) : Int) ((e.toNat : Nat) : Int) ((a.toNat : Nat) : Int) ((o.toNat : Nat) : Int)) = _
  rw [q d (by simp), q s (by simp), q k (by simp), q e (by simp), q a (by simp), q o (by simp)]
theorem step_head {c : Cf} (h : ∀ x ∈ c.l, okC x) : stepL none (headL c) = some (some (c, [])) := by
  unfold stepL
  rw [if_neg ((sgn_head c).no35 (head_ne c))]
  show (confB (headL c)).map _ = _
  rw [conf_head h]; rfl
theorem run_lines : ∀ (l l0 : List Ev) (c : Cf), (∀ e ∈ l, Good e ∧ e.Wf) → runL (some (c, l0)) (l.map lineE) = some (some (c, l0 ++ l))
  | [], l0, c, _ => by simp [runL]
  | e :: l, l0, c, h => by
    rw [List.map_cons, runL, step_line (h e (by simp)).1 (h e (by simp)).2]
    show runL (some (c, l0 ++ [e])) (l.map lineE) = _
    rw [run_lines l (l0 ++ [e]) c (fun x hx => h x (List.mem_cons_of_mem _ hx))]
    simp
theorem parse_text {c : Cf} {l : List Ev} (hc : ∀ x ∈ c.l, okC x) (hl : ∀ e ∈ l, Good e ∧ e.Wf) (hs : (textB c l).length ≤ 20000) : parseB (textB c l) = (c, l, 0, 0) := by
  unfold parseB
  rw [if_neg (by omega)]
  unfold textB
  rw [lines_flat _ (fun x hx => by
    rcases List.mem_cons.1 hx with rfl | hx
    · exact (sgn_head c).no10
    · obtain ⟨e, he, rfl⟩ := List.mem_map.1 hx
      exact (sgn_line (hl e he).1).no10)]
  have hr : runL none (headL c :: l.map lineE) = some (some (c, l)) := by
    rw [runL, step_head hc]
    show runL (some (c, [])) (l.map lineE) = _
    rw [run_lines l [] c hl]; rfl
  have := go_run (headL c :: l.map lineE) [] none (some (c, l)) 0 hr
  rw [List.append_nil] at this
  rw [this]; rfl
theorem print_parse {c : Cf} {l : List Ev} (hw : ∀ e ∈ l, e.Wf) (h : (printB c l).2 = 0) : parseB (printB c l).1 = (c, l, 0, 0) := by
  unfold printB at h ⊢
  split at h
  · rename_i h1
    rw [if_pos h1]
    split at h
    · rename_i h2
      rw [if_pos h2]
      split at h
      · rename_i h3
        rw [if_pos h3]
        exact parse_text h1 (fun e he => ⟨h2 e he, hw e he⟩) h3
      · cases h
    · cases h
  · cases h
end Go.Proofs.YtcddgbobbogpgaaDoor.Scr

namespace Go.Proofs.YtcddgbobbogpgaaDoor.Scr
open Go.RowKit Go.Mir Go.Mir.Hx Go.Mir.Parts HexW Rpl

def u3L (e : Ev) : List Value := [.int .i64 e.u0, .int .i64 e.u1, .int .i64 e.u2]
def evL (e : Ev) (pb : Option Addr) (cb : Nat) (q : Option Addr) (c : Nat) : List Value :=
  Value.int .i64 e.k :: Value.slice pb e.b.length cb :: (bytesV e.h ++ (bytesV e.p ++ (Value.slice q e.tx.length c :: (bytesV e.id ++ (Value.int .i64 e.n :: u3L e)))))
def evA (e : Ev) (pb : Option Addr) (cb : Nat) (q : Option Addr) (c : Nat) : Array Value := (evL e pb cb q c).toArray
structure EvAt (w : World) (e : Ev) (pb : Option Addr) (cb : Nat) (q : Option Addr) (c : Nat) : Prop where
  wf : e.Wf
  bs : Bs w pb e.b.length cb e.b
  ids : Is w q e.tx.length c 32 e.tx
theorem EvAt.below {w w' : World} {e : Ev} {pb : Option Addr} {cb : Nat} {q : Option Addr} {c : Nat} (h : EvAt w e pb cb q c) (hb : Below w.heap.size w w') : EvAt w' e pb cb q c := ⟨h.wf, h.bs.below hb, h.ids.below hb⟩
theorem evL_len {e : Ev} (h : e.Wf) (pb : Option Addr) (cb : Nat) (q : Option Addr) (c : Nat) : (evL e pb cb q c).length = 103 := by
  unfold evL u3L
  simp only [List.length_cons, List.length_append, bytesV_length, h.h, h.p, h.id, List.length_nil]
theorem evA_size {e : Ev} (h : e.Wf) (pb : Option Addr) (cb : Nat) (q : Option Addr) (c : Nat) : (evA e pb cb q c).size = 103 := by unfold evA; rw [List.size_toArray, evL_len h]
theorem evA_one (e : Ev) (pb : Option Addr) (cb : Nat) (q : Option Addr) (c : Nat) : (evA e pb cb q c).all (·.oneCell') = true := by
  unfold evA
  refine all_oneCell_toArray fun v hv => ?_
  simp only [evL, u3L, List.mem_append, List.mem_cons, List.not_mem_nil, or_false] at hv
  rcases hv with rfl | rfl | hv | hv | rfl | hv | rfl | rfl | rfl | rfl <;> first | rfl | exact bytesV_one _ _ hv
theorem infoE (n : Nat) (h : n = 103) : (Tryd.prog.info? 31).map (·.size) = some n := by subst h; kernel_rfl
theorem infoF (n : Nat) (h : n = 103) : (Tryd.prog.info? 37).map (·.size) = some n := by subst h; kernel_rfl
theorem infoId (n : Nat) (h : n = 32) : (Tryd.prog.info? 25).map (·.size) = some n := by subst h; kernel_rfl
theorem infoBl (n : Nat) (h : n = 65) : (Tryd.prog.info? 28).map (·.size) = some n := by subst h; kernel_rfl
theorem infoU3 (n : Nat) (h : n = 3) : (Tryd.prog.info? 29).map (·.size) = some n := by subst h; kernel_rfl
def zE : Array Value := evA (Ev.zero 0) none 0 none 0
theorem zeroE (w : World) : (zeroValue 31).run Tryd.prog w = .ok (.agg zE) w := by kernel_rfl
theorem zeroF (w : World) : (zeroValue 37).run Tryd.prog w = .ok (.agg zE) w := by kernel_rfl
theorem zero_wf {k : Int} (h : i64B k) : (Ev.zero k).Wf := ⟨rfl, rfl, rfl, no_tx, h, small_i64 (show (0 : Int) ≤ 0 ∧ (0 : Int) ≤ 65535 by decide), small_i64 (show (0 : Int) ≤ 0 ∧ (0 : Int) ≤ 65535 by decide), small_i64 (show (0 : Int) ≤ 0 ∧ (0 : Int) ≤ 65535 by decide), small_i64 (show (0 : Int) ≤ 0 ∧ (0 : Int) ≤ 65535 by decide)⟩
theorem zE_size : zE.size = 103 := evA_size (zero_wf (show i64B 0 from ⟨by decide, by decide⟩)) none 0 none 0
/-- an event in a row of its own: its parts -/
structure EvC (w : World) (g : Nat) (e : Ev) (pb : Option Addr) (cb : Nat) (q : Option Addr) (c : Nat) : Prop where
  k : w.cell? ⟨g, 0, none⟩ = some (.int .i64 e.k)
  b : w.cell? ⟨g, 1, none⟩ = some (.slice pb e.b.length cb)
  h : w.rangeAt g 2 (idA e.h).toList
  p : w.rangeAt g 34 (idA e.p).toList
  tx : w.cell? ⟨g, 66, none⟩ = some (.slice q e.tx.length c)
  id : w.rangeAt g 67 (idA e.id).toList
  n : w.cell? ⟨g, 99, none⟩ = some (.int .i64 e.n)
  u0 : w.cell? ⟨g, 100, none⟩ = some (.int .i64 e.u0)
  u1 : w.cell? ⟨g, 101, none⟩ = some (.int .i64 e.u1)
  u2 : w.cell? ⟨g, 102, none⟩ = some (.int .i64 e.u2)
  blk : w.rangeAt g 2 (blkA e.h e.p q e.tx.length c).toList
  us : w.rangeAt g 100 (u3L e).toArray.toList
theorem ev_row {w : World} {g : Nat} {e : Ev} {pb : Option Addr} {cb : Nat} {q : Option Addr} {c : Nat} {t : TypeId} {fr : Nat × Nat} (hw : e.Wf) (hr : w.heap[g]? = some (.cells (evA e pb cb q c) t fr)) : EvC w g e pb cb q c := by
  have hM : (evA e pb cb q c).toList = evL e pb cb q c := by unfold evA; rfl
  have R : ∀ (A B C : List Value), evL e pb cb q c = A ++ B ++ C → w.rangeAt g A.length B := fun A B C h => range_row hr A B C (by rw [hM]; exact h)
  have lh : (bytesV e.h).length = 32 := by rw [bytesV_length, hw.h]
  have lp : (bytesV e.p).length = 32 := by rw [bytesV_length, hw.p]
  have li : (bytesV e.id).length = 32 := by rw [bytesV_length, hw.id]
  have one : ∀ {i : Nat} {v : Value}, w.rangeAt g i [v] → w.cell? ⟨g, i, none⟩ = some v := fun {i v} h => h 0 v rfl
  refine ⟨?_, ?_, ?_, ?_, ?_, ?_, ?_, ?_, ?_, ?_, ?_, ?_⟩
  · exact one (R [] [.int .i64 e.k] _ rfl)
  · exact one (R [.int .i64 e.k] [.slice pb e.b.length cb] _ rfl)
  · have := R [.int .i64 e.k, .slice pb e.b.length cb] (bytesV e.h) (bytesV e.p ++ (Value.slice q e.tx.length c :: (bytesV e.id ++ (Value.int .i64 e.n :: u3L e)))) (by unfold evL; simp)
    rw [idA_toList]; exact this
  · have := R ([.int .i64 e.k, .slice pb e.b.length cb] ++ bytesV e.h) (bytesV e.p) (Value.slice q e.tx.length c :: (bytesV e.id ++ (Value.int .i64 e.n :: u3L e))) (by unfold evL; simp)
    rw [List.length_append, lh] at this
    rw [idA_toList]; exact this
  · have := R ([.int .i64 e.k, .slice pb e.b.length cb] ++ bytesV e.h ++ bytesV e.p) [.slice q e.tx.length c] (bytesV e.id ++ (Value.int .i64 e.n :: u3L e)) (by unfold evL; simp)
    rw [List.length_append, List.length_append, lh, lp] at this
    exact one this
  · have := R ([.int .i64 e.k, .slice pb e.b.length cb] ++ bytesV e.h ++ bytesV e.p ++ [.slice q e.tx.length c]) (bytesV e.id) (Value.int .i64 e.n :: u3L e) (by unfold evL; simp)
    rw [List.length_append, List.length_append, List.length_append, lh, lp] at this
    rw [idA_toList]; exact this
  · have := R ([.int .i64 e.k, .slice pb e.b.length cb] ++ bytesV e.h ++ bytesV e.p ++ [.slice q e.tx.length c] ++ bytesV e.id) [.int .i64 e.n] [.int .i64 e.u0, .int .i64 e.u1, .int .i64 e.u2] (by unfold evL u3L; simp)
    simp only [List.length_append, List.length_cons, List.length_nil, lh, lp, li] at this
    exact one this
  · have := R ([.int .i64 e.k, .slice pb e.b.length cb] ++ bytesV e.h ++ bytesV e.p ++ [.slice q e.tx.length c] ++ bytesV e.id ++ [.int .i64 e.n]) [.int .i64 e.u0] [.int .i64 e.u1, .int .i64 e.u2] (by unfold evL u3L; simp)
    simp only [List.length_append, List.length_cons, List.length_nil, lh, lp, li] at this
    exact one this
  · have := R ([.int .i64 e.k, .slice pb e.b.length cb] ++ bytesV e.h ++ bytesV e.p ++ [.slice q e.tx.length c] ++ bytesV e.id ++ [.int .i64 e.n, .int .i64 e.u0]) [.int .i64 e.u1] [.int .i64 e.u2] (by unfold evL u3L; simp)
    simp only [List.length_append, List.length_cons, List.length_nil, lh, lp, li] at this
    exact one this
  · have := R ([.int .i64 e.k, .slice pb e.b.length cb] ++ bytesV e.h ++ bytesV e.p ++ [.slice q e.tx.length c] ++ bytesV e.id ++ [.int .i64 e.n, .int .i64 e.u0, .int .i64 e.u1]) [.int .i64 e.u2] [] (by unfold evL u3L; simp)
    simp only [List.length_append, List.length_cons, List.length_nil, lh, lp, li] at this
    exact one this
  · have := R [.int .i64 e.k, .slice pb e.b.length cb] (bytesV e.h ++ bytesV e.p ++ [.slice q e.tx.length c]) (bytesV e.id ++ (Value.int .i64 e.n :: u3L e)) (by unfold evL; simp)
    rw [blkA_toList]; exact this
  · have := R ([.int .i64 e.k, .slice pb e.b.length cb] ++ bytesV e.h ++ bytesV e.p ++ [.slice q e.tx.length c] ++ bytesV e.id ++ [.int .i64 e.n]) (u3L e) [] (by unfold evL; simp)
    simp only [List.length_append, List.length_cons, List.length_nil, lh, lp, li] at this
    exact this
/-! ### events made -/
theorem built_v (k n u0 u1 u2 : Int) (pb q : Option Addr) (nb cb nq c : Nat) (a0 a1 a2 a3 a4 a5 a6 a7 a8 a9 a10 a11 a12 a13 a14 a15 a16 a17 a18 a19 a20 a21 a22 a23 a24 a25 a26 a27 a28 a29 a30 a31 b0 b1 b2 b3 b4 b5 b6 b7 b8 b9 b10 b11 b12 b13 b14 b15 b16 b17 b18 b19 b20 b21 b22 b23 b24 b25 b26 b27 b28 b29 b30 b31 c0 c1 c2 c3 c4 c5 c6 c7 c8 c9 c10 c11 c12 c13 c14 c15 c16 c17 c18 c19 c20 c21 c22 c23 c24 c25 c26 c27 c28 c29 c30 c31 : Value) : Tryd.prog.built 37 [(0, .int .i64 k), (1, .slice pb nb cb), (2, .agg ([a0, a1, a2, a3, a4, a5, a6, a7, a8, a9, a10, a11, a12, a13, a14, a15, a16, a17, a18, a19, a20, a21, a22, a23, a24, a25, a26, a27, a28, a29, a30, a31] ++ [b0, b1, b2, b3, b4, b5, b6, b7, b8, b9, b10, b11, b12, b13, b14, b15, b16, b17, b18, b19, b20, b21, b22, b23, b24, b25, b26, b27, b28, b29, b30, b31] ++ [Value.slice q nq c]).toArray), (3, .agg [c0, c1, c2, c3, c4, c5, c6, c7, c8, c9, c10, c11, c12, c13, c14, c15, c16, c17, c18, c19, c20, c21, c22, c23, c24, c25, c26, c27, c28, c29, c30, c31].toArray), (4, .int .i64 n), (5, .agg #[.int .i64 u0, .int .i64 u1, .int .i64 u2])] = some (Value.int .i64 k :: Value.slice pb nb cb :: ([a0, a1, a2, a3, a4, a5, a6, a7, a8, a9, a10, a11, a12, a13, a14, a15, a16, a17, a18, a19, a20, a21, a22, a23, a24, a25, a26, a27, a28, a29, a30, a31] ++ ([b0, b1, b2, b3, b4, b5, b6, b7, b8, b9, b10, b11, b12, b13, b14, b15, b16, b17, b18, b19, b20, b21, b22, b23, b24, b25, b26, b27, b28, b29, b30, b31] ++ (Value.slice q nq c :: ([c0, c1, c2, c3, c4, c5, c6, c7, c8, c9, c10, c11, c12, c13, c14, c15, c16, c17, c18, c19, c20, c21, c22, c23, c24, c25, c26, c27, c28, c29, c30, c31] ++ [.int .i64 n, .int .i64 u0, .int .i64 u1, .int .i64 u2]))))).toArray := by kernel_rfl
theorem built_l (k n u0 u1 u2 : Int) (pb q : Option Addr) (nb cb nq c : Nat) (a b x : List Value) (ha : a.length = 32) (hb : b.length = 32) (hx : x.length = 32) : Tryd.prog.built 37 [(0, .int .i64 k), (1, .slice pb nb cb), (2, .agg (a ++ b ++ [Value.slice q nq c]).toArray), (3, .agg x.toArray), (4, .int .i64 n), (5, .agg #[.int .i64 u0, .int .i64 u1, .int .i64 u2])] = some (Value.int .i64 k :: Value.slice pb nb cb :: (a ++ (b ++ (Value.slice q nq c :: (x ++ [.int .i64 n, .int .i64 u0, .int .i64 u1, .int .i64 u2]))))).toArray :=
  match a, ha, b, hb, x, hx with
  | [a0, a1, a2, a3, a4, a5, a6, a7, a8, a9, a10, a11, a12, a13, a14, a15, a16, a17, a18, a19, a20, a21, a22, a23, a24, a25, a26, a27, a28, a29, a30, a31], _, [b0, b1, b2, b3, b4, b5, b6, b7, b8, b9, b10, b11, b12, b13, b14, b15, b16, b17, b18, b19, b20, b21, b22, b23, b24, b25, b26, b27, b28, b29, b30, b31], _, [c0, c1, c2, c3, c4, c5, c6, c7, c8, c9, c10, c11, c12, c13, c14, c15, c16, c17, c18, c19, c20, c21, c22, c23, c24, c25, c26, c27, c28, c29, c30, c31], _ => built_v k n u0 u1 u2 pb q nb cb nq c a0 a1 a2 a3 a4 a5 a6 a7 a8 a9 a10 a11 a12 a13 a14 a15 a16 a17 a18 a19 a20 a21 a22 a23 a24 a25 a26 a27 a28 a29 a30 a31 b0 b1 b2 b3 b4 b5 b6 b7 b8 b9 b10 b11 b12 b13 b14 b15 b16 b17 b18 b19 b20 b21 b22 b23 b24 b25 b26 b27 b28 b29 b30 b31 c0 c1 c2 c3 c4 c5 c6 c7 c8 c9 c10 c11 c12 c13 c14 c15 c16 c17 c18 c19 c20 c21 c22 c23 c24 c25 c26 c27 c28 c29 c30 c31
theorem built_all (e : Ev) (hw : e.Wf) (pb : Option Addr) (cb : Nat) (q : Option Addr) (c : Nat) : Tryd.prog.built 37 [(0, .int .i64 e.k), (1, .slice pb e.b.length cb), (2, .agg (blkA e.h e.p q e.tx.length c)), (3, .agg (idA e.id)), (4, .int .i64 e.n), (5, .agg (u3L e).toArray)] = some (evA e pb cb q c) :=
  built_l e.k e.n e.u0 e.u1 e.u2 pb q e.b.length cb e.tx.length c (bytesV e.h) (bytesV e.p) (bytesV e.id) (by rw [bytesV_length, hw.h]) (by rw [bytesV_length, hw.p]) (by rw [bytesV_length, hw.id])
theorem built_f1 (pb : Option Addr) (nb cb : Nat) : Tryd.prog.built 37 [(0, .int .i64 1), (1, .slice pb nb cb)] = some (Value.int .i64 1 :: Value.slice pb nb cb :: (bytesV zeros ++ (bytesV zeros ++ (Value.slice none 0 0 :: (bytesV zeros ++ [.int .i64 0, .int .i64 0, .int .i64 0, .int .i64 0]))))).toArray := by kernel_rfl
theorem built_f2v (q : Option Addr) (nq c : Nat) (a0 a1 a2 a3 a4 a5 a6 a7 a8 a9 a10 a11 a12 a13 a14 a15 a16 a17 a18 a19 a20 a21 a22 a23 a24 a25 a26 a27 a28 a29 a30 a31 b0 b1 b2 b3 b4 b5 b6 b7 b8 b9 b10 b11 b12 b13 b14 b15 b16 b17 b18 b19 b20 b21 b22 b23 b24 b25 b26 b27 b28 b29 b30 b31 : Value) : Tryd.prog.built 37 [(0, .int .i64 2), (2, .agg ([a0, a1, a2, a3, a4, a5, a6, a7, a8, a9, a10, a11, a12, a13, a14, a15, a16, a17, a18, a19, a20, a21, a22, a23, a24, a25, a26, a27, a28, a29, a30, a31] ++ [b0, b1, b2, b3, b4, b5, b6, b7, b8, b9, b10, b11, b12, b13, b14, b15, b16, b17, b18, b19, b20, b21, b22, b23, b24, b25, b26, b27, b28, b29, b30, b31] ++ [Value.slice q nq c]).toArray)] = some (Value.int .i64 2 :: Value.slice none 0 0 :: ([a0, a1, a2, a3, a4, a5, a6, a7, a8, a9, a10, a11, a12, a13, a14, a15, a16, a17, a18, a19, a20, a21, a22, a23, a24, a25, a26, a27, a28, a29, a30, a31] ++ ([b0, b1, b2, b3, b4, b5, b6, b7, b8, b9, b10, b11, b12, b13, b14, b15, b16, b17, b18, b19, b20, b21, b22, b23, b24, b25, b26, b27, b28, b29, b30, b31] ++ (Value.slice q nq c :: (bytesV zeros ++ [.int .i64 0, .int .i64 0, .int .i64 0, .int .i64 0]))))).toArray := by kernel_rfl
theorem built_f2 (q : Option Addr) (nq c : Nat) (a b : List Value) (ha : a.length = 32) (hb : b.length = 32) : Tryd.prog.built 37 [(0, .int .i64 2), (2, .agg (a ++ b ++ [Value.slice q nq c]).toArray)] = some (Value.int .i64 2 :: Value.slice none 0 0 :: (a ++ (b ++ (Value.slice q nq c :: (bytesV zeros ++ [.int .i64 0, .int .i64 0, .int .i64 0, .int .i64 0]))))).toArray :=
  match a, ha, b, hb with
  | [a0, a1, a2, a3, a4, a5, a6, a7, a8, a9, a10, a11, a12, a13, a14, a15, a16, a17, a18, a19, a20, a21, a22, a23, a24, a25, a26, a27, a28, a29, a30, a31], _, [b0, b1, b2, b3, b4, b5, b6, b7, b8, b9, b10, b11, b12, b13, b14, b15, b16, b17, b18, b19, b20, b21, b22, b23, b24, b25, b26, b27, b28, b29, b30, b31], _ => built_f2v q nq c a0 a1 a2 a3 a4 a5 a6 a7 a8 a9 a10 a11 a12 a13 a14 a15 a16 a17 a18 a19 a20 a21 a22 a23 a24 a25 a26 a27 a28 a29 a30 a31 b0 b1 b2 b3 b4 b5 b6 b7 b8 b9 b10 b11 b12 b13 b14 b15 b16 b17 b18 b19 b20 b21 b22 b23 b24 b25 b26 b27 b28 b29 b30 b31
theorem built_f3v (k : Int) (a0 a1 a2 a3 a4 a5 a6 a7 a8 a9 a10 a11 a12 a13 a14 a15 a16 a17 a18 a19 a20 a21 a22 a23 a24 a25 a26 a27 a28 a29 a30 a31 : Value) : Tryd.prog.built 37 [(0, .int .i64 k), (3, .agg [a0, a1, a2, a3, a4, a5, a6, a7, a8, a9, a10, a11, a12, a13, a14, a15, a16, a17, a18, a19, a20, a21, a22, a23, a24, a25, a26, a27, a28, a29, a30, a31].toArray)] = some (Value.int .i64 k :: Value.slice none 0 0 :: (bytesV zeros ++ (bytesV zeros ++ (Value.slice none 0 0 :: ([a0, a1, a2, a3, a4, a5, a6, a7, a8, a9, a10, a11, a12, a13, a14, a15, a16, a17, a18, a19, a20, a21, a22, a23, a24, a25, a26, a27, a28, a29, a30, a31] ++ [.int .i64 0, .int .i64 0, .int .i64 0, .int .i64 0]))))).toArray := by kernel_rfl
theorem built_f3 (k : Int) (a : List Value) (ha : a.length = 32) : Tryd.prog.built 37 [(0, .int .i64 k), (3, .agg a.toArray)] = some (Value.int .i64 k :: Value.slice none 0 0 :: (bytesV zeros ++ (bytesV zeros ++ (Value.slice none 0 0 :: (a ++ [.int .i64 0, .int .i64 0, .int .i64 0, .int .i64 0]))))).toArray :=
  match a, ha with
  | [a0, a1, a2, a3, a4, a5, a6, a7, a8, a9, a10, a11, a12, a13, a14, a15, a16, a17, a18, a19, a20, a21, a22, a23, a24, a25, a26, a27, a28, a29, a30, a31], _ => built_f3v k a0 a1 a2 a3 a4 a5 a6 a7 a8 a9 a10 a11 a12 a13 a14 a15 a16 a17 a18 a19 a20 a21 a22 a23 a24 a25 a26 a27 a28 a29 a30 a31
theorem built_f5 (n : Int) : Tryd.prog.built 37 [(0, .int .i64 5), (4, .int .i64 n)] = some (evA ⟨5, [], zeros, zeros, [], zeros, n, 0, 0, 0⟩ none 0 none 0) := by kernel_rfl
theorem built_f6 (k n u0 u1 u2 : Int) : Tryd.prog.built 37 [(0, .int .i64 k), (4, .int .i64 n), (5, .agg #[.int .i64 u0, .int .i64 u1, .int .i64 u2])] = some (evA ⟨k, [], zeros, zeros, [], zeros, n, u0, u1, u2⟩ none 0 none 0) := by kernel_rfl
theorem built_fk (k : Int) : Tryd.prog.built 37 [(0, .int .i64 k)] = some (evA (Ev.zero k) none 0 none 0) := by kernel_rfl
theorem built_f0 : Tryd.prog.built 37 [] = some (evA (Ev.zero 0) none 0 none 0) := by kernel_rfl
theorem built_ek (k : Int) : Tryd.prog.built 31 [(0, .int .i64 k)] = some (evA (Ev.zero k) none 0 none 0) := by kernel_rfl
theorem built_e0 : Tryd.prog.built 31 [] = some (evA (Ev.zero 0) none 0 none 0) := by kernel_rfl
theorem built_u3 (a b c : Int) : Tryd.prog.built 29 [(0, .int .i64 a), (1, .int .i64 b), (2, .int .i64 c)] = some #[.int .i64 a, .int .i64 b, .int .i64 c] := by kernel_rfl
theorem built_bv (q : Option Addr) (nq c : Nat) (a0 a1 a2 a3 a4 a5 a6 a7 a8 a9 a10 a11 a12 a13 a14 a15 a16 a17 a18 a19 a20 a21 a22 a23 a24 a25 a26 a27 a28 a29 a30 a31 b0 b1 b2 b3 b4 b5 b6 b7 b8 b9 b10 b11 b12 b13 b14 b15 b16 b17 b18 b19 b20 b21 b22 b23 b24 b25 b26 b27 b28 b29 b30 b31 : Value) : Tryd.prog.built 28 [(0, .agg [a0, a1, a2, a3, a4, a5, a6, a7, a8, a9, a10, a11, a12, a13, a14, a15, a16, a17, a18, a19, a20, a21, a22, a23, a24, a25, a26, a27, a28, a29, a30, a31].toArray), (1, .agg [b0, b1, b2, b3, b4, b5, b6, b7, b8, b9, b10, b11, b12, b13, b14, b15, b16, b17, b18, b19, b20, b21, b22, b23, b24, b25, b26, b27, b28, b29, b30, b31].toArray), (2, .slice q nq c)] = some ([a0, a1, a2, a3, a4, a5, a6, a7, a8, a9, a10, a11, a12, a13, a14, a15, a16, a17, a18, a19, a20, a21, a22, a23, a24, a25, a26, a27, a28, a29, a30, a31] ++ [b0, b1, b2, b3, b4, b5, b6, b7, b8, b9, b10, b11, b12, b13, b14, b15, b16, b17, b18, b19, b20, b21, b22, b23, b24, b25, b26, b27, b28, b29, b30, b31] ++ [Value.slice q nq c]).toArray := by kernel_rfl
theorem built_bl (q : Option Addr) (nq c : Nat) (a b : List Value) (ha : a.length = 32) (hb : b.length = 32) : Tryd.prog.built 28 [(0, .agg a.toArray), (1, .agg b.toArray), (2, .slice q nq c)] = some (a ++ b ++ [Value.slice q nq c]).toArray :=
  match a, ha, b, hb with
  | [a0, a1, a2, a3, a4, a5, a6, a7, a8, a9, a10, a11, a12, a13, a14, a15, a16, a17, a18, a19, a20, a21, a22, a23, a24, a25, a26, a27, a28, a29, a30, a31], _, [b0, b1, b2, b3, b4, b5, b6, b7, b8, b9, b10, b11, b12, b13, b14, b15, b16, b17, b18, b19, b20, b21, b22, b23, b24, b25, b26, b27, b28, b29, b30, b31], _ => built_bv q nq c a0 a1 a2 a3 a4 a5 a6 a7 a8 a9 a10 a11 a12 a13 a14 a15 a16 a17 a18 a19 a20 a21 a22 a23 a24 a25 a26 a27 a28 a29 a30 a31 b0 b1 b2 b3 b4 b5 b6 b7 b8 b9 b10 b11 b12 b13 b14 b15 b16 b17 b18 b19 b20 b21 b22 b23 b24 b25 b26 b27 b28 b29 b30 b31
theorem built_blk (h p : List UInt8) (q : Option Addr) (n c : Nat) (hh : h.length = 32) (hp : p.length = 32) : Tryd.prog.built 28 [(0, .agg (idA h)), (1, .agg (idA p)), (2, .slice q n c)] = some (blkA h p q n c) :=
  built_bl q n c (bytesV h) (bytesV p) (by rw [bytesV_length, hh]) (by rw [bytesV_length, hp])
/-! ### an event's parts stored -/
theorem set_at (A : List Value) (x y : Value) (B : List Value) : (A ++ x :: B).toArray.setIfInBounds A.length y = (A ++ y :: B).toArray := by
  simp []
end Go.Proofs.YtcddgbobbogpgaaDoor.Scr

namespace Go.Mir
open Go.ChangeShapes Go.WideShapes Go.ChangeAt Go.RowKit

theorem u8_of_list (zs : List Int) (h : ∀ n ∈ zs, (Lit.int .u8 n).wf = true) : ∃ l : List UInt8, zs = l.map (fun b => (b.toNat : Int)) := by
  induction zs with
  | nil => exact ⟨[], rfl⟩
  | cons z zs ih =>
    obtain ⟨l, rfl⟩ := ih (fun n hn => h n (by simp [hn]))
    have hz := h z (by simp)
    have hb : 0 ≤ z ∧ z ≤ 255 := by simpa [Lit.wf, IntKind.min, IntKind.max, IntKind.signed, IntKind.bits] using hz
    refine ⟨UInt8.ofNat z.toNat :: l, ?_⟩
    have : (UInt8.ofNat z.toNat).toNat = z.toNat := by
      rw [UInt8.toNat_ofNat']; exact Nat.mod_eq_of_lt (by omega)
    simp [this]; omega

/-- a []byte that came in -/
theorem open_bs {P : Program} {W : World} {H : Type} {enc : TypeId × Value → H} {t e base : Nat} {v : Value} {d : DataW H} {ps : List MemPlace} (ht : P.underlying t = some (.slice e)) (he : P.underlying e = some (.int .u8)) (hc : P.cellsOf e = 1)
    (hval : Value.okWide P W .any base t v) (h : DataW.Trod enc P W 0 (fun _ => true) true t v d ps) : ∃ p n c l, v = .slice p n c ∧ Bs W p n c l := by
  obtain ⟨a, n, c, rfl⟩ := okWide_slice ht hval
  obtain ⟨fuel, hf⟩ := h
  rcases open_ints ht he hc hf with ⟨hcs, _⟩ | ⟨x, l, c', zs, hcs, _, hl, hm, hz, _, hcell, hwz⟩
  · simp [Value.cells] at hcs
    obtain ⟨rfl, rfl, rfl⟩ := hcs
    exact ⟨_, _, _, [], rfl, Sl.nil _ _⟩
  · simp [Value.cells] at hcs
    obtain ⟨rfl, rfl, rfl⟩ := hcs
    obtain ⟨bs, rfl⟩ := u8_of_list zs hwz
    have hbl : bs.length = c := by simpa using hz
    refine ⟨_, _, _, bs.take n, rfl, ⟨?_, hl, by simpa [maxLen] using hm, fun h => (by cases h), fun a ha j u hu => ?_⟩⟩
    · rw [bytesV_length, List.length_take]; omega
    · obtain rfl := Option.some.inj ha
      have hj : j < n := by
        have := (List.getElem?_eq_some_iff.1 hu).1
        rw [bytesV_length, List.length_take] at this; omega
      have hc0 := hcell j (by simp; omega)
      rw [hc0, ← hu]
      simp [bytesV, hj, show j < bs.length by omega]

/-- a uint32 that came in, as a word -/
theorem u32_word {a : Int} (h : (Lit.int .u32 a).wf = true) : ∃ x : BitVec 32, a = (x.toNat : Int) := by
  have hb : 0 ≤ a ∧ a ≤ 4294967295 := by simpa [Lit.wf, IntKind.min, IntKind.max, IntKind.signed, IntKind.bits] using h
  refine ⟨BitVec.ofNat 32 a.toNat, ?_⟩
  rw [BitVec.toNat_ofNat, Nat.mod_eq_of_lt (by omega)]; omega
theorem u16_nat {a : Int} (h : (Lit.int .u16 a).wf = true) : ∃ x : Nat, a = (x : Int) ∧ x < 65536 := by
  have hb : 0 ≤ a ∧ a ≤ 65535 := by simpa [Lit.wf, IntKind.min, IntKind.max, IntKind.signed, IntKind.bits] using h
  exact ⟨a.toNat, by omega, by omega⟩
theorem u64_nat {a : Int} (h : (Lit.int .u64 a).wf = true) : ∃ x : Nat, a = (x : Int) ∧ x < 18446744073709551616 := by
  have hb : 0 ≤ a ∧ a ≤ 18446744073709551615 := by simpa [Lit.wf, IntKind.min, IntKind.max, IntKind.signed, IntKind.bits] using h
  exact ⟨a.toNat, by omega, by omega⟩
theorem i64_bd {a : Int} (h : (Lit.int .i64 a).wf = true) : -9223372036854775808 ≤ a ∧ a ≤ 9223372036854775807 := by
  simpa [Lit.wf, IntKind.min, IntKind.max, IntKind.signed, IntKind.bits] using h

/-- an array of numbers that came in, by its cells -/
theorem trod_nums {P : Program} {W : World} {H : Type} {enc : TypeId × Value → H} {base : Nat} {spare : Nat → Bool} {held : Bool} {fuel t n e : Nat} {k : IntKind} {cs : List Value} {x : DataW H × List MemPlace}
    (ht : P.underlying t = some (.array n e)) (he : P.underlying e = some (.int k)) (hc : P.cellsOf e = 1) (hct : P.cellsOf t = n) (h : DataW.trod enc P W base spare held fuel t cs = some x) :
    ∃ zs : List Int, cs = zs.map (Value.int k) ∧ zs.length = n ∧ ∀ z ∈ zs, (Lit.int k z).wf = true := by
  obtain ⟨xs, m, rfl, _, hl, hxl, hx⟩ := DataW.trod_array ht h
  rw [hct] at hl
  have key : ∀ i, i < n → ∃ z, cs[i]? = some (.int k z) ∧ (Lit.int k z).wf = true := by
    intro i hi
    have h1 := hx i hi
    rw [hc, Nat.mul_one] at h1
    have h2 : xs[i]? = some xs[i] := List.getElem?_eq_getElem (by omega)
    rw [h2] at h1
    obtain ⟨z, hz, _, hw⟩ := DataW.trod_int he h1
    refine ⟨z, ?_, hw⟩
    have h3 := congrArg (·[0]?) hz
    simpa using h3
  refine ⟨cs.map intOf, ?_, by simp [hl], ?_⟩
  · apply List.ext_getElem?
    intro i
    by_cases hi : i < n
    · obtain ⟨z, hz, _⟩ := key i hi
      simp [hz, intOf]
    · rw [List.getElem?_eq_none (by omega), List.getElem?_eq_none (by simp; omega)]
  · intro z hz
    rw [List.mem_map] at hz
    obtain ⟨v, hv, rfl⟩ := hz
    obtain ⟨i, hi, rfl⟩ := List.mem_iff_getElem.1 hv
    obtain ⟨z, hz, hw⟩ := key i (by omega)
    rw [List.getElem?_eq_getElem hi] at hz
    rw [Option.some.inj hz]; exact hw
theorem okWide_arr {P : Program} {W : World} {r : Reach} {base t n e : Nat} {v : Value} (ht : P.underlying t = some (.array n e)) (h : Value.okWide P W r base t v) : ∃ cs, v = .agg cs := by
  unfold Value.okWide at h
  rw [ht] at h
  obtain ⟨cs, hv, _⟩ := h
  exact ⟨cs, hv⟩
/-- an array of numbers that came in by value -/
theorem open_nums {P : Program} {W : World} {H : Type} {enc : TypeId × Value → H} {base t n e : Nat} {k : IntKind} {v : Value} {d : DataW H} {ps : List MemPlace}
    (ht : P.underlying t = some (.array n e)) (he : P.underlying e = some (.int k)) (hc : P.cellsOf e = 1) (hct : P.cellsOf t = n)
    (hval : Value.okWide P W .any base t v) (h : DataW.Trod enc P W 0 (fun _ => true) true t v d ps) : ∃ zs : List Int, v = .agg (zs.map (Value.int k)).toArray ∧ zs.length = n ∧ ∀ z ∈ zs, (Lit.int k z).wf = true := by
  obtain ⟨cs, rfl⟩ := okWide_arr ht hval
  obtain ⟨fuel, hf⟩ := h
  obtain ⟨zs, h1, h2, h3⟩ := trod_nums ht he hc hct hf
  refine ⟨zs, ?_, h2, h3⟩
  congr 1
  rw [← h1]; simp [Value.cells]

/-- how many elements a slice's datum has -/
def dlen {H : Type} : DataW H → Nat
  | .slice elems _ => elems.length
  | _ => 0

/-- a []byte by its cell -/
theorem trod_bs {P : Program} {W : World} {H : Type} {enc : TypeId × Value → H} {base fuel t e : Nat} {held : Bool} {cs : List Value} {x : DataW H × List MemPlace}
    (ht : P.underlying t = some (.slice e)) (he : P.underlying e = some (.int .u8)) (hc : P.cellsOf e = 1) (h : DataW.trod enc P W base (fun _ => true) held fuel t cs = some x) :
    ∃ p n c l, cs = [.slice p n c] ∧ Bs W p n c l ∧ dlen x.1 = n := by
  rcases Deep.open_slice1 ht hc h with ⟨rfl, rfl⟩ | ⟨a, len, cap, m, k, V, D, Pl, rfl, hb, hl, hm, hmm, rfl, hx⟩
  · exact ⟨_, _, _, [], rfl, Sl.nil _ _, rfl⟩
  · simp only [if_true] at hmm
    subst hmm
    have key : ∀ i, i < m → ∃ b : UInt8, V i = .int .u8 (b.toNat : Int) := by
      intro i hi
      obtain ⟨z, hz, _, hw⟩ := DataW.trod_int he (hx i hi).2
      obtain ⟨l, hl⟩ := u8_of_list [z] (by simpa using hw)
      match l, hl with
      | [b], hl => exact ⟨b, by simp at hz hl; rw [hz, hl]⟩
    refine ⟨_, _, _, (List.range len).map (fun i => UInt8.ofNat (intOf (V i)).toNat), rfl, ⟨?_, hl, by simpa [maxLen] using hm, fun h => (by cases h), fun a' ha j u hu => ?_⟩, by simp [dlen]⟩
    · simp [bytesV]
    · obtain rfl := Option.some.inj ha
      have hj : j < len := by
        have := (List.getElem?_eq_some_iff.1 hu).1
        simpa [bytesV] using this
      rw [(hx j (by omega)).1, ← hu]
      obtain ⟨b, hb⟩ := key j (by omega)
      rw [hb]
      simp [bytesV, hj, hb, intOf]

/-- a [][]byte that came in -/
theorem open_pts {P : Program} {W : World} {H : Type} {enc : TypeId × Value → H} {t e q base : Nat} {v : Value} {d : DataW H} {ps : List MemPlace} (ht : P.underlying t = some (.slice e)) (he : P.underlying e = some (.slice q)) (hq : P.underlying q = some (.int .u8)) (hc : P.cellsOf e = 1) (hcq : P.cellsOf q = 1)
    (hval : Value.okWide P W .any base t v) (h : DataW.Trod enc P W 0 (fun _ => true) true t v d ps) :
    ∃ p n c ls, v = .slice p n c ∧ Pts W p n c ls ∧ ((d = .nil ∧ ls = []) ∨ ∃ elems spare, d = .slice elems spare ∧ elems.map dlen = ls.map List.length) := by
  obtain ⟨a, n, c, rfl⟩ := okWide_slice ht hval
  obtain ⟨fuel, hf⟩ := h
  rcases Deep.open_slice1 ht hc hf with ⟨hcs, hx⟩ | ⟨a', len, cap, m, k, V, D, Pl, hcs, hb, hl, hm, hmm, hx, hv⟩
  · simp [Value.cells] at hcs
    obtain ⟨rfl, rfl, rfl⟩ := hcs
    exact ⟨_, _, _, [], rfl, Pts.made0 _, .inl ⟨(Prod.ext_iff.1 hx).1, rfl⟩⟩
  · simp [Value.cells] at hcs
    obtain ⟨rfl, rfl, rfl⟩ := hcs
    simp only [if_true] at hmm
    subst hmm
    have key : ∀ i, i < m → ∃ l : List UInt8, ∃ q m' k', V i = .slice q m' k' ∧ Bs W q m' k' l ∧ dlen (D i) = l.length := by
      intro i hi
      obtain ⟨q', n', c', l, h1, h2, h3⟩ := trod_bs he hq hcq (hv i hi).2
      exact ⟨l, q', n', c', by simpa using h1, h2, by rw [h3, h2.length]⟩
    obtain ⟨ls, hls, hlk⟩ : ∃ ls : List (List UInt8), ls.length = n ∧ ∀ i (h : i < ls.length), ∃ q m' k', V i = .slice q m' k' ∧ Bs W q m' k' ls[i] ∧ dlen (D i) = ls[i].length := by
      have : ∀ j, j ≤ n → ∃ ls : List (List UInt8), ls.length = j ∧ ∀ i (h : i < ls.length), ∃ q m' k', V i = .slice q m' k' ∧ Bs W q m' k' ls[i] ∧ dlen (D i) = ls[i].length := by
        intro j
        induction j with
        | zero => intro _; exact ⟨[], rfl, fun i h => by simp at h⟩
        | succ j ih =>
          intro hj
          obtain ⟨ls, h1, h2⟩ := ih (by omega)
          obtain ⟨l, hl⟩ := key j (by omega)
          refine ⟨ls ++ [l], by simp [h1], fun i hi => ?_⟩
          by_cases hij : i < j
          · rw [List.getElem_append_left (by omega)]; exact h2 i (by omega)
          · have : i = j := by simp [h1] at hi; omega
            subst this
            rw [List.getElem_append_right (by omega)]
            simpa [h1] using hl
      exact this n (Nat.le_refl _)
    refine ⟨_, _, _, ls, rfl, ⟨hls, hl, by simpa [maxLen] using hm, fun h => (by cases h), fun a ha j hj => ?_⟩, .inr ⟨_, _, (Prod.ext_iff.1 hx).1, ?_⟩⟩
    · obtain rfl := Option.some.inj ha
      obtain ⟨q', m', k', h1, h2, h3⟩ := hlk j hj
      exact ⟨q', m', k', by rw [(hv j (by omega)).1, h1], h2⟩
    · apply List.ext_getElem
      · simp [hls]
      · intro i h1 h2
        obtain ⟨q', m', k', h3, h4, h5⟩ := hlk i (by simpa using h2)
        simpa using h5

theorem addr_add_add (a : Addr) (i j : Nat) : (a.add i).add j = a.add (i + j) := by
  unfold Addr.add
  by_cases hj : j = 0
  · simp [hj]
  · by_cases hi : i = 0
    · simp [hi, hj]
    · simp [hi, hj, Nat.add_assoc]
theorem flatMap_length {α β : Type} (f : α → List β) (m : Nat) (l : List α) (h : ∀ x ∈ l, (f x).length = m) : (l.flatMap f).length = l.length * m := by
  induction l with
  | nil => simp
  | cons x l ih =>
    rw [List.flatMap_cons, List.length_append, h x (by simp), ih (fun y hy => h y (by simp [hy])), List.length_cons, Nat.add_mul]; omega
theorem build_list {α : Type} (n : Nat) (R : Nat → α → Prop) (h : ∀ i, i < n → ∃ x, R i x) : ∃ l : List α, l.length = n ∧ ∀ i (hi : i < l.length), R i l[i] := by
  induction n with
  | zero => exact ⟨[], rfl, fun i hi => by simp at hi⟩
  | succ n ih =>
    obtain ⟨l, h1, h2⟩ := ih (fun i hi => h i (by omega))
    obtain ⟨x, hx⟩ := h n (by omega)
    refine ⟨l ++ [x], by simp [h1], fun i hi => ?_⟩
    by_cases hin : i < n
    · rw [List.getElem_append_left (by omega)]; exact h2 i (by omega)
    · have : i = n := by simp [h1] at hi; omega
      subst this
      rw [List.getElem_append_right (by omega)]
      simpa [h1] using hx

/-- a slice of arrays of bytes, by its cell -/
theorem trod_is {P : Program} {W : World} {H : Type} {enc : TypeId × Value → H} {base fuel t e u n : Nat} {held : Bool} {cs : List Value} {x : DataW H × List MemPlace}
    (ht : P.underlying t = some (.slice e)) (he : P.underlying e = some (.array n u)) (hu : P.underlying u = some (.int .u8)) (hcu : P.cellsOf u = 1) (hce : P.cellsOf e = n) (hn : 0 < n) (h : DataW.trod enc P W base (fun _ => true) held fuel t cs = some x) :
    ∃ p len c ids, cs = [.slice p len c] ∧ Is W p len c n ids ∧ dlen x.1 = len := by
  rcases Deep.open_slice ht h with ⟨rfl, rfl⟩ | ⟨a, len, cap, m, k, D, Pl, rfl, hb, hl, hm, hmm, rfl, hx⟩
  · exact ⟨_, _, _, [], rfl, ⟨Sl.nil _ _, fun _ h => by simp at h, rfl⟩, rfl⟩
  · simp only [if_true] at hmm
    subst hmm
    rw [hce] at hx
    obtain ⟨ids, hil, hids⟩ := build_list (α := List UInt8) len (fun i b => b.length = n ∧ ∀ j (hj : j < b.length), W.cell? (a.add (i * n + j)) = some (.int .u8 (b[j].toNat : Int))) (fun i hi => by
      obtain ⟨cs', h1, h2⟩ := hx i (by omega)
      obtain ⟨zs, rfl, hz, hw⟩ := trod_nums he hu hcu hce h2
      obtain ⟨b, rfl⟩ := u8_of_list zs hw
      obtain ⟨_, _, h3⟩ := World.cells?_some h1
      have hbl : b.length = n := by simpa using hz
      refine ⟨b, hbl, fun j hj => ?_⟩
      rw [← addr_add_add, h3 j (by omega)]
      simp [hj])
    have heach : ∀ y ∈ ids, y.length = n := by
      intro y hy
      obtain ⟨i, hi, rfl⟩ := List.mem_iff_getElem.1 hy
      exact (hids i hi).1
    have hfl : ∀ y ∈ ids, (bytesV y).length = n := fun y hy => by rw [bytesV_length, heach y hy]
    refine ⟨_, _, _, ids, rfl, ⟨⟨by rw [flatMap_length bytesV n ids hfl, hil], hl, by simpa [maxLen] using hm, fun h => (by cases h), fun a' ha j v hv => ?_⟩, heach, hil⟩, by simp [dlen]⟩
    obtain rfl := Option.some.inj ha
    have hj : j < ids.length * n := by
      have := (List.getElem?_eq_some_iff.1 hv).1
      rwa [flatMap_length bytesV n ids hfl] at this
    have hdm : j / n * n + j % n = j := by rw [Nat.mul_comm]; exact Nat.div_add_mod j n
    have hq : j / n < ids.length := (Nat.div_lt_iff_lt_mul hn).2 hj
    have hr : j % n < n := Nat.mod_lt _ hn
    have h4 := getElem?_flatMap bytesV n ids hfl (j / n) (j % n) hq hr
    rw [hdm, hv] at h4
    have h5 := (hids (j / n) hq).2 (j % n) (by rw [(hids _ hq).1]; exact hr)
    rw [hdm] at h5
    rw [h5, h4, bytesV_get _ _ (by rw [(hids _ hq).1]; exact hr)]

end Go.Mir

namespace Go.Mir
open Go.RowKit

theorem setCells_row (b : Nat) (t : TypeId) : ∀ (vs : List Value) (o : Nat) (w : World) (A : Array Value), w.heap[b]? = some (.cells A t (0, 0)) → o + vs.length ≤ A.size →
    ∃ A', (w.setCells b o vs).heap[b]? = some (.cells A' t (0, 0)) ∧ A'.size = A.size ∧ ∀ i, A'[i]? = if o ≤ i ∧ i < o + vs.length then vs[i - o]? else A[i]?
  | [], o, w, A, h, hs => ⟨A, h, rfl, fun i => by rw [if_neg (by simp <;> omega)]⟩
  | v :: r, o, w, A, h, hs => by
    have h1 := Go.heap_setCell_same w b o A t v h
    simp only [List.length_cons] at hs
    obtain ⟨A', h2, h3, h4⟩ := setCells_row b t r (o + 1) _ _ h1 (by simp; omega)
    refine ⟨A', h2, by rw [h3]; simp, fun i => ?_⟩
    rw [h4 i, Array.getElem?_setIfInBounds]
    by_cases hi : o + 1 ≤ i ∧ i < o + 1 + r.length
    · rw [if_pos hi, if_pos (by simp; omega)]
      rw [show i - o = (i - (o + 1)) + 1 by omega, List.getElem?_cons_succ]
    · rw [if_neg hi]
      by_cases ho : o = i
      · subst ho
        rw [if_pos rfl, if_pos (by omega), if_pos (by simp)]; simp
      · rw [if_neg ho, if_neg (by simp; omega)]
theorem setCells_below {B b : Nat} {w0 : World} (hB : B ≤ b) : ∀ (vs : List Value) (o : Nat) (w : World), Below B w0 w → Below B w0 (w.setCells b o vs)
  | [], _, _, h => h
  | v :: r, o, _w, h => setCells_below hB r (o + 1) _ (h.setCell hB v)

/-- a struct copied whole into a new block -/
theorem alloc_stored (w : World) (Z : Array Value) (t : TypeId) (cs : List Value) (b : Nat) (hb : b = w.heap.size) (h : Z.size = cs.length) :
    ((w.alloc (.cells Z t)).setCells b 0 cs).heap[b]? = some (.cells cs.toArray t (0, 0)) ∧ Below w.heap.size w ((w.alloc (.cells Z t)).setCells b 0 cs) := by
  subst hb
  obtain ⟨A', h1, h2, h3⟩ := setCells_row w.heap.size t cs 0 (w.alloc (.cells Z t)) Z (heap_alloc_last _ _) (by omega)
  refine ⟨?_, setCells_below (Nat.le_refl _) _ _ _ (Below.allocs _ _)⟩
  rw [h1]
  have : A' = cs.toArray := by
    apply Array.ext_getElem?
    intro i
    rw [h3 i]
    by_cases hi : i < cs.length
    · rw [if_pos (by omega)]; simp
    · rw [if_neg (by omega), Array.getElem?_eq_none (by omega), Array.getElem?_eq_none (by simp; omega)]
  rw [this]
theorem there_alloc_new (w : World) (Z : Array Value) (t : TypeId) (n : Nat) (h : Z.size = n) : (w.alloc (.cells Z t)).there w.heap.size 0 n := fun j hj => by
  have h1 : (w.alloc (.cells Z t)).heap[w.heap.size]? = some (.cells Z t (0, 0)) := heap_alloc_last _ _
  refine ⟨?_, frozen_of_row _ _ _ _ _ h1⟩
  rw [cell_of_row _ _ _ _ _ _ h1]
  simp; omega

/-- a slice of structs, each of 'size' cells -/
structure Rs (w : World) (p : Option Addr) (n c size : Nat) (rows : List (List Value)) : Prop where
  sl : Sl w p n c size rows.flatten
  each : ∀ r ∈ rows, r.length = size
  count : rows.length = n
theorem Rs.below {w w' : World} {p : Option Addr} {n c size : Nat} {rows : List (List Value)} (h : Rs w p n c size rows) (hb : Below w.heap.size w w') : Rs w' p n c size rows := ⟨h.sl.below hb, h.each, h.count⟩
theorem Rs.row {w : World} {b o n c size : Nat} {rows : List (List Value)} (h : Rs w (some ⟨b, o, none⟩) n c size rows) (i : Nat) (hi : i < rows.length) : w.rangeAt b (o + i * size) rows[i] := fun j v hv => by
  have hj : j < size := by
    have := (List.getElem?_eq_some_iff.1 hv).1
    rwa [h.each _ (List.getElem_mem hi)] at this
  rw [Nat.add_assoc]
  refine h.sl.at ?_
  have := getElem?_flatMap (fun x : List Value => x) size rows h.each i j hi hj
  rw [show rows.flatten = rows.flatMap (fun x => x) by simp [List.flatMap_id'], this]; exact hv

/-- a slice of structs that came in -/
theorem trod_rows {P : Program} {W : World} {H : Type} {enc : TypeId × Value → H} {base fuel t e size : Nat} {held : Bool} {cs : List Value} {x : DataW H × List MemPlace} {α : Type} (R : α → List Value → DataW H → Prop)
    (ht : P.underlying t = some (.slice e)) (hce : P.cellsOf e = size) (hs : 0 < size)
    (one : ∀ m cs' y, DataW.trod enc P W base (fun _ => true) held m e cs' = some y → ∃ a, R a cs' y.1) (h : DataW.trod enc P W base (fun _ => true) held fuel t cs = some x) :
    ∃ p n c, ∃ L : List (List Value × α), cs = [.slice p n c] ∧ Rs W p n c size (L.map (·.1)) ∧ dlen x.1 = n ∧
      ((x.1 = .nil ∧ L = []) ∨ ∃ elems spare, x.1 = .slice elems spare ∧ elems.length = L.length ∧ ∀ i (h1 : i < elems.length) (h2 : i < L.length), R L[i].2 L[i].1 elems[i]) := by
  rcases Deep.open_slice ht h with ⟨rfl, rfl⟩ | ⟨a, len, cap, m, k, D, Pl, rfl, hb, hl, hm, hmm, rfl, hx⟩
  · exact ⟨_, _, _, [], rfl, ⟨Sl.nil _ _, fun _ h => by simp at h, rfl⟩, rfl, .inl ⟨rfl, rfl⟩⟩
  · simp only [if_true] at hmm
    subst hmm
    rw [hce] at hx
    obtain ⟨L, hL, hLs⟩ := build_list (α := List Value × α) len (fun i y => y.1.length = size ∧ R y.2 y.1 (D i) ∧ ∀ j (hj : j < y.1.length), W.cell? (a.add (i * size + j)) = some y.1[j]) (fun i hi => by
      obtain ⟨cs', h1, h2⟩ := hx i (by omega)
      obtain ⟨u, hu⟩ := one _ _ _ h2
      obtain ⟨_, h4, h3⟩ := World.cells?_some h1
      refine ⟨(cs', u), h4, hu, fun j hj => ?_⟩
      rw [← addr_add_add, h3 j (by rw [← h4]; exact hj)]
      simp [hj])
    have heach : ∀ r ∈ L.map (·.1), r.length = size := by
      intro r hr
      obtain ⟨y, hy, rfl⟩ := List.mem_map.1 hr
      obtain ⟨i, hi, rfl⟩ := List.mem_iff_getElem.1 hy
      exact (hLs i hi).1
    refine ⟨_, _, _, L, rfl, ⟨⟨?_, hl, by simpa [maxLen] using hm, fun h => (by cases h), fun a' ha j v hv => ?_⟩, heach, by simpa using hL⟩, by simp [dlen], .inr ⟨_, _, rfl, by simp [hL], fun i h1 h2 => ?_⟩⟩
    · have := flatMap_length (fun x : List Value => x) size (L.map (·.1)) heach
      rw [List.flatMap_id'] at this
      rw [this, List.length_map, hL]
    · obtain rfl := Option.some.inj ha
      have hfl := flatMap_length (fun x : List Value => x) size (L.map (·.1)) heach
      rw [List.flatMap_id', List.length_map] at hfl
      have hj : j < L.length * size := by
        have := (List.getElem?_eq_some_iff.1 hv).1
        rwa [hfl] at this
      have hdm : j / size * size + j % size = j := by rw [Nat.mul_comm]; exact Nat.div_add_mod j size
      have hq : j / size < L.length := (Nat.div_lt_iff_lt_mul hs).2 hj
      have hr : j % size < size := Nat.mod_lt _ hs
      have h4 := getElem?_flatMap (fun x : List Value => x) size (L.map (·.1)) heach (j / size) (j % size) (by simpa using hq) hr
      rw [hdm, List.flatMap_id', hv] at h4
      have h5 := (hLs (j / size) hq).2.2 (j % size) (by rw [(hLs _ hq).1]; exact hr)
      rw [hdm] at h5
      rw [h5, h4, List.getElem?_eq_getElem (by simp; rw [(hLs _ hq).1]; exact hr)]
      simp
    · have := (hLs i h2).2.1
      simpa using this

end Go.Mir

namespace Go.Proofs.YtcddgbobbogpgaaDoor.Scr
open Go.RowKit Go.Mir Go.Mir.Hx Go.Mir.Parts HexW Rpl

theorem turns_setCells {S : Nat → Prop} {w0 : World} {b : Nat} (hS : S b) : ∀ (vs : List Value) (o : Nat) (w : World), Turns S w0 w → Turns S w0 (w.setCells b o vs)
  | [], _, _, h => h
  | v :: r, o, _, h => turns_setCells hS r (o + 1) _ (h.setCell (p := ⟨b, o, none⟩) (fun _ => hS) v)
theorem put_at {A A' : Array Value} (X Y Y' Z : List Value) (o : Nat) (ho : o = X.length) (hy : Y.length = Y'.length) (hA : A.toList = X ++ (Y ++ Z)) (h3 : ∀ i, A'[i]? = if o ≤ i ∧ i < o + Y'.length then Y'[i - o]? else A[i]?) : A'.toList = X ++ (Y' ++ Z) := by
  subst ho
  apply List.ext_getElem?
  intro i
  rw [Array.getElem?_toList, h3 i, ← Array.getElem?_toList, hA]
  by_cases h1 : X.length ≤ i ∧ i < X.length + Y'.length
  · rw [if_pos h1, List.getElem?_append_right h1.1, List.getElem?_append_left (by omega)]
  · rw [if_neg h1]
    rcases Nat.lt_or_ge i X.length with h5 | h5
    · rw [List.getElem?_append_left h5, List.getElem?_append_left h5]
    · rw [List.getElem?_append_right h5, List.getElem?_append_right h5, List.getElem?_append_right (by omega), List.getElem?_append_right (by omega), hy]
/-- what stands ahead of the number -/
def hd99 (e : Ev) (pb : Option Addr) (cb : Nat) (q : Option Addr) (c : Nat) : List Value := [.int .i64 e.k, .slice pb e.b.length cb] ++ bytesV e.h ++ bytesV e.p ++ [.slice q e.tx.length c] ++ bytesV e.id
theorem hd99_len {e : Ev} (h : e.Wf) (pb : Option Addr) (cb : Nat) (q : Option Addr) (c : Nat) : (hd99 e pb cb q c).length = 99 := by
  unfold hd99
  simp only [List.length_append, List.length_cons, List.length_nil, bytesV_length, h.h, h.p, h.id]
theorem evL_99 (e : Ev) (pb : Option Addr) (cb : Nat) (q : Option Addr) (c : Nat) : evL e pb cb q c = hd99 e pb cb q c ++ [.int .i64 e.n, .int .i64 e.u0, .int .i64 e.u1, .int .i64 e.u2] := by
  unfold evL hd99 u3L
  simp
theorem eset0 (e : Ev) (pb : Option Addr) (cb : Nat) (q : Option Addr) (c : Nat) (z : Int) : (evA e pb cb q c).setIfInBounds 0 (.int .i64 z) = evA { e with k := z } pb cb q c := rfl
theorem eset1 (e : Ev) (pb : Option Addr) (cb : Nat) (q : Option Addr) (c : Nat) (b : List UInt8) (p' : Option Addr) (c' : Nat) : (evA e pb cb q c).setIfInBounds 1 (.slice p' b.length c') = evA { e with b := b } p' c' q c := rfl
theorem eset_n {e : Ev} (h : e.Wf) (pb : Option Addr) (cb : Nat) (q : Option Addr) (c : Nat) (z : Int) : (evA e pb cb q c).setIfInBounds 99 (.int .i64 z) = evA { e with n := z } pb cb q c := by
  have := set_at (hd99 e pb cb q c ++ []) (.int .i64 e.n) (.int .i64 z) [.int .i64 e.u0, .int .i64 e.u1, .int .i64 e.u2]
  rw [List.length_append, hd99_len h] at this
  unfold evA
  rw [evL_99, evL_99, show hd99 e pb cb q c ++ [.int .i64 e.n, .int .i64 e.u0, .int .i64 e.u1, .int .i64 e.u2] = (hd99 e pb cb q c ++ []) ++ .int .i64 e.n :: [.int .i64 e.u0, .int .i64 e.u1, .int .i64 e.u2] by simp]
  refine Eq.trans this ?_
  simp [hd99]
theorem eset_u0 {e : Ev} (h : e.Wf) (pb : Option Addr) (cb : Nat) (q : Option Addr) (c : Nat) (z : Int) : (evA e pb cb q c).setIfInBounds 100 (.int .i64 z) = evA { e with u0 := z } pb cb q c := by
  have := set_at (hd99 e pb cb q c ++ [.int .i64 e.n]) (.int .i64 e.u0) (.int .i64 z) [.int .i64 e.u1, .int .i64 e.u2]
  rw [List.length_append, hd99_len h] at this
  unfold evA
  rw [evL_99, evL_99, show hd99 e pb cb q c ++ [.int .i64 e.n, .int .i64 e.u0, .int .i64 e.u1, .int .i64 e.u2] = (hd99 e pb cb q c ++ [.int .i64 e.n]) ++ .int .i64 e.u0 :: [.int .i64 e.u1, .int .i64 e.u2] by simp]
  refine Eq.trans this ?_
  simp [hd99]
theorem eset_u1 {e : Ev} (h : e.Wf) (pb : Option Addr) (cb : Nat) (q : Option Addr) (c : Nat) (z : Int) : (evA e pb cb q c).setIfInBounds 101 (.int .i64 z) = evA { e with u1 := z } pb cb q c := by
  have := set_at (hd99 e pb cb q c ++ [.int .i64 e.n, .int .i64 e.u0]) (.int .i64 e.u1) (.int .i64 z) [.int .i64 e.u2]
  rw [List.length_append, hd99_len h] at this
  unfold evA
  rw [evL_99, evL_99, show hd99 e pb cb q c ++ [.int .i64 e.n, .int .i64 e.u0, .int .i64 e.u1, .int .i64 e.u2] = (hd99 e pb cb q c ++ [.int .i64 e.n, .int .i64 e.u0]) ++ .int .i64 e.u1 :: [.int .i64 e.u2] by simp]
  refine Eq.trans this ?_
  simp [hd99]
theorem eset_u2 {e : Ev} (h : e.Wf) (pb : Option Addr) (cb : Nat) (q : Option Addr) (c : Nat) (z : Int) : (evA e pb cb q c).setIfInBounds 102 (.int .i64 z) = evA { e with u2 := z } pb cb q c := by
  have := set_at (hd99 e pb cb q c ++ [.int .i64 e.n, .int .i64 e.u0, .int .i64 e.u1]) (.int .i64 e.u2) (.int .i64 z) []
  rw [List.length_append, hd99_len h] at this
  unfold evA
  rw [evL_99, evL_99, show hd99 e pb cb q c ++ [.int .i64 e.n, .int .i64 e.u0, .int .i64 e.u1, .int .i64 e.u2] = (hd99 e pb cb q c ++ [.int .i64 e.n, .int .i64 e.u0, .int .i64 e.u1]) ++ .int .i64 e.u2 :: [] by simp]
  refine Eq.trans this ?_
  simp [hd99]
theorem eset_blk {e : Ev} (hw : e.Wf) (pb : Option Addr) (cb : Nat) (q : Option Addr) (c : Nat) (h' p' : List UInt8) (t' : List (List UInt8)) (hh : h'.length = 32) (hp : p'.length = 32) (q' : Option Addr) (c' : Nat) {A' : Array Value} (h3 : ∀ i, A'[i]? = if 2 ≤ i ∧ i < 2 + (blkA h' p' q' t'.length c').toList.length then (blkA h' p' q' t'.length c').toList[i - 2]? else (evA e pb cb q c)[i]?) : A' = evA { e with h := h', p := p', tx := t' } pb cb q' c' := by
  apply Array.toList_inj.1
  have := put_at (A := evA e pb cb q c) [.int .i64 e.k, .slice pb e.b.length cb] (blkA e.h e.p q e.tx.length c).toList (blkA h' p' q' t'.length c').toList (bytesV e.id ++ (Value.int .i64 e.n :: u3L e)) 2 rfl (by rw [blkA_toList, blkA_toList]; simp [bytesV_length, hw.h, hw.p, hh, hp]) (by simp [evA, evL, blkA_toList]) h3
  rw [this]
  simp [evA, evL, blkA_toList, u3L]
theorem eset_id {e : Ev} (hw : e.Wf) (pb : Option Addr) (cb : Nat) (q : Option Addr) (c : Nat) (x : List UInt8) (hx : x.length = 32) {A' : Array Value} (h3 : ∀ i, A'[i]? = if 67 ≤ i ∧ i < 67 + (idA x).toList.length then (idA x).toList[i - 67]? else (evA e pb cb q c)[i]?) : A' = evA { e with id := x } pb cb q c := by
  apply Array.toList_inj.1
  rw [idA_toList] at h3
  have := put_at (A := evA e pb cb q c) ([.int .i64 e.k, .slice pb e.b.length cb] ++ (blkA e.h e.p q e.tx.length c).toList) (bytesV e.id) (bytesV x) (Value.int .i64 e.n :: u3L e) 67 (by rw [blkA_toList]; simp [bytesV_length, hw.h, hw.p]) (by rw [bytesV_length, bytesV_length, hw.id, hx]) (by simp [evA, evL, blkA_toList]) h3
  rw [this]
  simp [evA, evL, blkA_toList, u3L]
theorem eset_us {e : Ev} (hw : e.Wf) (pb : Option Addr) (cb : Nat) (q : Option Addr) (c : Nat) (a0 a1 a2 : Int) {A' : Array Value} (h3 : ∀ i, A'[i]? = if 100 ≤ i ∧ i < 100 + [Value.int .i64 a0, .int .i64 a1, .int .i64 a2].length then [Value.int .i64 a0, .int .i64 a1, .int .i64 a2][i - 100]? else (evA e pb cb q c)[i]?) : A' = evA { e with u0 := a0, u1 := a1, u2 := a2 } pb cb q c := by
  apply Array.toList_inj.1
  have := put_at (A := evA e pb cb q c) (hd99 e pb cb q c ++ [.int .i64 e.n]) (u3L e) [.int .i64 a0, .int .i64 a1, .int .i64 a2] [] 100 (by rw [List.length_append, hd99_len hw]; rfl) rfl (by unfold evA; simp [evL_99, u3L]) h3
  rw [this]
  simp [evA, evL_99, hd99]
/-- an event's row, in a world that is turned there alone -/
structure EW (w0 : World) (g : Nat) (t : TypeId) (e : Ev) (pb : Option Addr) (cb : Nat) (q : Option Addr) (c : Nat) (x : World) : Prop where
  row : x.heap[g]? = some (.cells (evA e pb cb q c) t (0, 0))
  wf : e.Wf
  turn : Turns (fun k => k = g) w0 x
section
variable {w0 x : World} {g : Nat} {t : TypeId} {e : Ev} {pb : Option Addr} {cb : Nat} {q : Option Addr} {c : Nat}
theorem EW.cells (h : EW w0 g t e pb cb q c x) : EvC x g e pb cb q c := ev_row h.wf h.row
theorem EW.set (h : EW w0 g t e pb cb q c x) (i : Nat) (v : Value) {e' : Ev} {pb' : Option Addr} {cb' : Nat} {q' : Option Addr} {c' : Nat} (hv : (evA e pb cb q c).setIfInBounds i v = evA e' pb' cb' q' c') (hw : e'.Wf) : EW w0 g t e' pb' cb' q' c' (x.setCell ⟨g, i, none⟩ v) :=
  ⟨by rw [heap_setCell_same _ _ _ _ _ _ h.row, hv], hw, h.turn.setCell (p := ⟨g, i, none⟩) (fun _ => rfl) v⟩
theorem EW.kind (h : EW w0 g t e pb cb q c x) (z : Int) (hz : i64B z) : EW w0 g t { e with k := z } pb cb q c (x.setCell ⟨g, 0, none⟩ (.int .i64 z)) := h.set 0 _ (eset0 e pb cb q c z) ⟨h.wf.h, h.wf.p, h.wf.id, h.wf.tx, hz, h.wf.n, h.wf.u0, h.wf.u1, h.wf.u2⟩
theorem EW.bytes (h : EW w0 g t e pb cb q c x) (b : List UInt8) (p' : Option Addr) (c' : Nat) : EW w0 g t { e with b := b } p' c' q c (x.setCell ⟨g, 1, none⟩ (.slice p' b.length c')) := h.set 1 _ (eset1 e pb cb q c b p' c') ⟨h.wf.h, h.wf.p, h.wf.id, h.wf.tx, h.wf.k, h.wf.n, h.wf.u0, h.wf.u1, h.wf.u2⟩
theorem EW.num (h : EW w0 g t e pb cb q c x) (z : Int) (hz : i64B z) : EW w0 g t { e with n := z } pb cb q c (x.setCell ⟨g, 99, none⟩ (.int .i64 z)) := h.set 99 _ (eset_n h.wf pb cb q c z) ⟨h.wf.h, h.wf.p, h.wf.id, h.wf.tx, h.wf.k, hz, h.wf.u0, h.wf.u1, h.wf.u2⟩
theorem EW.v0 (h : EW w0 g t e pb cb q c x) (z : Int) (hz : i64B z) : EW w0 g t { e with u0 := z } pb cb q c (x.setCell ⟨g, 100, none⟩ (.int .i64 z)) := h.set 100 _ (eset_u0 h.wf pb cb q c z) ⟨h.wf.h, h.wf.p, h.wf.id, h.wf.tx, h.wf.k, h.wf.n, hz, h.wf.u1, h.wf.u2⟩
theorem EW.v1 (h : EW w0 g t e pb cb q c x) (z : Int) (hz : i64B z) : EW w0 g t { e with u1 := z } pb cb q c (x.setCell ⟨g, 101, none⟩ (.int .i64 z)) := h.set 101 _ (eset_u1 h.wf pb cb q c z) ⟨h.wf.h, h.wf.p, h.wf.id, h.wf.tx, h.wf.k, h.wf.n, h.wf.u0, hz, h.wf.u2⟩
theorem EW.v2 (h : EW w0 g t e pb cb q c x) (z : Int) (hz : i64B z) : EW w0 g t { e with u2 := z } pb cb q c (x.setCell ⟨g, 102, none⟩ (.int .i64 z)) := h.set 102 _ (eset_u2 h.wf pb cb q c z) ⟨h.wf.h, h.wf.p, h.wf.id, h.wf.tx, h.wf.k, h.wf.n, h.wf.u0, h.wf.u1, hz⟩
theorem EW.block (h : EW w0 g t e pb cb q c x) (h' p' : List UInt8) (t' : List (List UInt8)) (hh : h'.length = 32) (hp : p'.length = 32) (ht : ∀ y ∈ t', y.length = 32) (q' : Option Addr) (c' : Nat) : EW w0 g t { e with h := h', p := p', tx := t' } pb cb q' c' (x.setCells g 2 (blkA h' p' q' t'.length c').toList) := by
  have hT := turns_setCells (S := fun k => k = g) rfl (blkA h' p' q' t'.length c').toList 2 x h.turn
  obtain ⟨A', h1, h2, h3⟩ := setCells_row g _ (blkA h' p' q' t'.length c').toList 2 x _ h.row (by rw [evA_size h.wf, blkA_toList]; simp [bytesV_length, hh, hp])
  rw [eset_blk h.wf pb cb q c h' p' t' hh hp q' c' h3] at h1
  exact ⟨h1, ⟨hh, hp, h.wf.id, ht, h.wf.k, h.wf.n, h.wf.u0, h.wf.u1, h.wf.u2⟩, hT⟩
theorem EW.ident (h : EW w0 g t e pb cb q c x) (i : List UInt8) (hi : i.length = 32) : EW w0 g t { e with id := i } pb cb q c (x.setCells g 67 (idA i).toList) := by
  have hT := turns_setCells (S := fun k => k = g) rfl (idA i).toList 67 x h.turn
  obtain ⟨A', h1, h2, h3⟩ := setCells_row g _ (idA i).toList 67 x _ h.row (by rw [evA_size h.wf, Array.length_toList, idA_size]; omega)
  rw [eset_id h.wf pb cb q c i hi h3] at h1
  exact ⟨h1, ⟨h.wf.h, h.wf.p, hi, h.wf.tx, h.wf.k, h.wf.n, h.wf.u0, h.wf.u1, h.wf.u2⟩, hT⟩
theorem EW.units (h : EW w0 g t e pb cb q c x) (a0 a1 a2 : Int) (h0 : i64B a0) (h1 : i64B a1) (h2 : i64B a2) : EW w0 g t { e with u0 := a0, u1 := a1, u2 := a2 } pb cb q c (x.setCells g 100 [.int .i64 a0, .int .i64 a1, .int .i64 a2]) := by
  have hT := turns_setCells (S := fun k => k = g) rfl [.int .i64 a0, .int .i64 a1, .int .i64 a2] 100 x h.turn
  obtain ⟨A', q1, q2, q3⟩ := setCells_row g _ [Value.int .i64 a0, .int .i64 a1, .int .i64 a2] 100 x _ h.row (by rw [evA_size h.wf]; show 100 + 3 ≤ 103; omega)
  rw [eset_us h.wf pb cb q c a0 a1 a2 q3] at q1
  exact ⟨q1, ⟨h.wf.h, h.wf.p, h.wf.id, h.wf.tx, h.wf.k, h.wf.n, h0, h1, h2⟩, hT⟩
/-- whole arrays can be put there -/
theorem EW.there (h : EW w0 g t e pb cb q c x) (o m : Nat) (hm : o + m ≤ 103) : x.there g o m := fun j hj => by
  refine ⟨?_, frozen_of_row _ _ _ _ _ h.row⟩
  rw [cell_of_row _ _ _ _ _ _ h.row, Array.getElem?_eq_getElem (by rw [evA_size h.wf]; omega)]
  rfl
theorem EW.frozen (h : EW w0 g t e pb cb q c x) (i : Nat) : x.frozen? ⟨g, i, none⟩ = false := frozen_of_row _ _ _ _ _ h.row
end
theorem loadM {P : Program} {ops : Array Oper} {rest : List Oper} {op : Oper} {a : Act} {w : World} {Q : Exit → Act → World → Prop} (hw : Region.wanted op (yielded ops a.tmps) = true) (ty : TypeId) (x : Operand) (ho : op.op = .load ty x)
    (b o : Nat) (hx : a.eval x = .pointer (some ⟨b, o, none⟩)) (M : Array Value) (d : TypeDesc) (hc : w.rangeAt b o M.toList)
    (hu : P.underlying ty = some d) (hd : d.isRow = true) (hi : (P.info? ty).map (·.size) = some M.size)
    (h : wpList P ops Q rest (a.put op.dst (.agg M)) w) : wpList P ops Q (op :: rest) a w :=
  wpList_unguard hw (wpList_load_mid rfl ty x ho b o hx M.toList d hc hu hd (by rw [Array.length_toList]; exact hi) (by rw [Array.toArray_toList]; exact h))
theorem blkA_size {h p : List UInt8} (hh : h.length = 32) (hp : p.length = 32) (q : Option Addr) (n c : Nat) : (blkA h p q n c).size = 65 := by
  rw [← Array.length_toList, blkA_toList]; simp [bytesV_length, hh, hp]
theorem blkA_one (h p : List UInt8) (q : Option Addr) (n c : Nat) : (blkA h p q n c).all (·.oneCell') = true := by
  have := all_oneCell_toArray (cs := (blkA h p q n c).toList) (fun v hv => by
    rw [blkA_toList] at hv
    simp only [List.mem_append, List.mem_singleton] at hv
    rcases hv with (hv | hv) | hv
    · exact bytesV_one _ v hv
    · exact bytesV_one _ v hv
    · rw [hv]; rfl)
  rwa [Array.toArray_toList] at this
/-! ### the kinds' words -/
def ZN : Array Value := (List.replicate 7 (Value.string ⟨#[]⟩)).toArray
theorem zeroN (w : World) : (zeroValue 63).run Tryd.prog w = .ok (.agg ZN) w := by kernel_rfl
theorem infoN (n : Nat) (h : n = 7) : (Tryd.prog.info? 63).map (·.size) = some n := by subst h; kernel_rfl
theorem oneN : ((strV K6).toArray).all (·.oneCell') = true := by kernel_rfl
theorem built_names : Tryd.prog.built 63 [(0, .string ⟨#[]⟩), (1, .string ⟨#[102, 114, 97, 109, 101]⟩), (2, .string ⟨#[99, 111, 110, 110, 101, 99, 116]⟩), (3, .string ⟨#[100, 105, 115, 99, 111, 110, 110, 101, 99, 116]⟩), (4, .string ⟨#[101, 118, 105, 99, 116]⟩), (5, .string ⟨#[97, 114, 109]⟩), (6, .string ⟨#[114, 101, 115, 116, 97, 114, 116]⟩)] = some (strV K6).toArray := by kernel_rfl
set_option maxRecDepth 100000 in
theorem names_any (w : World) : Calls Tryd.prog 21 #[] w fun e w' => e = .returned (.agg (strV K6).toArray) ∧ Below w.heap.size w w' := by
  have hz := zeroN
  go_enter Tryd.func21, Tryd.ntmps21
  go_upto_region 1 with fail
  go_wp2_with (first
    | refine Rdr.wpList_build rfl 63 _ rfl [(0, .string ⟨#[]⟩), (1, .string ⟨#[102, 114, 97, 109, 101]⟩), (2, .string ⟨#[99, 111, 110, 110, 101, 99, 116]⟩), (3, .string ⟨#[100, 105, 115, 99, 111, 110, 110, 101, 99, 116]⟩), (4, .string ⟨#[101, 118, 105, 99, 116]⟩), (5, .string ⟨#[97, 114, 109]⟩), (6, .string ⟨#[114, 101, 115, 116, 97, 114, 116]⟩)] rfl _ built_names ?_
    | refine wpList_store_row rfl 63 _ _ rfl w.heap.size (strV K6).toArray rfl rfl 63 ZN (heap_alloc_last _ _) (infoN _ rfl) rfl oneN ?_)
  have HS := Lib.hid (setRow_heap _ _ _ (strV K6).toArray _ _ (heap_alloc_last w (.cells ZN 63)))
  refine bodyPost_ret (results_cell_row rfl _ _ _ _ _ _ _ rfl HS.out Tryd.underlying63 rfl (infoN _ rfl)) rfl ?_
  exact ⟨rfl, below_setRow (Below.allocs w _) (Nat.le_refl _) _⟩
set_option maxRecDepth 100000 in
theorem rnames_any (w : World) : Calls Tryd.prog 27 #[] w fun e w' => e = .returned (.slice (some ⟨w.heap.size, 0, none⟩) 7 7) ∧ Ws w' (some ⟨w.heap.size, 0, none⟩) 7 7 K6 ∧ Below w.heap.size w w' := by
  go_enter Tryd.func27, Tryd.ntmps27
  go_wp2_with fail
  go_ret
  exact ⟨rfl, Ws.row (ls := K6) (heap_alloc_last w _) rfl (by decide), Below.allocs _ _⟩
set_option maxRecDepth 100000 in
theorem rnum_any (x : Int) (w : World) : Calls Tryd.prog 30 #[.int .i64 x] w fun e w' => e = .returned (.bool (decide (okN x))) ∧ w = w' := by
  by_cases h0 : 0 ≤ x
  · have d0 : decide (0 ≤ x) = true := decide_eq_true h0
    by_cases h1 : x ≤ 65535
    · have d1 : decide (x ≤ 65535) = true := decide_eq_true h1
      have hq : decide (okN x) = true := decide_eq_true ⟨h0, h1⟩
      rw [hq]
      clear h0 h1 hq
      go_enter Tryd.func30, Tryd.ntmps30
      go_wp2_with fail
      go_ret
      exact ⟨rfl, rfl⟩
    · have d1 : decide (x ≤ 65535) = false := decide_eq_false h1
      have hq : decide (okN x) = false := decide_eq_false (fun h => h1 h.2)
      rw [hq]
      clear h0 h1 hq
      go_enter Tryd.func30, Tryd.ntmps30
      go_wp2_with fail
      go_ret
      exact ⟨rfl, rfl⟩
  · have d0 : decide (0 ≤ x) = false := decide_eq_false h0
    have hq : decide (okN x) = false := decide_eq_false (fun h => h0 h.1)
    rw [hq]
    clear h0 hq
    go_enter Tryd.func30, Tryd.ntmps30
    go_wp2_with fail
    go_ret
    exact ⟨rfl, rfl⟩
/-- an event is told -/
def EvP (e : Ev) (w : World) (x : Ending) (w' : World) : Prop := ∃ pb cb q c, x = .returned (.agg (evA e pb cb q c)) ∧ EvAt w' e pb cb q c ∧ Below w.heap.size w w'
set_option maxRecDepth 100000 in
set_option maxHeartbeats 1600000 in
theorem plain_any {e : Ev} {pb : Option Addr} {cb : Nat} {q : Option Addr} {c : Nat} (w : World) (h : e.Wf) :
    Calls Tryd.prog 9 #[.agg (evA e pb cb q c)] w fun x w' => x = .returned (.agg (evA e pb cb q c)) ∧ Below w.heap.size w w' := by
  have hz := zeroF
  obtain ⟨a1, a2, a3, a4⟩ := Go.Mir.two_allocs w (.cells (evA e pb cb q c) 31) (.cells zE 37)
  have HC := Lib.hid (ev_row h a1)
  have HB := Lib.hid a4
  have HZ := Lib.hid a2
  have HW := Lib.hid h
  have hk := HC.out.k
  have hb := HC.out.b
  have hn := HC.out.n
  have HBU := Lib.hid (built_all e h pb cb q c)
  obtain ⟨A, hA⟩ : ∃ A, A = evA e pb cb q c := ⟨_, rfl⟩
  have HAS : Hid (A.size = 103) := by show _ = _; rw [hA]; exact evA_size h pb cb q c
  have HAO : Hid (A.all (·.oneCell') = true) := by show _ = _; rw [hA]; exact evA_one e pb cb q c
  rw [← hA] at HBU ⊢
  rw [← hA] at HC HB HZ hk hb hn
  clear a1 a2 a3 a4 h hA
  go_enter Tryd.func9, Tryd.ntmps9
  go_upto_region 1 with fail
  generalize (w.alloc (.cells A 31)).alloc (.cells zE 37) = w1 at *
  go_wp2_with (first
    | ((with_reducible refine wpAt 8 ?_); refine loadM (by rfl) 28 _ rfl w.heap.size 2 rfl (blkA e.h e.p q e.tx.length c) _ HC.out.blk Tryd.underlying28 rfl (infoBl _ (blkA_size HW.out.h HW.out.p _ _ _)) ?_)
    | ((with_reducible refine wpAt 10 ?_); refine loadM (by rfl) 25 _ rfl w.heap.size 67 rfl (idA e.id) _ HC.out.id Tryd.underlying25 rfl (infoId _ (by rw [idA_size, HW.out.id])) ?_)
    | ((with_reducible refine wpAt 14 ?_); refine loadM (by rfl) 29 _ rfl w.heap.size 100 rfl (u3L e).toArray _ HC.out.us Tryd.underlying29 rfl (infoU3 _ rfl) ?_)
    | refine Rdr.wpList_build rfl 37 _ rfl [(0, .int .i64 e.k), (1, .slice pb e.b.length cb), (2, .agg (blkA e.h e.p q e.tx.length c)), (3, .agg (idA e.id)), (4, .int .i64 e.n), (5, .agg (u3L e).toArray)] rfl _ HBU.out ?_
    | refine wpList_store_row rfl 37 _ _ rfl (w.heap.size + 1) A rfl rfl 37 zE HZ.out (infoF _ HAS.out) (by rw [HAS.out]; exact zE_size) HAO.out ?_)
  have HS := Lib.hid (setRow_heap _ _ _ A _ _ HZ.out)
  refine bodyPost_ret (results_cell_row rfl _ _ _ _ _ _ _ rfl HS.out Tryd.underlying37 rfl (infoF _ HAS.out)) rfl ?_
  exact ⟨rfl, below_setRow HB.out (by omega) _⟩
end Go.Proofs.YtcddgbobbogpgaaDoor.Scr

namespace Go.Proofs.YtcddgbobbogpgaaDoor.RR
open Go.RowKit Go.Mir Go.Mir.Parts

theorem eqI (w : World) (a b : List UInt8) (ha : a.length = 32) (hb : b.length = 32) : (Op.equalIn 10000 25 (.agg (idA a)) (.agg (idA b))).run Tryd.prog w = .ok (a == b) w :=
  run_equal_ids w 9998 Tryd.underlying25 Tryd.underlying5 (by kernel_rfl) (by kernel_rfl) (by kernel_rfl) a b ha hb
theorem infoI (n : Nat) (h : n = 32) : (Tryd.prog.info? 25).map (·.size) = some n := by subst h; kernel_rfl
theorem bretd {a b : Bool} (h : a = b) : Ending.returned (.bool a) = .returned (.bool b) := by rw [h]
theorem range_grown_row {w : World} {b : Nat} {A : Array Value} {t : TypeId} {fr : Nat × Nat} (h : w.heap[b]? = some (.cells A t fr)) (z : Grown w) : z.v.rangeAt b 0 A.toList :=
  range_grown (fun j v hv => by rw [cell_of_row _ _ _ _ _ _ h, ← Array.getElem?_toList, Nat.zero_add]; exact hv) z
theorem take_eq_step {a b : List (List UInt8)} {k : Nat} (h : a.take k = b.take k) (ha : k < a.length) (hb : k < b.length) (e : a[k] = b[k]) : a.take (k + 1) = b.take (k + 1) := by
  rw [take_snoc a k ha, take_snoc b k hb, h, e]

set_option maxRecDepth 100000 in
set_option maxHeartbeats 400000 in
theorem idsSame_any (p p2 : Option Addr) (n c n2 c2 : Nat) (la lb : List (List UInt8)) (w : World) (hA : Is w p n c 32 la) (hB : Is w p2 n2 c2 32 lb) :
    Calls Tryd.prog 34 #[.slice p n c, .slice p2 n2 c2] w fun e w' => e = .returned (.bool (la == lb)) ∧ Below w.heap.size w w' := by
  have HA := Lib.hid hA
  have HB := Lib.hid hB
  have ha := hA.sl.le
  have hb := hB.sl.le
  have ham := hA.sl.max
  have hbm := hB.sl.max
  obtain rfl : la.length = n := hA.count
  obtain rfl : lb.length = n2 := hB.count
  clear hA hB
  by_cases hl : la.length = lb.length
  · have hlen : ((la.length : Int) == (lb.length : Int)) = true := by rw [beq_iff_eq]; omega
    have hlen2 : ((la.length : Int) != (lb.length : Int)) = false := by rw [bne_eq_false_iff_eq]; omega
    have HL := Lib.hid hl
    clear hl
    go_enter Tryd.func34, Tryd.ntmps34
    go_wp2_with fail
    go_loopw [5] (fun j wr => ∃ k : Nat, k ≤ la.length ∧ j = .int .i64 k ∧ la.take k = lb.take k ∧ Below w.heap.size w wr) (fun j _ => la.length - (intOf j).toNat)
    case atStart => exact ⟨0, by omega, rfl, rfl, Below.refl _ _⟩
    case round =>
      obtain ⟨k, hk, rfl, heq, hbw⟩ := hrel
      have HEQ := Lib.hid heq
      have HBW := Lib.hid hbw
      clear heq hbw
      by_cases hlt : k < la.length
      · have hlt2 : k < lb.length := by rw [← HL.out]; exact hlt
        obtain ⟨b, o, rfl⟩ := HA.out.sl.addr (by omega) (by omega)
        obtain ⟨b2, o2, rfl⟩ := HB.out.sl.addr (by omega) (by omega)
        have HRA := Lib.hid (range_grown ((HA.out.below HBW.out).range (by omega) k hlt))
        have HRB := Lib.hid (range_grown ((HB.out.below HBW.out).range (by omega) k hlt2))
        have HLA : Hid ((la[k]'hlt).length = 32) := HA.out.each _ (List.getElem_mem _)
        have HLB : Hid ((lb[k]'hlt2).length = 32) := HB.out.each _ (List.getElem_mem _)
        have HST : Hid (la[k]'hlt = lb[k]'hlt2 → la.take (k + 1) = lb.take (k + 1)) := fun e => take_eq_step HEQ.out hlt hlt2 e
        have HNE : Hid (¬ la[k]'hlt = lb[k]'hlt2 → (la == lb) = false) := fun h => by
          rw [beq_eq_false_iff_ne]; intro e; subst e; exact h rfl
        generalize la[k]'hlt = x at *
        generalize lb[k]'hlt2 = y at *
        have hq : ∀ w, (Op.equalIn 10000 25 (.agg (idA x)) (.agg (idA y))).run Tryd.prog w = .ok (x == y) w := fun w => eqI w _ _ HLA.out HLB.out
        have hd : decide ((k : Int) < (la.length : Int)) = true := decide_eq_true (by omega)
        by_cases hxy : x = y
        · have hbq : (x == y) = true := by rw [beq_iff_eq]; exact hxy
          have HN := Lib.hid (HST.out hxy)
          clear hxy
          go_wp2_with fail
          refine wp_region_grow (by kernel_rfl) (by kernel_rfl) ?_
          repeat (first
            | refine wpQuiet_load rfl 25 _ rfl b (o + k * 32) rfl (idA x) _ HRA.out Tryd.underlying25 rfl (infoI _ (by rw [idA_size, HLA.out])) ?_
            | refine wpQuiet_load rfl 25 _ rfl b2 (o2 + k * 32) rfl (idA y) _ HRB.out Tryd.underlying25 rfl (infoI _ (by rw [idA_size, HLB.out])) ?_
            | quiet_step (fail))
          refine wpQuiet_nil ?_
          intro w3 hb3
          have HB3 := Lib.hid (HBW.out.trans (hb3.mono HBW.out.size))
          clear hb3 hq
          go_wp2_with fail
          go_roundw
          case rel => exact ⟨k + 1, by omega, by go_num, HN.out, HB3.out⟩
          case measure => simp [intOf]; omega
        · have hbq : (x == y) = false := by rw [beq_eq_false_iff_ne]; exact hxy
          have HN := Lib.hid (HNE.out hxy)
          clear hxy
          go_wp2_with fail
          refine wp_region_grow (by kernel_rfl) (by kernel_rfl) ?_
          repeat (first
            | refine wpQuiet_load rfl 25 _ rfl b (o + k * 32) rfl (idA x) _ HRA.out Tryd.underlying25 rfl (infoI _ (by rw [idA_size, HLA.out])) ?_
            | refine wpQuiet_load rfl 25 _ rfl b2 (o2 + k * 32) rfl (idA y) _ HRB.out Tryd.underlying25 rfl (infoI _ (by rw [idA_size, HLB.out])) ?_
            | quiet_step (fail))
          refine wpQuiet_nil ?_
          intro w3 hb3
          have HB3 := Lib.hid (HBW.out.trans (hb3.mono HBW.out.size))
          clear hb3 hq
          go_wp2_with fail
          go_ret
          exact ⟨bretd HN.out.symm, HB3.out⟩
      · have HR : Hid ((la == lb) = true) := by
          show _ = _
          have h1 := HEQ.out
          rw [List.take_of_length_le (by omega), List.take_of_length_le (by rw [← HL.out]; omega)] at h1
          rw [beq_iff_eq]; exact h1
        have hd : decide ((k : Int) < (la.length : Int)) = false := decide_eq_false (by omega)
        go_wp2_with fail
        go_ret
        exact ⟨bretd HR.out.symm, HBW.out⟩
  · have hlen : ((la.length : Int) == (lb.length : Int)) = false := by rw [beq_eq_false_iff_ne]; omega
    have HR : Hid ((la == lb) = false) := by
      show _ = _
      rw [beq_eq_false_iff_ne]; intro e; exact hl (by rw [e])
    clear hl
    go_enter Tryd.func34, Tryd.ntmps34
    go_wp2_with fail
    go_ret
    exact ⟨bretd HR.out.symm, Below.refl _ _⟩

end Go.Proofs.YtcddgbobbogpgaaDoor.RR
