/- PARTS, JOINED: FROM A WALK TO THE STATEMENT OF A LAW, ONCE FOR ALL: whoever shows that the call returns true and turns nothing below the heap's old size has the law. No program is named. Conditions: the law's arguments can be read as data. FROM A WALK TO THE STATEMENT OF A LAW WHOSE ROW LISTS VARIABLES: as XLaw, the listed content handed on. No program is named. Conditions: the law's arguments can be read as data. GENERAL LEMMAS FOR ALL WALKS OF THIS SET (no program is named): slices that read as lists, rows of cells, what stays below a block, small facts on numbers. Conditions: none. BYTES AS A STRING. No program is named. Conditions: none. STRINGS AS LISTS OF BYTES; ARRAYS OF BYTES COMPARED. No program is named. Conditions: none. PARTS: how many bytes they have in all, and as far as one has come. No program is named. Conditions: none. IDS AND BLOCKS AS VALUES: arrays of 32 bytes, and structs of two of them and a slice of them. A REGION THAT DRAWS ITS ORDER, WHOSE CALLS MAKE MEMORY. No program is named. Conditions: none. A REGION THAT DRAWS ITS ORDER, WALKED IN ONE ORDER: what reads only what stood at its start is taken at once; the calls come one behind the other. No program is named. Conditions: none. A READER IN MEMORY, and what it holds, plain; new, none, At, Left, Fail. Conditions: none. THE WALKS OF A READER: bytes taken; a number. Conditions: none. THE WALKS OF A READER: a number; bytes; a count. Conditions: none. A REGION THAT DRAWS ITS ORDER, WALKED IN ONE ORDER, WHOSE LAST OPERATIONS MAY TURN WHAT THE EARLIER ONES READ. No program is named. Conditions: none. THE WALKS OF A READER: an id; a hint. Conditions: none. THE WALKS OF A READER: ids. Conditions: none. errors.Is AND errors.As AT A FAULT OF THE READER's, by their contracts: Go's own text walked. Conditions: for errors.As the laid cell of errors.errorType. -/
import Derived.WalkKit
import Derived.ProofKit
import Derived.SizedLaws
import Derived.OpenShut
import Derived.ShutString
import Derived.ChangeOld
import Derived.JoinedCond
import Derived.Below
import Derived.Deep.DeepHandedRow
import Derived.WalkSpells
import Derived.WalkLawsBesides
import Derived.Deep.WholeRow
import Derived.Lib.Hide
import Derived.Lib.SlBytesConst
import Derived.Laws.AppendOwnNone
import Derived.Maps.AppendAt
import Derived.Laws.BytesArg
import Derived.Laws.BytesString
import Derived.Deep.Draws
import Derived.ChangeKeysEq
import Derived.Laws.CopyOwn
import Derived.Laws.Rows
import Derived.Laws.ResultCell
import Derived.Laws.Tables
import Derived.Deep.MidRow
import Derived.Great.BuildSlice
import Derived.BigQuiet
import Derived.StillTailTactics
import Derived.Deep.QuietTactic
import Derived.OrdersHeld
import Derived.Deep.RegionHeld3
import Derived.NoCompiler
import Derived.IntWalk
import Derived.Test.YtnejjfglkindjaaGreatDoorProg
import Derived.Deep.Upon
import Derived.Deep.Cut
import Derived.Outline
import Derived.Laws.BitsAllLaws
import Derived.LaidEql
import Derived.Stop.Asserts
import Derived.RowKitTokens
namespace Go.Mir
theorem zA {α : Type} (l : List α) (i : Nat) (a : α) : l.toArray.setIfInBounds i a = (l.set i a).toArray := List.setIfInBounds_toArray ..
theorem zB {α : Type} (x : α) (xs : List α) (a : α) : (x :: xs).set 0 a = a :: xs := rfl
theorem zC {α : Type} (x : α) (xs : List α) (i : Nat) (a : α) : (x :: xs).set (i + 1) a = x :: xs.set i a := rfl
end Go.Mir
namespace Go.Mir
open Go.ChangeShapes Go.WideShapes Go.ChangeAt Go.RowKit
variable {H : Type} {enc : TypeId × Value → H}
theorem below_trodAll {P : Program} {W W' : World} (hl : laidOutB P = true) (hb : Below W.heap.size W W') :
  ∀ {ts : List TypeId} {vs : List Value} {ds : List (DataW H)} {ps : List MemPlace}, (∀ t ∈ ts, P.readableRec t = true ∧ t < P.types.size) →
   DataW.TrodAll enc P W 0 (fun _ => true) true ts vs ds ps → DataW.TrodAll enc P W' 0 (fun b => decide (b < W.heap.size)) true ts vs ds ps
 | [], vs, ds, ps, _, h => by
  obtain ⟨rfl, rfl, rfl⟩ := trodAll_nil h
  exact rfl
 | t :: ts, vs, ds, ps, hr, h => by
  obtain ⟨v, vs', d, ds', p, q, rfl, rfl, rfl, h0, r0⟩ := trodAll_cons h
  have lt : ∀ x ∈ p, x.block < W.heap.size := by obtain ⟨m, hm⟩ := h0; exact DataW.trod_lt m _ _ _ hm
  exact trodAll_cons_mk (Below.trod hl (hr t (by simp)).1 (hr t (by simp)).2 h0 hb lt) (below_trodAll hl hb (fun t ht => hr t (by simp [ht])) r0)
theorem law_post {P : Program} {fn : Func} {s : ChangeSpec} {tb : TypeId} {W W' : World} {args : Array Value} {ds : List (DataW H)} {before : List MemPlace}
  (hl : laidOutB P = true) (hr : ∀ t ∈ fn.params.toList, P.readableRec t = true ∧ t < P.types.size) (hres : fn.resultTypes = #[tb]) (hb : P.underlying tb = some .bool) (hv : s.vars = [])
  (hs : s.fn H (ds ++ []) = { results := [.lit (.bool true)], args := ds }) (hW : DataW.Whole enc P fn.params.toList s.vars false W args.toList ds [] before) (bel : Below W.heap.size W W') :
  s.post enc P fn false true false false W args (.bool true) W' := by
 have hW' := hW
 obtain ⟨p, q, hA, hV, rfl, hfz, hnd⟩ := hW
 refine ⟨ds, [], p ++ q, [], p, [], hW', ?_, ?_, ?_, bel.frame _, fun h => by cases h⟩
 ·rw [hs, hres]; exact trodAll_mk1 (shut_bool hb _)
 ·rw [hs]; exact below_trodAll hl bel hr hA
 ·rw [hs, hv]; exact rfl
end Go.Mir
namespace Go.Mir
open Go.ChangeShapes Go.WideShapes Go.ChangeAt Go.RowKit
variable {H : Type} {enc : TypeId × Value → H}
theorem law_row {C : Checked} {os : Os} {f : FuncId} {fn : Func} {s : ChangeSpec} {F : Stop.Interp} {tb : TypeId} {conds : List PathCond} {laid : List (String × DataW Unit)}
  (own : ownKnob C.prog.godebug = none) (started : os.Started) (noInit : C.prog.inits.idxOf? f = none) (hfn : C.prog.funcs[f]? = some fn)
  (witness : ∃ (w : World) (tape : Tape) (i : Input), w.os = os ∧ (w.forCall tape i).Shaped C.prog ∧ i.vars = [] ∧ Input.okWide C.prog (w.forCall tape i) .any w.heap.size f i ∧
   (OpenSpec.ofChange s).preRow enc C.prog fn conds false laid (w.forCall tape i).memory i.args ∧ Assume.holds {} C.prog (lone (Frame.enter C.prog f i.args .normal) [] (w.forCall tape i)))
  (hl : laidOutB C.prog = true) (hr : fn.params.toList.all (fun t => C.prog.readableRec t && decide (t < C.prog.types.size)) = true) (hres : fn.resultTypes = #[tb]) (hb : C.prog.underlying tb = some .bool) (hv : s.vars = [])
  (walk : ∀ (W : World) (base : Nat) (args : Array Value) (ds : List (DataW H)) (p : List MemPlace),
   (∀ (j : Nat) t v, fn.params[j]? = some t → args[j]? = some v → Value.okWide C.prog W .any base t v) →
   DataW.TrodAll enc C.prog W 0 (fun _ => true) true fn.params.toList args.toList ds p → laidMetH C.prog laid W →
   s.fn H (ds ++ []) = { results := [.lit (.bool true)], args := ds } ∧ Calls C.prog f args W fun e W' => e = .returned (.bool true) ∧ Below W.heap.size W W') :
  ReturnsInHanded {} C os f .any ((OpenSpec.ofChange s).preRow enc C.prog fn conds false laid) (((OpenSpec.ofChange s).at F).post enc C.prog fn false true false false) := by
 refine returnsInHanded_of_row (C := C) (s := OpenSpec.ofChange s) own started noInit hfn witness ?_
 intro W base args ds gs before hval hW _ _ _ hL _ _
 have hr' : ∀ t ∈ fn.params.toList, C.prog.readableRec t = true ∧ t < C.prog.types.size := fun t ht => by
  have := List.all_eq_true.1 hr t ht; simpa using this
 have hW1 : DataW.Whole enc C.prog fn.params.toList s.vars false W args.toList ds gs before := hW
 obtain ⟨p, q, hA, hV, rfl, hfz, hnd⟩ := id hW1
 rw [hv] at hV
 obtain ⟨rfl, rfl⟩ : gs = [] ∧ q = [] := by
  cases gs with
  | nil => exact ⟨rfl, hV⟩
  | cons g gs => exact hV.elim
 obtain ⟨hs, hc⟩ := walk W base args ds p hval hA hL
 refine hc.mono fun e W' ⟨he, bel⟩ => ?_
 subst he
 exact ⟨_, rfl, law_post hl hr' hres hb hv hs hW1 bel⟩
end Go.Mir
namespace Go.Mir
open Go.RowKit
structure Sl (w : World) (p : Option Addr) (n c size : Nat) (vs : List Value) : Prop where
 len : vs.length = n * size
 le : n ≤ c
 max : c ≤ 9223372036854775807
 nil0 : p = none → c = 0
 cell : ∀ a, p = some a → ∀ j u, vs[j]? = some u → w.cell? (a.add j) = some u
theorem Sl.below {w w' : World} {p : Option Addr} {n c size : Nat} {vs : List Value} (h : Sl w p n c size vs) (hb : Below w.heap.size w w') : Sl w' p n c size vs :=
 ⟨h.len, h.le, h.max, h.nil0, fun a ha j u hu => by
  have := h.cell a ha j u hu
  rw [hb.cell (block_lt_of_cell this)]; exact this⟩
theorem addr_add_block (a : Addr) (j : Nat) : (a.add j).block = a.block := by unfold Addr.add; split <;> rfl
theorem Sl.nil (w : World) (size : Nat) : Sl w none 0 0 size [] := ⟨by simp, by omega, by omega, fun _ => rfl, fun _ h => by cases h⟩
theorem cell_spot {w : World} {a : Addr} {v : Value} (h : w.cell? a = some v) : a = ⟨a.block, a.off, none⟩ := by
 obtain ⟨b, o, s⟩ := a
 cases s with
 | none => rfl
 | some k => simp only [World.cell?] at h; split at h <;> simp at h
theorem add_none (b o j : Nat) : (⟨b, o, none⟩ : Addr).add j = ⟨b, o + j, none⟩ := Addr.add_lit b o j
theorem Sl.addr {w : World} {p : Option Addr} {n c size : Nat} {vs : List Value} (h : Sl w p n c size vs) (hn : 0 < n) (hs : 0 < size) : ∃ b o, p = some ⟨b, o, none⟩ := by
 cases p with
 | none => have := h.nil0 rfl; have := h.le; omega
 | some a =>
  have hl : 0 < vs.length := by rw [h.len]; exact Nat.mul_pos hn hs
  have := h.cell a rfl 0 vs[0] (by simp [hl])
  rw [show a.add 0 = a from rfl] at this
  exact ⟨a.block, a.off, congrArg some (cell_spot this)⟩
theorem Sl.at {w : World} {b o : Nat} {n c size : Nat} {vs : List Value} (h : Sl w (some ⟨b, o, none⟩) n c size vs) {j : Nat} {u : Value} (hu : vs[j]? = some u) : w.cell? ⟨b, o + j, none⟩ = some u := by
 rw [← add_none]; exact h.cell _ rfl j u hu
def bytesV (l : List UInt8) : List Value := l.map fun b => .int .u8 (b.toNat : Int)
theorem bytesV_length (l : List UInt8) : (bytesV l).length = l.length := by simp [bytesV]
theorem bytesV_get (l : List UInt8) (j : Nat) (h : j < l.length) : (bytesV l)[j]? = some (.int .u8 (l[j].toNat : Int)) := by simp [bytesV, h]
theorem bytesV_append (a b : List UInt8) : bytesV (a ++ b) = bytesV a ++ bytesV b := by simp [bytesV]
theorem bytesV_one (l : List UInt8) : ∀ u ∈ bytesV l, u.oneCell' = true := by
 intro u hu; simp only [bytesV, List.mem_map] at hu; obtain ⟨_, _, rfl⟩ := hu; rfl
abbrev Bs (w : World) (p : Option Addr) (n c : Nat) (l : List UInt8) : Prop := Sl w p n c 1 (bytesV l)
theorem Bs.length {w : World} {p : Option Addr} {n c : Nat} {l : List UInt8} (h : Bs w p n c l) : l.length = n := by
 have := h.len; simpa [bytesV_length] using this
theorem Bs.byte {w : World} {b o : Nat} {n c : Nat} {l : List UInt8} (h : Bs w (some ⟨b, o, none⟩) n c l) {j : Nat} (hj : j < l.length) : w.cell? ⟨b, o + j, none⟩ = some (.int .u8 (l[j].toNat : Int)) :=
 h.at (bytesV_get l j hj)
theorem getElem?_flatMap {α β : Type} (f : α → List β) (m : Nat) : ∀ (l : List α), (∀ x ∈ l, (f x).length = m) → ∀ i j (hi : i < l.length), j < m → (l.flatMap f)[i * m + j]? = (f l[i])[j]?
 | [], _, _, _, hi, _ => by simp at hi
 | x :: l, h, i, j, hi, hj => by
  rw [List.flatMap_cons]
  have hx := h x (by simp)
  cases i with
  | zero => rw [Nat.zero_mul, Nat.zero_add, List.getElem?_append_left (by omega)]; rfl
  | succ i =>
   rw [List.getElem?_append_right (by rw [hx, Nat.add_mul]; omega), hx, show (i + 1) * m + j - m = i * m + j from by rw [Nat.add_mul]; omega]
   exact getElem?_flatMap f m l (fun y hy => h y (by simp [hy])) i j (by simpa using hi) hj
structure Is (w : World) (p : Option Addr) (n c size : Nat) (ids : List (List UInt8)) : Prop where
 sl : Sl w p n c size (ids.flatMap bytesV)
 each : ∀ x ∈ ids, x.length = size
 count : ids.length = n
theorem Is.below {w w' : World} {p : Option Addr} {n c size : Nat} {ids : List (List UInt8)} (h : Is w p n c size ids) (hb : Below w.heap.size w w') : Is w' p n c size ids := ⟨h.sl.below hb, h.each, h.count⟩
theorem Is.one {w : World} {b o n c size : Nat} {ids : List (List UInt8)} (h : Is w (some ⟨b, o, none⟩) n c size ids) (i : Nat) (hi : i < ids.length) (hs : size ≤ 9223372036854775807) : Bs w (some ⟨b, o + i * size, none⟩) size size ids[i] :=
 ⟨by rw [bytesV_length, h.each _ (List.getElem_mem hi), Nat.mul_one], Nat.le_refl _, hs, fun h => (by cases h), fun a ha j u hu => by
  obtain rfl := Option.some.inj ha
  have hj : j < size := by
   have := (List.getElem?_eq_some_iff.1 hu).1
   rwa [bytesV_length, h.each _ (List.getElem_mem hi)] at this
  rw [add_none, Nat.add_assoc]
  refine h.sl.at ?_
  rw [getElem?_flatMap bytesV size ids (fun x hx => by rw [bytesV_length, h.each x hx]) i j hi hj]; exact hu⟩
structure Pts (w : World) (p : Option Addr) (n c : Nat) (ls : List (List UInt8)) : Prop where
 len : ls.length = n
 le : n ≤ c
 max : c ≤ 9223372036854775807
 nil0 : p = none → c = 0
 cell : ∀ a, p = some a → ∀ j (h : j < ls.length), ∃ q m k, w.cell? (a.add j) = some (.slice q m k) ∧ Bs w q m k ls[j]
theorem Pts.below {w w' : World} {p : Option Addr} {n c : Nat} {ls : List (List UInt8)} (h : Pts w p n c ls) (hb : Below w.heap.size w w') : Pts w' p n c ls :=
 ⟨h.len, h.le, h.max, h.nil0, fun a ha j hj => by
  obtain ⟨q, m, k, h1, h2⟩ := h.cell a ha j hj
  exact ⟨q, m, k, by rw [hb.cell (block_lt_of_cell h1)]; exact h1, h2.below hb⟩⟩
theorem Pts.addr {w : World} {p : Option Addr} {n c : Nat} {ls : List (List UInt8)} (h : Pts w p n c ls) (hn : 0 < n) : ∃ b o, p = some ⟨b, o, none⟩ := by
 cases p with
 | none => have := h.nil0 rfl; have := h.le; omega
 | some a =>
  obtain ⟨q, m, k, h1, _⟩ := h.cell a rfl 0 (by rw [h.len]; exact hn)
  rw [show a.add 0 = a from rfl] at h1
  exact ⟨a.block, a.off, congrArg some (cell_spot h1)⟩
theorem Below.allocs (w : World) (o : Obj) : Below w.heap.size w (w.alloc o) := (Below.refl _ _).alloc (Nat.le_refl _) _
theorem cell_alloc_new (w : World) (cs : Array Value) (t : TypeId) (j : Nat) : (w.alloc (.cells cs t)).cell? ⟨w.heap.size, j, none⟩ = cs[j]? := by
 rw [cell_of_row _ _ _ _ _ _ (heap_alloc_last _ _)]
theorem Pts.made0 (w : World) : Pts w none 0 0 [] := ⟨rfl, by omega, by omega, fun _ => rfl, fun _ h => by cases h⟩
theorem Pts.made2 {w : World} {p p' : Option Addr} {n c n' c' b : Nat} {l l' : List UInt8} (h : Bs w p n c l) (h' : Bs w p' n' c' l') (t : TypeId) (hb : b = w.heap.size) : Pts (w.alloc (.cells #[.slice p n c, .slice p' n' c'] t)) (some ⟨b, 0, none⟩) 2 2 [l, l'] := by
 subst hb
 exact ⟨rfl, by omega, by omega, fun h => (by cases h), fun a ha j hj => by
  obtain rfl := Option.some.inj ha
  have hj2 : j = 0 ∨ j = 1 := by simp at hj; omega
  rcases hj2 with rfl | rfl
  ·exact ⟨p, n, c, by rw [add_none, cell_alloc_new]; rfl, h.below (Below.allocs _ _)⟩
  ·exact ⟨p', n', c', by rw [add_none, cell_alloc_new]; rfl, h'.below (Below.allocs _ _)⟩⟩
theorem Bs.made (w : World) (l : List UInt8) (cs : Array Value) (t : TypeId) (fr : Nat × Nat) (n : Nat) (hcs : cs.toList = bytesV l) (hn : l.length = n) (hm : n ≤ 9223372036854775807) : Bs (w.alloc (.cells cs t fr)) (some ⟨w.heap.size, 0, none⟩) n n l :=
 ⟨by rw [bytesV_length, hn, Nat.mul_one], by omega, hm, fun h => (by cases h), fun a ha j u hu => by
  obtain rfl := Option.some.inj ha
  rw [add_none, World.cell?_alloc_mark, ← Array.getElem?_toList, hcs, Nat.zero_add]; exact hu⟩
theorem own_below {w w' : World} {base e size n : Nat} {v : Value} {xs : List Value} (h : w.ownsRow base e size v n xs) (hg : w.grownBy w' v.ownBlock) (hb : base ≤ w.heap.size) : Below base w w' :=
 (Below.refl _ _).grown hg hb (fun k hk => (h.lt k hk).1)
theorem own_sl {w : World} {base e size n : Nat} {v : Value} {xs : List Value} (h : w.ownsRow base e size v n xs) : ∃ p c, v = .slice p n c ∧ Sl w p n c size xs := by
 rcases h.2 with ⟨rfl, rfl⟩ | ⟨g, cap, cur, rfl, hb, hg, hn, hm, hs, ht⟩
 ·refine ⟨none, 0, rfl, ?_⟩
  have : xs = [] := by have := h.1; simpa using this
  subst this; exact Sl.nil _ _
 ·refine ⟨_, _, rfl, ⟨h.1, hn, by simpa [maxLen] using hm, fun h => (by cases h), fun a ha j u hu => ?_⟩⟩
  obtain rfl := Option.some.inj ha
  exact h.cells rfl j u hu
theorem own_made0 (w : World) (e size base g : Nat) (hg : g = w.heap.size) (hb : base ≤ g) : (w.alloc (.cells #[] e)).ownsRow base e size (.slice (some ⟨g, 0, none⟩) 0 0) 0 [] := by
 subst hg
 exact World.ownsRow_made w #[] 0 hb (by simp [maxLen]) (by simp)
theorem block_old {w : World} (o : Obj) {i : Nat} {x : Obj} (h : w.heap[i]? = some x) : (w.alloc o).heap[i]? = some x := by
 rw [Below.heap_alloc w o i (Array.getElem?_eq_some_iff.1 h).1]; exact h
theorem Below.keepBlock {B : Nat} {w w' : World} (h : Below B w w') {i : Nat} {x : Obj} (hi : w.heap[i]? = some x) (hB : i < B) : w'.heap[i]? = some x := by rw [h.block i hB]; exact hi
theorem Below.keepOld {w w' : World} (h : Below w.heap.size w w') {i : Nat} {x : Obj} (hi : w.heap[i]? = some x) : w'.heap[i]? = some x := Below.keepBlock h hi (Array.getElem?_eq_some_iff.1 hi).1
theorem wpList_append_nx {P : Program} {w : World} {ops : Array Oper} {rest : List Oper} {o : Oper} {a : Act} {Q : Exit → Act → World → Prop} (hgd : o.guard = none) (s x : Operand) (t : TypeId)
  (ho : o.op = .call { callee := .builtin .append, args := #[s, x], argTypes := #[t, t] })
  {base e size bytes : Nat} {z : Value} (ht : P.underlying t = some (.slice e)) (hi : (P.info? e).map (fun i => (i.zero, i.size, i.bytes)) = some (some z, size, bytes)) (hzs : z.cells.size = size) (hsz : 0 < size)
  {v : Value} {n : Nat} {xs : List Value} (hs : a.eval s = v) (hown : w.ownsRow base e size v n xs)
  {px : Option Addr} {m c : Nat} {news : List Value} (hx : a.eval x = .slice px m c) (hS : Sl w px m c size news) (h1 : ∀ u ∈ news, u.oneCell' = true)
  (hb : n + m ≤ 9223372036854775807 ∧ (n + m) * bytes ≤ 140737488355328) (hbase : base ≤ w.heap.size)
  (h : ∀ p' c' w', w'.ownsRow base e size (.slice p' (n + m) c') (n + m) (xs ++ news) → w.grownBy w' v.ownBlock → (∀ k, (Value.slice p' (n + m) c').ownBlock = some k → v.ownBlock = some k ∨ k = w.heap.size) → (p' = none ↔ v = .slice none 0 0 ∧ m = 0) →
   wpList P ops Q rest (a.put o.dst (.slice p' (n + m) c')) w') : wpList P ops Q (o :: rest) a w := by
 obtain ⟨i, hi0, hz, hsize, hby⟩ := info_parts hi
 cases px with
 | some ad =>
  refine wpList_plain hgd fun K hK => ?_
  obtain ⟨v', w', hr, h2, h3, h4, h5⟩ := run_append_own_at (P := P) w base t o.type e i z size bytes ht hi0 hz hsize hby hzs hsz v n xs hown ad m c news hS.len (hS.cell ad rfl) h1 (by simpa [maxLen] using hb.1) hb.2 hbase
  unfold Oper.wp execOp
  simp only [ho, resolve, invoke, builtin, Sem.run_bind, Sem.run_pure, Result.andThen_ok, List.map_toArray, List.map_cons, List.map_nil, hs, hx, hr]
  obtain ⟨p', c', rfl, hsl⟩ := own_sl h2
  refine hK _ _ (h p' c' w' h2 h3 ?_ ?_)
  ·intro k hk
   rcases h5 with h5 | h5
   ·exact .inl (by rw [← h5]; exact hk)
   ·rw [h5] at hk; exact .inr (Option.some.inj hk).symm
  ·rw [← h4]
   constructor
   ·intro hp
    have hc := hsl.nil0 hp
    have hn : n + m = 0 := by have := hsl.le; omega
    rw [hp, hc, hn]
   ·intro hp
    injection hp
 | none =>
  have hc := hS.nil0 rfl
  have hm0 : m = 0 := by have := hS.le; omega
  subst hc hm0
  have hn : news = [] := by have := hS.len; simpa using this
  subst hn
  have hxs : xs ++ [] = xs := List.append_nil _
  obtain ⟨p', c', rfl, _⟩ := own_sl hown
  refine wpList_append_own_none hgd s x t ho base e i size ht hi0 _ n xs hs hown hx ?_
  exact h p' c' w (by rw [hxs]; exact hown) (World.grownBy.refl _ _) (fun k hk => .inl hk) (by
   have := hown.2
   rcases this with ⟨h, rfl⟩ | ⟨g, cap, cur, h, _⟩
   ·cases h; simp
   ·cases h; simp)
theorem run_sliceAt_from {P : Program} (w : World) (t e : TypeId) (n size : Nat) (ht : P.underlying t = some (.array n e)) (hs : (P.info? e).map (·.size) = some size) (a : Addr) (k : IntKind) (x : Int) (l : Nat) (hx : x = (l : Int)) (hl : l < n) :
  (Instr.sliceAt t (.pointer (some a)) (some (.int k x)) none none).run P w = .ok (.slice (some (a.add (l * size))) (n - l) (n - l)) w := by
 subst hx
 obtain ⟨i, hi, rfl⟩ := Option.map_eq_some_iff.1 hs
 have h1 : ((0 : Int) ≤ (l : Int) ∧ (l : Int) ≤ (n : Int)) := by omega
 have h2 : ¬ n = l := by omega
 simp [Instr.sliceAt, run_underlying ht, Instr.sureAddr, Instr.sliceBounds, Instr.sliceBound, asIntOf, sizeOf, typeInfo, hi, h2, show l ≤ n by omega]
structure Turns (S : Nat → Prop) (w w' : World) : Prop where
 os : w'.os = w.os
 tape : w'.tape = w.tape
 output : w'.output = w.output
 size : w.heap.size ≤ w'.heap.size
 block : ∀ k, k < w.heap.size → ¬ S k → w'.heap[k]? = w.heap[k]?
theorem Turns.refl (S : Nat → Prop) (w : World) : Turns S w w := ⟨rfl, rfl, rfl, Nat.le_refl _, fun _ _ _ => rfl⟩
theorem Turns.trans {S S' : Nat → Prop} {a b c : World} (h : Turns S a b) (k : Turns S' b c) (hs : ∀ i, i < a.heap.size → S' i → S i) : Turns S a c :=
 ⟨k.os.trans h.os, k.tape.trans h.tape, k.output.trans h.output, Nat.le_trans h.size k.size, fun i hi hS => (k.block i (Nat.lt_of_lt_of_le hi h.size) (fun h' => hS (hs i hi h'))).trans (h.block i hi hS)⟩
theorem Turns.imp {S S' : Nat → Prop} {a b : World} (h : Turns S a b) (hs : ∀ i, i < a.heap.size → S i → S' i) : Turns S' a b :=
 ⟨h.os, h.tape, h.output, h.size, fun i hi hS => h.block i hi (fun h' => hS (hs i hi h'))⟩
theorem Turns.of_below {S : Nat → Prop} {a b : World} (h : Below a.heap.size a b) : Turns S a b := ⟨h.os, h.tape, h.output, h.size, fun i hi _ => h.block i hi⟩
theorem Turns.below {S : Nat → Prop} {a b : World} {B : Nat} (h : Turns S a b) (hB : B ≤ a.heap.size) (hs : ∀ i, S i → B ≤ i) : Below B a b :=
 ⟨h.os, h.tape, h.output, h.size, fun i hi => h.block i (by omega) (fun h' => by have := hs i h'; omega)⟩
theorem Turns.drew {S : Nat → Prop} {a b : World} (h : Turns S a b) : Turns S a b.drew := ⟨h.os, h.tape, h.output, h.size, h.block⟩
theorem Turns.grown {S : Nat → Prop} {a b : World} {row : Option Nat} (h : a.grownBy b row) (hs : ∀ k, row = some k → S k) : Turns S a b :=
 ⟨h.os, h.tape, h.output, h.size, fun i hi hS => h.block i hi (fun e => hS (hs i e.symm))⟩
theorem Turns.setCell {S : Nat → Prop} {a b : World} (h : Turns S a b) {p : Addr} (hp : p.block < a.heap.size → S p.block) (u : Value) : Turns S a (b.setCell p u) :=
 ⟨h.os, h.tape, h.output, by simpa [World.setCell] using h.size, fun i hi hS => by
  rw [Below.heap_setCell _ _ _ _ (fun e => hS (by rw [e]; exact hp (by omega)))]; exact h.block i hi hS⟩
theorem Turns.alloc {S : Nat → Prop} {a b : World} (h : Turns S a b) (o : Obj) : Turns S a (b.alloc o) :=
 ⟨h.os, h.tape, h.output, Nat.le_trans h.size (by simp), fun i hi hS => by
  rw [Below.heap_alloc b o i (Nat.lt_of_lt_of_le hi h.size)]; exact h.block i hi hS⟩
theorem Turns.keep {S : Nat → Prop} {a b : World} (h : Turns S a b) {i : Nat} {x : Obj} (hi : a.heap[i]? = some x) (hS : ¬ S i) : b.heap[i]? = some x := by
 rw [h.block i (Array.getElem?_eq_some_iff.1 hi).1 hS]; exact hi
theorem Turns.cell {S : Nat → Prop} {a b : World} (h : Turns S a b) {p : Addr} {v : Value} (hc : a.cell? p = some v) (hS : ¬ S p.block) : b.cell? p = some v := by
 rw [World.cell?_of_block (h.block p.block (block_lt_of_cell hc) hS)]; exact hc
theorem Sl.touch {S : Nat → Prop} {w w' : World} {p : Option Addr} {n c size : Nat} {vs : List Value} (h : Sl w p n c size vs) (ht : Turns S w w') (ho : ∀ a, p = some a → a.block < w.heap.size → ¬ S a.block) : Sl w' p n c size vs :=
 ⟨h.len, h.le, h.max, h.nil0, fun a ha j u hu => by
  have hc := h.cell a ha j u hu
  exact ht.cell hc (by rw [addr_add_block]; exact ho a ha (by have := block_lt_of_cell hc; rwa [addr_add_block] at this))⟩
theorem Pts.touch {S : Nat → Prop} {w w' : World} {p : Option Addr} {n c : Nat} {ls : List (List UInt8)} (h : Pts w p n c ls) (ht : Turns S w w') (ho : ∀ k, k < w.heap.size → ¬ S k) : Pts w' p n c ls :=
 ⟨h.len, h.le, h.max, h.nil0, fun a ha j hj => by
  obtain ⟨q, m, k, h1, h2⟩ := h.cell a ha j hj
  exact ⟨q, m, k, ht.cell h1 (ho _ (block_lt_of_cell h1)), h2.touch ht (fun a _ hlt => ho _ hlt)⟩⟩
theorem own_touch {S : Nat → Prop} {w w' : World} {base e size n : Nat} {v : Value} {xs : List Value} (h : w.ownsRow base e size v n xs) (ht : Turns S w w') (ho : ∀ k, v.ownBlock = some k → ¬ S k) : w'.ownsRow base e size v n xs := by
 refine ⟨h.1, ?_⟩
 rcases h.2 with hn | ⟨g, cap, cur, rfl, hb, hgg, rest⟩
 ·exact .inl hn
 ·exact .inr ⟨g, cap, cur, rfl, hb, ht.keep hgg (ho g rfl), rest⟩
theorem own_base {w : World} {base base' e size n : Nat} {v : Value} {xs : List Value} (h : w.ownsRow base e size v n xs) (hb : ∀ k, v.ownBlock = some k → base' ≤ k) : w.ownsRow base' e size v n xs := by
 refine ⟨h.1, ?_⟩
 rcases h.2 with hn | ⟨g, cap, cur, rfl, _, hgg, rest⟩
 ·exact .inl hn
 ·exact .inr ⟨g, cap, cur, rfl, hb g rfl, hgg, rest⟩
def NextV (w : World) (v v' : Value) : Prop := ∀ k, v'.ownBlock = some k → k < w.heap.size → v.ownBlock = some k
end Go.Mir
namespace Go.Mir
open Go.RowKit
def strOf (l : List UInt8) : ByteArray := strOfNums (l.map fun b => (b.toNat : Int))
theorem run_convert_bs {P : Program} {w : World} {p : Option Addr} {n c : Nat} {l : List UInt8} (src dst e : TypeId) (hs : P.underlying src = some (.slice e)) (he : P.underlying e = some (.int .u8)) (hd : P.underlying dst = some .string) (h : Bs w p n c l) :
  (convert src dst (.slice p n c)).run P w = .ok (.string (strOf l)) w := by
 have hl := h.length
 by_cases hn : n = 0
 ·have hnil : l = [] := List.length_eq_zero_iff.1 (by omega)
  subst hnil; subst hn
  cases p with
  | none => rw [run_convert_bytes_nil w src e hs he 0 c dst hd]; rfl
  | some a =>
   rw [run_convert_bytes_string w src dst e _ 0 c hs he hd, run_bytesToString w a 0 c [] ?_]
   ·rfl
   ·exact run_loadCells_list (P := P) w a [] (fun j v hj => by simp at hj)
 ·obtain ⟨b, o, rfl⟩ := h.addr (by omega) (by omega)
  exact run_convert_bytes_arg w src e hs he b o n c _ (by simpa using hl) (fun i hi => by
   rw [h.byte (by omega)]
   simp [List.getD, show i < l.length by omega]) dst hd
theorem Bs.drewN {w : World} {p : Option Addr} {n c : Nat} {l : List UInt8} (h : Bs w p n c l) (k : Nat) : Bs (w.drewN k) p n c l :=
 ⟨h.len, h.le, h.max, h.nil0, fun a ha j u hu => by
  have := h.cell a ha j u hu
  exact this⟩
end Go.Mir
namespace Go.Mir
open Go.RowKit
def S (l : List UInt8) : ByteArray := ⟨l.toArray⟩
@[go_sem] theorem S_toList (l : List UInt8) : (S l).toList = l := ByteArray.toList_mk l
@[go_sem] theorem S_size (l : List UInt8) : (S l).size = l.length := by simp [S, ByteArray.size]
@[go_sem] theorem S_append (a b : List UInt8) : S a ++ S b = S (a ++ b) := ByteArray.mk_append_mk a b
@[go_sem] theorem S_get (l : List UInt8) (i : Nat) (h : i < (S l).size) : (S l)[i]'h = l[i]'(by simpa [S_size] using h) := rfl
theorem strOf_S (l : List UInt8) : strOf l = S l := by
 unfold strOf strOfNums S
 rw [List.map_map]
 congr 2
 have : (fun n : Int => UInt8.ofNat n.toNat) ∘ (fun b : UInt8 => (b.toNat : Int)) = id := by funext b; simp
 rw [this, List.map_id]
theorem run_conv {P : Program} {w : World} {p : Option Addr} {n c : Nat} {l : List UInt8} (src dst e : TypeId) (hs : P.underlying src = some (.slice e)) (he : P.underlying e = some (.int .u8)) (hd : P.underlying dst = some .string) (h : Bs w p n c l) :
  (convert src dst (.slice p n c)).run P w = .ok (.string (S l)) w := by rw [← strOf_S]; exact run_convert_bs src dst e hs he hd h
theorem wpList_unguard {P : Program} {w : World} {ops : Array Oper} {rest : List Oper} {o : Oper} {a : Act} {Q : Exit → Act → World → Prop} (hw : Region.wanted o (yielded ops a.tmps) = true)
  (h : wpList P ops Q ({ o with guard := none } :: rest) a w) : wpList P ops Q (o :: rest) a w := by
 unfold wpList at h ⊢
 rw [if_pos hw]
 rw [if_pos (by simp [Region.wanted])] at h
 exact h
theorem wpList_load_row_g {P : Program} {ops : Array Oper} {rest : List Oper} {o : Oper} {a : Act} {w : World} {Q : Exit → Act → World → Prop} (hw : Region.wanted o (yielded ops a.tmps) = true) (ty : TypeId) (x : Operand) (ho : o.op = .load ty x)
  (g : Nat) (hx : a.eval x = .pointer (some ⟨g, 0, none⟩)) (t : TypeId) (cs : Array Value) (fr : Nat × Nat) (d : TypeDesc) (hg : w.heap[g]? = some (.cells cs t fr))
  (hu : P.underlying ty = some d) (hd : (match d with | .struct _ | .array _ _ => true | _ => false) = true) (hi : (P.info? ty).map (·.size) = some cs.size)
  (h : wpList P ops Q rest (a.put o.dst (.agg cs)) w) : wpList P ops Q (o :: rest) a w :=
 wpList_unguard hw (wpList_load_row rfl ty x ho g hx t cs fr d hg hu hd hi h)
end Go.Mir
namespace Go.Mir.Parts
theorem take_snoc {α : Type} (l : List α) (k : Nat) (h : k < l.length) : l.take (k + 1) = l.take k ++ [l[k]] := by
 rw [List.take_succ_eq_append_getElem h]
def total (ls : List (List UInt8)) : Nat := (ls.map List.length).sum
theorem total_take (ls : List (List UInt8)) (k : Nat) (h : k < ls.length) : total (ls.take (k + 1)) = total (ls.take k) + ls[k].length := by
 rw [take_snoc ls k h]; simp only [total, List.map_append, List.sum_append, List.map_cons, List.map_nil, List.sum_cons, List.sum_nil, Nat.add_zero]
theorem total_le (ls : List (List UInt8)) (k : Nat) : total (ls.take k) ≤ total ls := by
 have := congrArg total (List.take_append_drop k ls)
 simp only [total, List.map_append, List.sum_append] at this ⊢
 omega
theorem total_flatten (ls : List (List UInt8)) : ls.flatten.length = total ls := by simp [total, List.length_flatten]
end Go.Mir.Parts
namespace Go.Mir
open Go.RowKit
def idA (x : List UInt8) : Array Value := (bytesV x).toArray
theorem idA_toList (x : List UInt8) : (idA x).toList = bytesV x := by simp [idA]
theorem range_row {w : World} {b : Nat} {M : Array Value} {t : TypeId} {fr : Nat × Nat} (h : w.heap[b]? = some (.cells M t fr)) (A B C : List Value) (hM : M.toList = A ++ B ++ C) : w.rangeAt b A.length B := fun j v hv => by
 have hj := (List.getElem?_eq_some_iff.1 hv).1
 rw [cell_of_row _ _ _ _ _ _ h, ← Array.getElem?_toList, hM, List.getElem?_append_left (by rw [List.length_append]; omega), List.getElem?_append_right (by omega), Nat.add_sub_cancel_left]; exact hv
theorem box_new (w : World) (Z : Array Value) (t : TypeId) : (w.alloc (.cells Z t)).heap[w.heap.size]? = some (.cells Z t (0, 0)) := heap_alloc_last _ _
theorem box_row (w : World) (Z X : Array Value) (t : TypeId) : ((w.alloc (.cells Z t)).setRow w.heap.size X).heap[w.heap.size]? = some (.cells X t (0, 0)) := setRow_heap _ _ _ _ _ _ (box_new w Z t)
theorem box_below (w : World) (Z X : Array Value) (t : TypeId) : Below w.heap.size w ((w.alloc (.cells Z t)).setRow w.heap.size X) := below_setRow (Below.allocs _ _) (Nat.le_refl _) _
theorem two_allocs (w : World) (o o2 : Obj) : ((w.alloc o).alloc o2).heap[w.heap.size]? = some o ∧ ((w.alloc o).alloc o2).heap[w.heap.size + 1]? = some o2 ∧ ((w.alloc o).alloc o2).heap.size = w.heap.size + 2 ∧ Below w.heap.size w ((w.alloc o).alloc o2) := by
 refine ⟨block_old _ (heap_alloc_last _ _), ?_, by simp, (Below.allocs _ _).alloc (by simp) _⟩
 have := heap_alloc_last (w.alloc o) o2
 simpa using this
theorem fold_put (off : Nat) : ∀ (L : List Value) (s : Nat) (A : Array Value), off + s + L.length ≤ A.size →
  ((L.zipIdx s).foldl (fun cs (x : Value × Nat) => cs.setIfInBounds (off + x.2) x.1) A).size = A.size ∧ ∀ i, ((L.zipIdx s).foldl (fun cs (x : Value × Nat) => cs.setIfInBounds (off + x.2) x.1) A)[i]? = if off + s ≤ i ∧ i < off + s + L.length then L[i - (off + s)]? else A[i]?
 | [], s, A, _ => ⟨rfl, fun i => by rw [if_neg (by simp <;> omega)]; rfl⟩
 | v :: L, s, A, h => by
  simp only [List.length_cons] at h
  obtain ⟨h1, h2⟩ := fold_put off L (s + 1) (A.setIfInBounds (off + s) v) (by simp; omega)
  rw [List.zipIdx_cons, List.foldl_cons]
  refine ⟨by rw [h1]; simp, fun i => ?_⟩
  rw [h2 i, Array.getElem?_setIfInBounds]
  by_cases hi : off + (s + 1) ≤ i ∧ i < off + (s + 1) + L.length
  ·rw [if_pos hi, if_pos (by simp; omega), show i - (off + s) = (i - (off + (s + 1))) + 1 by omega, List.getElem?_cons_succ]
  ·rw [if_neg hi]
   by_cases ho : off + s = i
   ·subst ho
    rw [if_pos rfl, if_pos (by omega), if_pos (by simp)]; simp
   ·rw [if_neg ho, if_neg (by simp; omega)]
theorem fill_one (Z M : Array Value) (size : Nat) (hZ : Z.size = size) (hM : M.size = size) : Instr.fill (fun i => some (i * size, size)) Z [(0, .agg M)] = some M := by
 have hc : (Value.agg M).cells = M := rfl
 simp only [Instr.fill, hc]
 rw [if_neg (by simp [hM, hZ])]
 simp only [Option.some.injEq, Nat.zero_mul]
 rw [← Array.foldl_toList, Array.toList_zipIdx]
 obtain ⟨h1, h2⟩ := fold_put 0 M.toList 0 Z (by simp; omega)
 apply Array.ext_getElem?
 intro i
 rw [h2 i]
 by_cases hi : i < M.size
 ·rw [if_pos (by simp; omega)]; simp
 ·rw [if_neg (by simp; omega), Array.getElem?_eq_none (by omega), Array.getElem?_eq_none (by omega)]
theorem wpList_buildOne {P : Program} {ops : Array Oper} {rest : List Oper} {o : Oper} {a : Act} {w : World} {Q : Exit → Act → World → Prop} (hg : o.guard = none) (t e : TypeId) (x : Operand) (ho : o.op = .buildSlice t 1 #[(0, x)])
  (M : Array Value) (hx : a.eval x = .agg M) (size : Nat) (hu : P.underlying t = some (.slice e)) (hie : (P.info? e).map (fun i => (i.zero.isSome, i.size)) = some (true, size)) (hsm : size ≤ 16777216) (hpos : 0 < size) (hM : M.size = size)
  (h : wpList P ops Q rest (a.put o.dst (.slice (some ⟨w.heap.size, 0, none⟩) 1 1)) (w.alloc (.cells M e))) : wpList P ops Q (o :: rest) a w := by
 obtain ⟨ie, hi, he⟩ := Option.map_eq_some_iff.1 hie
 obtain ⟨hz, rfl⟩ := Prod.mk.inj he
 obtain ⟨z, hz⟩ := Option.isSome_iff_exists.1 hz
 refine wpList_buildSlice hg t e 1 #[(0, x)] ho M ie z hu hi hz (by rw [Nat.one_mul]; omega) (by omega) ?_ h
 have : (#[(0, x)].map fun (p : Nat × Operand) => (p.1, a.eval p.2)).toList = [(0, .agg M)] := by simp [hx]
 rw [this]
 exact fill_one _ M _ (by simp) hM
theorem wpAt {P : Program} {ops : Array Oper} {rest : List Oper} {a : Act} {w : World} {Q : Exit → Act → World → Prop} (n : Nat) {op : Op} {t : TypeId} {p : String} {af : Array Edge} {g : Option (Nat × Bool)} (h : wpList P ops Q (⟨some n, op, t, p, af, g⟩ :: rest) a w) : wpList P ops Q (⟨some n, op, t, p, af, g⟩ :: rest) a w := h
theorem wpStoreAt {P : Program} {ops : Array Oper} {rest : List Oper} {a : Act} {w : World} {Q : Exit → Act → World → Prop} (n : Nat) {d : Option Nat} {ty : TypeId} {y : Operand} {t : TypeId} {p : String} {af : Array Edge} {g : Option (Nat × Bool)} (h : wpList P ops Q (⟨d, .store ty (.tmp n) y, t, p, af, g⟩ :: rest) a w) : wpList P ops Q (⟨d, .store ty (.tmp n) y, t, p, af, g⟩ :: rest) a w := h
theorem turns_setRow (w : World) (g : Nat) (cs : Array Value) : Turns (fun i => i = g) w (w.setRow g cs) := ⟨rfl, rfl, rfl, by simp [World.setRow], fun k _ hk => setRow_other w g k cs hk⟩
theorem Is.range {w : World} {b o n c size : Nat} {ids : List (List UInt8)} (h : Is w (some ⟨b, o, none⟩) n c size ids) (hs : size ≤ 9223372036854775807) (i : Nat) (hi : i < ids.length) : w.rangeAt b (o + i * size) (idA ids[i]).toList := fun j v hv => by
 rw [idA_toList] at hv
 exact (h.one i hi hs).at hv
theorem Is.nil (w : World) (size : Nat) : Is w none 0 0 size [] := ⟨Sl.nil _ _, fun _ h => by simp at h, rfl⟩
structure BlkD where
 hash : List UInt8
 par : List UInt8
 txs : List (List UInt8)
def blkA (h p : List UInt8) (q : Option Addr) (n c : Nat) : Array Value := (bytesV h ++ bytesV p ++ [Value.slice q n c]).toArray
theorem blkA_toList (h p : List UInt8) (q : Option Addr) (n c : Nat) : (blkA h p q n c).toList = bytesV h ++ bytesV p ++ [Value.slice q n c] := by simp [blkA]
structure BlkAt (w : World) (M : Array Value) (d : BlkD) (q : Option Addr) (n c : Nat) : Prop where
 arr : M = blkA d.hash d.par q n c
 hlen : d.hash.length = 32
 plen : d.par.length = 32
 ids : Is w q n c 32 d.txs
theorem BlkAt.below {w w' : World} {M : Array Value} {d : BlkD} {q : Option Addr} {n c : Nat} (h : BlkAt w M d q n c) (hb : Below w.heap.size w w') : BlkAt w' M d q n c := ⟨h.arr, h.hlen, h.plen, h.ids.below hb⟩
theorem BlkAt.size {w : World} {M : Array Value} {d : BlkD} {q : Option Addr} {n c : Nat} (h : BlkAt w M d q n c) : M.size = 65 := by
 rw [h.arr, ← Array.length_toList, blkA_toList]; simp [bytesV_length, h.hlen, h.plen]
theorem BlkAt.one {w : World} {M : Array Value} {d : BlkD} {q : Option Addr} {n c : Nat} (h : BlkAt w M d q n c) : M.all (·.oneCell') = true := by
 have := all_oneCell_toArray (cs := M.toList) (fun v hv => by
  rw [h.arr, blkA_toList] at hv
  simp only [List.mem_append, List.mem_singleton] at hv
  rcases hv with (hv | hv) | hv
  ·exact bytesV_one _ v hv
  ·exact bytesV_one _ v hv
  ·rw [hv]; rfl)
 rwa [Array.toArray_toList] at this
theorem BlkAt.parts {w wb : World} {M : Array Value} {d : BlkD} {q : Option Addr} {n c : Nat} (h : BlkAt w M d q n c) {b : Nat} {t : TypeId} {fr : Nat × Nat} (hr : wb.heap[b]? = some (.cells M t fr)) :
  wb.rangeAt b 0 (idA d.hash).toList ∧ wb.rangeAt b 32 (idA d.par).toList ∧ wb.cell? ⟨b, 64, none⟩ = some (.slice q n c) := by
 have hM : M.toList = bytesV d.hash ++ bytesV d.par ++ [Value.slice q n c] := by rw [h.arr, blkA_toList]
 refine ⟨?_, ?_, ?_⟩
 ·have := range_row hr [] (bytesV d.hash) (bytesV d.par ++ [Value.slice q n c]) (by rw [hM]; simp)
  rw [idA_toList]; exact this
 ·have := range_row hr (bytesV d.hash) (bytesV d.par) [Value.slice q n c] hM
  rw [bytesV_length, h.hlen] at this
  rw [idA_toList]; exact this
 ·have := range_row hr (bytesV d.hash ++ bytesV d.par) [Value.slice q n c] [] (by rw [hM]; simp)
  rw [List.length_append, bytesV_length, bytesV_length, h.hlen, h.plen] at this
  exact this 0 _ rfl
def Grown (w : World) : Type := { w' : World // Below w.heap.size w w' }
instance (w : World) : Nonempty (Grown w) := ⟨⟨w, Below.refl _ _⟩⟩
def Grown.v {w : World} (x : Grown w) : World := x.1
theorem Grown.b {w : World} (x : Grown w) : Below w.heap.size w x.v := x.2
theorem wp_region_grow {P : Program} {id : Nat} {Q : Exit → Act → World → Prop} {a : Act} {w : World} {l : List Oper} (hm : P.follows .mixedOrders = true) (hB : Region.lexB .any l.toArray = true)
  (h : wpQuiet P l.toArray (fun w' => ∃ x : Grown w, w' = x.v) (fun a' => ∀ w', Below w.heap.size w w' → Q .normal a' w') l a) : (Code.region id l.toArray true).wp P Q a w := by
 refine wp_region_quiet (C := fun w' => ∃ x : Grown w, w' = x.v) hm hB ⟨⟨w.drew, ⟨rfl, rfl, rfl, Nat.le_refl _, fun _ _ => rfl⟩⟩, rfl⟩ ?_
 have key : (fun a' : Act => ∀ w', Below w.heap.size w w' → Q .normal a' w') = (fun a' => ∀ w', (∃ x : Grown w, w' = x.v) → Q .normal a' w') := by
  funext a'
  apply propext
  exact ⟨fun h w' ⟨x, hx⟩ => h w' (by rw [hx]; exact x.b), fun h w' hb => h w' ⟨⟨w', hb⟩, rfl⟩⟩
 rw [← key]; simpa using h
theorem Calls.grow_of {P : Program} {f : FuncId} {args : Array Value} {w : World} {x : Grown w} {v : Value} (h : Calls P f args x.v fun e w' => e = .returned v ∧ Below x.v.heap.size x.v w') :
  Calls P f args x.v fun e w'' => e = .returned v ∧ ∃ y : Grown w, w'' = y.v :=
 h.mono fun _ w' ⟨he, hb⟩ => ⟨he, ⟨w', x.b.trans (hb.mono x.b.size)⟩, rfl⟩
theorem wpQuietGd {P : Program} {ops : Array Oper} {C : World → Prop} {Q : Act → Prop} {a : Act} {rest : List Oper} {d : Option Nat} {op : Op} {t : TypeId} {p : String} {af : Array Edge} {g : Nat × Bool} (h : wpQuiet P ops C Q (⟨d, op, t, p, af, some g⟩ :: rest) a) : wpQuiet P ops C Q (⟨d, op, t, p, af, some g⟩ :: rest) a := h
theorem wpQuiet_skip {P : Program} {ops : Array Oper} {C : World → Prop} {Q : Act → Prop} {a : Act} {o : Oper} {rest : List Oper} (hw : Region.wanted o (yielded ops a.tmps) = false) (h : wpQuiet P ops C Q rest (a.put o.dst undef)) : wpQuiet P ops C Q (o :: rest) a := by
 unfold wpQuiet; rw [if_neg (by rw [hw]; exact Bool.false_ne_true)]; exact h
theorem wp_region_tail {P : Program} {id : Nat} {Q : Exit → Act → World → Prop} {a : Act} {w : World} {l : List Oper} (n : Nat) (hm : P.follows .mixedOrders = true) (hB : Region.lexTailB .any l.toArray n = true)
  (h : wpStill P l.toArray w.drew (fun a' => wpList P l.toArray Q (l.drop n) a' w.drew) (l.take n) a) : (Code.region id l.toArray true).wp P Q a w := wp_region_still_tail n hm hB h
theorem below_drew1 (B : Nat) (w : World) : Below B w w.drew := ⟨rfl, rfl, rfl, Nat.le_refl _, fun _ _ => rfl⟩
theorem cell_grown {w : World} {p : Addr} {v : Value} (h : w.cell? p = some v) (y : Grown w) : y.v.cell? p = some v := by
 rw [y.b.cell (block_lt_of_cell h)]; exact h
end Go.Mir
namespace Go.Mir
open Go.RowKit
def planB (ops : Array Oper) : List (Nat × Bool) → Array Bool → Bool
 | [], listed => (Region.ready .any ops listed).isEmpty
 | (i, true) :: r, listed => (ops[i]?).isSome && Region.free .any ops listed i && (Region.ready .any ops listed).contains i && planB ops r (listed.setIfInBounds i true)
 | (i, false) :: r, listed => (ops[i]?).isSome && Region.ready .any ops listed == [i] && planB ops r (listed.setIfInBounds i true)
def nthO : List Oper → Nat → Option Oper
 | [], _ => none
 | o :: _, 0 => some o
 | _ :: l, n + 1 => nthO l n
theorem nthO_eq : ∀ (l : List Oper) (n : Nat), l.toArray[n]? = nthO l n
 | [], n => by simp [nthO]
 | o :: l, 0 => by simp [nthO]
 | o :: l, n + 1 => by
  have := nthO_eq l n
  simpa [nthO] using this
def planOps (l : List Oper) : List (Nat × Bool) → List (Oper × Bool)
 | [] => []
 | (i, b) :: r => match nthO l i with
  | some o => (o, b) :: planOps l r
  | none => planOps l r
def wpEager (P : Program) (ops : Array Oper) (S : World → Prop) (Q : Exit → Act → World → Prop) : List (Oper × Bool) → Act → World → Prop
 | [], a, w => Q .normal a w
 | (o, true) :: r, a, w => ∃ v, YieldsIf P ops S o v a ∧ wpEager P ops S Q r (a.put o.dst v) w
 | (o, false) :: r, a, w => if Region.wanted o (yielded ops a.tmps) then o.wp P a w (fun a' w' => S w' ∧ wpEager P ops S Q r a' w') Q else wpEager P ops S Q r (a.put o.dst undef) w
theorem wpAnyH_eager {P : Program} {l : List Oper} {ops : Array Oper} (hl : l.toArray = ops) {S : World → Prop} {Q : Exit → Act → World → Prop} (hs : Region.noSelect ops = true) (hQ : ∀ c a d v w, Q (.panic c) (a.put d v) w → Q (.panic c) a w) :
  ∀ (π : List (Nat × Bool)) (listed : Array Bool) (a : Act) (w : World), planB ops π listed = true → S w → wpEager P ops S Q (planOps l π) a w → wpAnyH P .any ops Q S π.length listed a w
 | [], listed, a, w, hp, _, h => by
  refine wpAnyH_done ?_ h _
  simpa [planB, List.isEmpty_iff] using hp
 | (i, true) :: r, listed, a, w, hp, hS, h => by
  simp only [planB, Bool.and_eq_true] at hp
  obtain ⟨⟨⟨h1, h2⟩, h3⟩, h4⟩ := hp
  obtain ⟨o, ho⟩ := Option.isSome_iff_exists.1 h1
  have hn : nthO l i = some o := by rw [← nthO_eq, hl]; exact ho
  simp only [planOps, hn, wpEager] at h
  obtain ⟨v, hy, h⟩ := h
  exact wpAnyH_take ho hs h2 h3 (fun c a w => hQ c a _ _ w) hy hS (wpAnyH_eager hl hs hQ r _ _ _ h4 hS h)
 | (i, false) :: r, listed, a, w, hp, hS, h => by
  simp only [planB, Bool.and_eq_true, beq_iff_eq] at hp
  obtain ⟨⟨h1, h2⟩, h4⟩ := hp
  obtain ⟨o, ho⟩ := Option.isSome_iff_exists.1 h1
  have hn : nthO l i = some o := by rw [← nthO_eq, hl]; exact ho
  simp only [planOps, hn, wpEager] at h
  refine wpAnyH_all h2 (by simp) fun j hj => ?_
  rw [List.mem_singleton] at hj
  subst hj
  unfold wpOp
  simp only [ho]
  split at h
  ·rename_i hw
   rw [if_pos hw]
   exact .inl (Oper.wp_mono (fun a' w' ⟨h5, h6⟩ => ⟨h5, wpAnyH_eager hl hs hQ r _ _ _ h4 h5 h6⟩) h)
  ·rename_i hw
   rw [if_neg hw]
   exact ⟨hS, wpAnyH_eager hl hs hQ r _ _ _ h4 hS h⟩
theorem wp_region_eager_in {P : Program} {id : Nat} {Q : Exit → Act → World → Prop} {a : Act} {w : World} {l : List Oper} (S : World → Prop) (π : List (Nat × Bool)) (hm : P.follows .mixedOrders = true)
  (hp : (planB l.toArray π (Array.replicate l.length false) && Region.noSelect l.toArray && π.length == l.length) = true) (hS : S w.drew)
  (h : wpEager P l.toArray S (NoPanic Q) (planOps l π) a w.drew) : (Code.region id l.toArray true).wp P Q a w := by
 refine wp_region_noPanic ?_
 simp only [Bool.and_eq_true, beq_iff_eq] at hp
 obtain ⟨⟨h1, h2⟩, h3⟩ := hp
 have := wpAnyH_eager (P := P) (Q := NoPanic Q) (l := l) rfl h2 (fun _ _ _ _ _ h => h) π (Array.replicate l.length false) a w.drew h1 hS h
 refine wp_region_held hm (S := S) ?_
 rw [h3] at this
 have hz : l.toArray.size = l.length := List.size_toArray ..
 rw [hz]
 exact this
theorem wp_region_eager {P : Program} {id : Nat} {Q : Exit → Act → World → Prop} {a : Act} {w : World} {l : List Oper} (π : List (Nat × Bool)) (hm : P.follows .mixedOrders = true)
  (hp : (planB l.toArray π (Array.replicate l.length false) && Region.noSelect l.toArray && π.length == l.length) = true)
  (h : wpEager P l.toArray (Below w.heap.size w) (NoPanic Q) (planOps l π) a w.drew) : (Code.region id l.toArray true).wp P Q a w :=
 wp_region_eager_in (Below w.heap.size w) π hm hp ⟨rfl, rfl, rfl, Nat.le_refl _, fun _ _ => rfl⟩ h
theorem eagerOpen {P : Program} {ops : Array Oper} {S : World → Prop} {Q : Exit → Act → World → Prop} {l : List Oper} {i : Nat} {b : Bool} {r : List (Nat × Bool)} {a : Act} {w : World} {o : Oper} (ho : nthO l i = some o)
  (h : wpEager P ops S Q ((o, b) :: planOps l r) a w) : wpEager P ops S Q (planOps l ((i, b) :: r)) a w := by
 unfold planOps; rw [ho]; exact h
theorem eagerEnd {P : Program} {ops : Array Oper} {S : World → Prop} {Q : Exit → Act → World → Prop} {l : List Oper} {a : Act} {w : World} (h : Q .normal a w) : wpEager P ops S (NoPanic Q) (planOps l []) a w := h
theorem wpEager_take {P : Program} {ops : Array Oper} {S : World → Prop} {Q : Exit → Act → World → Prop} {o : Oper} {r : List (Oper × Bool)} {a : Act} {w : World} {v : Value} (hw : Region.wanted o (yielded ops a.tmps) = true)
  (hy : ∀ w', S w' → (execOp a.eval o).run P w' = .ok (.value v) w') (h : wpEager P ops S Q r (a.put o.dst v) w) : wpEager P ops S Q ((o, true) :: r) a w := ⟨v, .inl ⟨hw, hy⟩, h⟩
theorem wpEager_skip {P : Program} {ops : Array Oper} {S : World → Prop} {Q : Exit → Act → World → Prop} {o : Oper} {r : List (Oper × Bool)} {a : Act} {w : World} (hw : Region.wanted o (yielded ops a.tmps) = false)
  (h : wpEager P ops S Q r (a.put o.dst undef) w) : wpEager P ops S Q ((o, true) :: r) a w := ⟨undef, .inr ⟨hw, rfl⟩, h⟩
theorem wpEager_off {P : Program} {ops : Array Oper} {S : World → Prop} {Q : Exit → Act → World → Prop} {o : Oper} {r : List (Oper × Bool)} {a : Act} {w : World} (hw : Region.wanted o (yielded ops a.tmps) = false)
  (h : wpEager P ops S Q r (a.put o.dst undef) w) : wpEager P ops S Q ((o, false) :: r) a w := by
 unfold wpEager; rw [if_neg (by rw [hw]; exact Bool.false_ne_true)]; exact h
theorem wpEager_load {P : Program} {ops : Array Oper} {S : World → Prop} {Q : Exit → Act → World → Prop} {op : Oper} {r : List (Oper × Bool)} {a : Act} {w : World} (hw : Region.wanted op (yielded ops a.tmps) = true) (ty : TypeId) (x : Operand) (ho : op.op = .load ty x)
  (b o : Nat) (hx : a.eval x = .pointer (some ⟨b, o, none⟩)) (M : Array Value) (d : TypeDesc) (hc : ∀ w', S w' → w'.rangeAt b o M.toList)
  (hu : P.underlying ty = some d) (hd : d.isRow = true) (hi : (P.info? ty).map (·.size) = some M.size)
  (h : wpEager P ops S Q r (a.put op.dst (.agg M)) w) : wpEager P ops S Q ((op, true) :: r) a w := by
 refine wpEager_take hw (fun w' hb => ?_) h
 unfold execOp
 simp only [ho, hx, Instr.loadAt, Instr.sureAddr, Sem.run_bind, Sem.run_pure, Result.andThen_ok, run_loadVar_mid w' b o ty M.toList d (hc w' hb) hu hd (by simpa using hi)]
theorem wpEager_op {P : Program} {ops : Array Oper} {S : World → Prop} {Q : Exit → Act → World → Prop} {o : Oper} {r : List (Oper × Bool)} {a : Act} {w : World} (hw : Region.wanted o (yielded ops a.tmps) = true)
  (h : ∀ K : Act → World → Prop, Shut (∀ a w, S w → wpEager P ops S Q r a w → K a w) → Oper.wp P o a w K Q) : wpEager P ops S Q ((o, false) :: r) a w := by
 unfold wpEager; rw [if_pos hw]; exact h _ fun _ _ h1 h2 => ⟨h1, h2⟩
theorem eagerLoadAt {P : Program} {ops : Array Oper} {S : World → Prop} {Q : Exit → Act → World → Prop} {r : List (Oper × Bool)} {a : Act} {w : World} (n : Nat) {d : Option Nat} {ty : TypeId} {t : TypeId} {p : String} {af : Array Edge} {g : Option (Nat × Bool)} {b : Bool}
  (h : wpEager P ops S Q ((⟨d, .load ty (.tmp n), t, p, af, g⟩, b) :: r) a w) : wpEager P ops S Q ((⟨d, .load ty (.tmp n), t, p, af, g⟩, b) :: r) a w := h
theorem range_below {w w' : World} {b o : Nat} {L : List Value} (h : w.rangeAt b o L) (hb : Below w.heap.size w w') : w'.rangeAt b o L := fun j v hv => by
 have := h j v hv
 rw [hb.cell (block_lt_of_cell this)]; exact this
theorem cell_below {w w' : World} {p : Addr} {v : Value} (h : w.cell? p = some v) (hb : Below w.heap.size w w') : w'.cell? p = some v := by
 rw [hb.cell (block_lt_of_cell h)]; exact h
theorem eagerAt {P : Program} {ops : Array Oper} {S : World → Prop} {Q : Exit → Act → World → Prop} {r : List (Oper × Bool)} {a : Act} {w : World} (n : Nat) {op : Op} {t : TypeId} {p : String} {af : Array Edge} {g : Option (Nat × Bool)} {b : Bool}
  (h : wpEager P ops S Q ((⟨some n, op, t, p, af, g⟩, b) :: r) a w) : wpEager P ops S Q ((⟨some n, op, t, p, af, g⟩, b) :: r) a w := h
theorem wpEager_build {P : Program} {ops : Array Oper} {S : World → Prop} {Q : Exit → Act → World → Prop} {o : Oper} {r : List (Oper × Bool)} {a : Act} {w : World} (hw : Region.wanted o (yielded ops a.tmps) = true) (t : TypeId) (parts : Array (Nat × Operand)) (ho : o.op = .build t parts)
  (vals : List (Nat × Value)) (hv : (parts.toList.map fun p => (p.1, a.eval p.2)) = vals) (cells : Array Value) (h : P.built t vals = some cells) (k : wpEager P ops S Q r (a.put o.dst (.agg cells)) w) : wpEager P ops S Q ((o, true) :: r) a w := by
 refine wpEager_take hw (fun w' _ => ?_) k
 have hb : P.built t (parts.map fun p => (p.1, a.eval p.2)).toList = some cells := by rw [Array.toList_map, hv]; exact h
 unfold execOp
 simp only [ho, Sem.run_bind, Sem.run_pure, Result.andThen_ok, run_build w' t _ cells hb]
end Go.Mir
namespace Go.Proofs.YtnejjfglkindjaaGreatDoor.Rdr
open Go.RowKit Go.Mir
structure RD where
 l : List UInt8
 pos : Nat
 bad : Option Int
def RD.fail (s : RD) (e : Int) : RD := if s.bad = none ∧ e ≠ 0 then ⟨s.l, s.pos, some e⟩ else s
def RD.takeB (s : RD) (n : Int) (fits : Bool) : List UInt8 := if s.bad = none ∧ fits = true ∧ 0 ≤ n ∧ n ≤ (s.l.length : Int) - (s.pos : Int) then (s.l.drop s.pos).take n.toNat else []
def RD.takeS (s : RD) (n : Int) (fits : Bool) : RD :=
 if s.bad ≠ none then s else if fits = false ∨ n < 0 then ⟨s.l, s.pos, some 1⟩ else if (s.l.length : Int) - (s.pos : Int) < n then ⟨s.l, s.pos, some 2⟩ else ⟨s.l, s.pos + n.toNat, none⟩
def RD.err (s : RD) : Int := s.bad.getD 0
def RD.new (l : List UInt8) : RD := ⟨l, 0, none⟩
def Rd (w : World) (base : Nat) (v : Value) (l : List UInt8) : Prop :=
 (v = .slice none 0 0 ∧ l = []) ∨ ∃ g cap cur, v = .slice (some ⟨g, 0, none⟩) l.length cap ∧ base ≤ g ∧ w.heap[g]? = some (.cells cur 5 (0, 0)) ∧ l.length ≤ cap ∧ cap ≤ maxLen ∧ l.length ≤ cur.size ∧ cur.toList.take l.length = bytesV l
theorem Rd.touch {S : Nat → Prop} {w w' : World} {base : Nat} {v : Value} {l : List UInt8} (h : Rd w base v l) (ht : Turns S w w') (hS : ∀ k M fr, w.heap[k]? = some (.cells M 5 fr) → ¬ S k) : Rd w' base v l := by
 rcases h with h | ⟨g, cap, cur, h1, h2, h3, h4⟩
 ·exact .inl h
 ·exact .inr ⟨g, cap, cur, h1, h2, ht.keep h3 (hS g cur _ h3), h4⟩
theorem Rd.below {w w' : World} {base : Nat} {v : Value} {l : List UInt8} (h : Rd w base v l) (hb : Below w.heap.size w w') : Rd w' base v l :=
 h.touch (Turns.of_below (S := fun _ => False) hb) (fun _ _ _ _ h => h)
theorem Rd.bs {w : World} {base : Nat} {v : Value} {l : List UInt8} (h : Rd w base v l) : ∃ p c, v = .slice p l.length c ∧ Bs w p l.length c l := by
 rcases h with ⟨rfl, rfl⟩ | ⟨g, cap, cur, rfl, hb, hg, hn, hm, hz, ht⟩
 ·exact ⟨none, 0, rfl, Sl.nil _ _⟩
 ·refine ⟨_, _, rfl, ⟨by rw [bytesV_length, Nat.mul_one], hn, by simpa [maxLen] using hm, fun h => (by cases h), fun a ha j u hu => ?_⟩⟩
  obtain rfl := Option.some.inj ha
  have hj : j < l.length := by
   have := (List.getElem?_eq_some_iff.1 hu).1
   rwa [bytesV_length] at this
  rw [add_none, Nat.zero_add, cell_of_row _ _ _ _ _ _ hg, ← Array.getElem?_toList]
  rw [← ht, List.getElem?_take, if_pos hj] at hu
  exact hu
theorem Rd.of_own {w : World} {base : Nat} {v : Value} {l : List UInt8} (h : w.ownsRow base 5 1 v l.length (bytesV l)) : Rd w base v l := by
 rcases h.2 with ⟨rfl, hn⟩ | ⟨g, cap, cur, rfl, hb, hg, hn, hm, hs, ht⟩
 ·exact .inl ⟨rfl, List.length_eq_zero_iff.1 hn⟩
 ·exact .inr ⟨g, cap, cur, rfl, hb, hg, hn, hm, by rw [hs]; omega, by rw [Nat.mul_one] at ht; exact ht⟩
theorem Rd.base {w : World} {base b2 : Nat} {v : Value} {l : List UInt8} (h : Rd w base v l) (hb : b2 ≤ base) : Rd w b2 v l := by
 rcases h with h | ⟨g, cap, cur, h1, h2, h3⟩
 ·exact .inl h
 ·exact .inr ⟨g, cap, cur, h1, Nat.le_trans hb h2, h3⟩
theorem Bs.part {w : World} {p : Option Addr} {n c : Nat} {l : List UInt8} (h : Bs w p n c l) (k m : Nat) (hk : k + m ≤ n) (hm : 0 < m) : ∃ b o, p = some ⟨b, o, none⟩ ∧ Bs w (some ⟨b, o + k, none⟩) m m ((l.drop k).take m) := by
 have hn := h.length
 obtain ⟨b, o, rfl⟩ := Sl.addr h (by omega) (by omega)
 have h1 := h.le
 have h2 := h.max
 refine ⟨b, o, rfl, ⟨by rw [bytesV_length, List.length_take, List.length_drop, Nat.mul_one]; omega, Nat.le_refl _, by omega, fun hp => (by cases hp), fun a ha j u hu => ?_⟩⟩
 obtain rfl := Option.some.inj ha
 have h1 : (bytesV l)[k + j]? = some u := by
  simp only [bytesV, List.getElem?_map, List.getElem?_take, List.getElem?_drop] at hu ⊢
  split at hu
  ·exact hu
  ·simp at hu
 have := h.cell _ rfl (k + j) u h1
 rw [add_none] at this ⊢
 rwa [Nat.add_assoc]
def FaultAt (w : World) (base : Nat) : Option Int → Value → Prop
 | none, bv => bv = .nilIface
 | some e, bv => e ≠ 0 ∧ (-9223372036854775808 ≤ e ∧ e ≤ 9223372036854775807) ∧ ∃ fb a0, bv = .iface 216 (.pointer (some ⟨fb, 0, none⟩)) ∧ base ≤ fb ∧ w.heap[fb]? = some (.cells #[.int .i64 a0, .int .i64 e] 219 (0, 0))
theorem FaultAt.touch {S : Nat → Prop} {w w' : World} {base : Nat} {b : Option Int} {bv : Value} (h : FaultAt w base b bv) (ht : Turns S w w') (hS : ∀ k M fr, w.heap[k]? = some (.cells M 219 fr) → ¬ S k) : FaultAt w' base b bv := by
 cases b with
 | none => exact h
 | some e =>
  obtain ⟨h1, h2, fb, a0, h3, h4, h5⟩ := h
  exact ⟨h1, h2, fb, a0, h3, h4, ht.keep h5 (hS _ _ _ h5)⟩
def rA (v : Value) (pos : Nat) (bv : Value) : Array Value := #[.bool true, v, .int .i64 (pos : Int), bv]
structure RIn (w : World) (base rb : Nat) (v bv : Value) (s : RD) : Prop where
 row : w.heap[rb]? = some (.cells (rA v s.pos bv) 212 (0, 0))
 low : base ≤ rb
 bytes : Rd w base v s.l
 fault : FaultAt w base s.bad bv
 at1 : s.pos ≤ s.l.length
 len : s.l.length ≤ 140737488355328
def RAt (w : World) (base rb : Nat) (s : RD) : Prop := ∃ v bv, RIn w base rb v bv s
theorem RIn.below {w w' : World} {base rb : Nat} {v bv : Value} {s : RD} (h : RIn w base rb v bv s) (hb : Below w.heap.size w w') : RIn w' base rb v bv s :=
 ⟨Below.keepOld hb h.row, h.low, h.bytes.below hb, h.fault.touch (Turns.of_below (S := fun _ => False) hb) (fun _ _ _ _ h => h), h.at1, h.len⟩
theorem RAt.below {w w' : World} {base rb : Nat} {s : RD} (h : RAt w base rb s) (hb : Below w.heap.size w w') : RAt w' base rb s := by
 obtain ⟨v, bv, h⟩ := h
 exact ⟨v, bv, h.below hb⟩
theorem RIn.lt {w : World} {base rb : Nat} {v bv : Value} {s : RD} (h : RIn w base rb v bv s) : rb < w.heap.size := (Array.getElem?_eq_some_iff.1 h.row).1
theorem RIn.no8 {w : World} {base rb : Nat} {v bv : Value} {s : RD} (h : RIn w base rb v bv s) : ∀ k M fr, w.heap[k]? = some (.cells M 5 fr) → ¬ k = rb := fun k M fr hk e => by
 subst e
 rw [h.row] at hk
 injection hk with e1
 injection e1 with _ e2
 exact absurd e2 (by decide)
theorem RIn.noF {w : World} {base rb : Nat} {v bv : Value} {s : RD} (h : RIn w base rb v bv s) : ∀ k M fr, w.heap[k]? = some (.cells M 219 fr) → ¬ k = rb := fun k M fr hk e => by
 subst e
 rw [h.row] at hk
 injection hk with e1
 injection e1 with _ e2
 exact absurd e2 (by decide)
theorem RIn.cells {w : World} {base rb : Nat} {v bv : Value} {s : RD} (h : RIn w base rb v bv s) : w.cell? ⟨rb, 0, none⟩ = some (.bool true) ∧ w.cell? ⟨rb, 1, none⟩ = some v ∧ w.cell? ⟨rb, 2, none⟩ = some (.int .i64 (s.pos : Int)) ∧ w.cell? ⟨rb, 3, none⟩ = some bv ∧ ∀ j, w.frozen? ⟨rb, j, none⟩ = false := by
 refine ⟨?_, ?_, ?_, ?_, fun j => ?_⟩
 ·rw [cell_of_row _ _ _ _ _ _ h.row]; rfl
 ·rw [cell_of_row _ _ _ _ _ _ h.row]; rfl
 ·rw [cell_of_row _ _ _ _ _ _ h.row]; rfl
 ·rw [cell_of_row _ _ _ _ _ _ h.row]; rfl
 ·simp [World.frozen?, h.row]
structure LeftR (base rb : Nat) (s' : RD) (w w' : World) : Prop where
 there : RAt w' base rb s'
 turn : Turns (fun k => k = rb) w w'
 same1 : w'.cell? ⟨rb, 1, none⟩ = w.cell? ⟨rb, 1, none⟩
theorem LeftR.same {w w' : World} {base rb : Nat} {s : RD} (h : RAt w base rb s) (hb : Below w.heap.size w w') : LeftR base rb s w w' := ⟨h.below hb, Turns.of_below hb, by
 obtain ⟨v, bv, h⟩ := h
 rw [h.cells.2.1]
 exact (h.below hb).cells.2.1⟩
theorem LeftR.trans {w w1 w2 : World} {base rb : Nat} {s1 s2 : RD} (h : LeftR base rb s1 w w1) (h2 : LeftR base rb s2 w1 w2) : LeftR base rb s2 w w2 := ⟨h2.there, h.turn.trans h2.turn (fun _ _ h => h), h2.same1.trans h.same1⟩
theorem LeftR.belowB {w w' : World} {base rb B : Nat} {s s' : RD} (h0 : RAt w base rb s) (hB : B ≤ base) (h : LeftR base rb s' w w') : Below B w w' := by
 obtain ⟨v, bv, h0⟩ := h0
 exact h.2.below (by have := h0.lt; have := h0.low; omega) (fun i hi => by have := h0.low; omega)
theorem none_any {base rb : Nat} {s : RD} (w : World) (h : RAt w base rb s) : Calls Tryz.prog 125 #[.pointer (some ⟨rb, 0, none⟩)] w fun e w' => e = .returned (.bool false) ∧ w = w' := by
 obtain ⟨v, bv, h⟩ := h
 have hc := h.cells.1
 clear h
 go_enter Tryz.func125, Tryz.ntmps125
 go_wp2_with fail
 go_ret
 exact ⟨rfl, rfl⟩
theorem build_reader (p : Option Addr) (n c : Nat) : Tryz.prog.built 212 [(0, .bool true), (1, .slice p n c)] = some #[.bool true, .slice p n c, .int .i64 0, .nilIface] := by kernel_rfl
theorem info8 : (Tryz.prog.info? 5).map (fun i => (i.zero, i.size, i.bytes)) = some (some (.int .u8 0), 1, 1) := by kernel_rfl
theorem wpList_build {P : Program} {w : World} {ops : Array Oper} {rest : List Oper} {o : Oper} {a : Act} {Q : Exit → Act → World → Prop} (hgd : o.guard = none) (t : TypeId) (parts : Array (Nat × Operand)) (ho : o.op = .build t parts)
  (vals : List (Nat × Value)) (hv : (parts.toList.map fun p => (p.1, a.eval p.2)) = vals) (cells : Array Value) (h : P.built t vals = some cells) (k : wpList P ops Q rest (a.put o.dst (.agg cells)) w) : wpList P ops Q (o :: rest) a w := by
 refine wpList_plain hgd fun K hK => ?_
 unfold Oper.wp execOp
 have hb : P.built t (parts.map fun p => (p.1, a.eval p.2)).toList = some cells := by rw [Array.toList_map, hv]; exact h
 simp only [ho, Sem.run_bind, Sem.run_pure, Result.andThen_ok, run_build w t _ cells hb]
 exact hK _ _ k
def NewP (l : List UInt8) (w : World) (e : Ending) (w' : World) : Prop := ∃ rb, e = .returned (.pointer (some ⟨rb, 0, none⟩)) ∧ RAt w' w.heap.size rb (RD.new l) ∧ Below w.heap.size w w'
set_option maxRecDepth 100000 in
theorem new_any (w : World) (p : Option Addr) (n c : Nat) (l : List UInt8) (hb : Bs w p n c l) (hn : n ≤ 140737488355328) : Calls Tryz.prog 107 #[.slice p n c] w (NewP l w) := by
 have HBS := Lib.hid hb
 have hle := hb.le
 have hmax := hb.max
 have HLN := Lib.hid hb.length
 clear hb
 go_enter Tryz.func107, Tryz.ntmps107
 go_wp2_with (refine wpList_append_nx rfl _ _ 22 rfl (base := w.heap.size) Tryz.underlying22 info8 rfl (by omega) rfl (World.ownsRow_nil _ _ _ _) rfl HBS.out (bytesV_one _) ⟨by omega, by omega⟩ (Nat.le_refl _) ?_)
 intro p9 c9 w9 ho9 hg9 _ _
 have HB9 : Hid (Below w.heap.size w w9) := (Below.refl _ _).grown hg9 (Nat.le_refl _) (fun k hk => by simp [Value.ownBlock] at hk)
 have HR9 : Hid (Rd w9 w.heap.size (.slice p9 n c9) l) := by
  have := ho9
  rw [← HLN.out] at this ⊢
  exact Rd.of_own this
 have HBX := Lib.hid (Below.allocs w9 (.cells (rA (.slice p9 n c9) 0 .nilIface) 212))
 have HFIN : Hid (NewP l w (.returned (.pointer (some ⟨w9.heap.size, 0, none⟩))) (w9.alloc (.cells (rA (.slice p9 n c9) 0 .nilIface) 212))) :=
  ⟨_, rfl, ⟨_, _, ⟨heap_alloc_last _ _, HB9.out.size, HR9.out.below HBX.out, rfl, Nat.zero_le _, by show l.length ≤ _; rw [HLN.out]; exact hn⟩⟩, HB9.out.trans (HBX.out.mono HB9.out.size)⟩
 clear ho9 hg9
 go_wp2_with ((with_reducible refine wpAt 5 ?_); refine wpList_build rfl 212 _ rfl [(0, .bool true), (1, .slice p9 n c9)] rfl _ (build_reader _ _ _) ?_)
 go_ret
 exact HFIN.out
theorem left_any {base rb : Nat} {s : RD} (w : World) (h : RAt w base rb s) : Calls Tryz.prog 111 #[.pointer (some ⟨rb, 0, none⟩)] w fun e w' => e = .returned (.int .i64 ((s.l.length - s.pos : Nat) : Int)) ∧ Below w.heap.size w w' := by
 have H := Lib.hid h
 obtain ⟨v, bv, h⟩ := h
 obtain ⟨_, hc1, hc2, _, _⟩ := h.cells
 obtain ⟨p, c, hv, hbs⟩ := h.bytes.bs
 rw [hv] at hc1
 have hg1 := cell_grown hc1
 have hg2 := cell_grown hc2
 have hat := h.at1
 have hlen := h.len
 have hle := hbs.le
 have hmax := hbs.max
 have hsub : (s.l.length : Int) - (s.pos : Int) = ((s.l.length - s.pos : Nat) : Int) := by omega
 have hw1 : IntKind.i64.wrap ((s.l.length : Int) - (s.pos : Int)) = ((s.l.length - s.pos : Nat) : Int) := by rw [hsub]; exact IntWalk.i64_in _ (by omega)
 have hw2 : IntKind.i64.wrap ((s.l.length - s.pos : Nat) : Int) = ((s.l.length - s.pos : Nat) : Int) := IntWalk.i64_in _ (by omega)
 clear h hv hbs
 go_enter Tryz.func111, Tryz.ntmps111
 go_wp2_with fail
 refine (none_any w H.out).mono ?_
 rintro e w' ⟨rfl, rfl⟩
 go_upto_region 3 with fail
 refine wp_region_grow (by kernel_rfl) (by kernel_rfl) ?_
 repeat (first
  | ((with_reducible refine wpQuietGd ?_); (with_reducible refine wpQuiet_skip ?_ ?_); (· rfl); simp only [Act.put, zA, zB, zC])
  | quiet_step (fail))
 refine wpQuiet_nil ?_
 intro w2 hb2
 have HB2 := Lib.hid hb2
 clear hb2
 go_wp2_with fail
 go_ret
 exact ⟨rfl, HB2.out⟩
theorem build_fault (a e : Int) : Tryz.prog.built 219 [(0, .int .i64 a), (1, .int .i64 e)] = some #[.int .i64 a, .int .i64 e] := by kernel_rfl
theorem fail_any {base rb : Nat} {s : RD} (w : World) (h : RAt w base rb s) (z : Int) (hz : -9223372036854775808 ≤ z ∧ z ≤ 9223372036854775807) : Calls Tryz.prog 123 #[.pointer (some ⟨rb, 0, none⟩), .int .i64 z] w fun e w' => e = .returned (.tuple #[]) ∧ LeftR base rb (s.fail z) w w' := by
 have H := Lib.hid h
 obtain ⟨v, bv, h⟩ := h
 obtain ⟨_, hc1, hc2, hc3, hfz⟩ := h.cells
 have HI := Lib.hid h
 obtain ⟨l, pos, bad⟩ := s
 cases bad with
 | some b =>
  obtain ⟨_, _, fb, a0, hbv, _⟩ := h.fault
  rw [hbv] at hc3
  clear h hbv
  go_enter Tryz.func123, Tryz.ntmps123
  go_wp2_with fail
  refine (none_any w H.out).mono ?_
  rintro e w' ⟨rfl, rfl⟩
  go_wp2_with fail
  go_end0
  refine ⟨rfl, ?_⟩
  have : RD.fail ⟨l, pos, some b⟩ z = ⟨l, pos, some b⟩ := by unfold RD.fail; rw [if_neg (by simp)]
  rw [this]
  exact LeftR.same H.out (Below.refl _ _)
 | none =>
  have hbv : bv = .nilIface := h.fault
  rw [hbv] at hc3
  by_cases h0 : z = 0
  ·subst h0
   clear h hbv
   go_enter Tryz.func123, Tryz.ntmps123
   go_wp2_with fail
   refine (none_any w H.out).mono ?_
   rintro e w' ⟨rfl, rfl⟩
   go_wp2_with fail
   go_end0
   refine ⟨rfl, ?_⟩
   have : RD.fail ⟨l, pos, none⟩ 0 = ⟨l, pos, none⟩ := by unfold RD.fail; rw [if_neg (by simp)]
   rw [this]
   exact LeftR.same H.out (Below.refl _ _)
  ·have hz1 : (z == 0) = false := beq_eq_false_iff_ne.2 h0
   have hz2 : (z != 0) = true := by simp [h0]
   have HE : Hid (RD.fail ⟨l, pos, none⟩ z = ⟨l, pos, some z⟩) := by show _ = _; unfold RD.fail; rw [if_pos ⟨rfl, h0⟩]
   have HFIN : Hid (LeftR base rb ⟨l, pos, some z⟩ w ((w.alloc (.cells #[.int .i64 (pos : Int), .int .i64 z] 219)).setCell ⟨rb, 3, none⟩ (.iface 216 (.pointer (some ⟨w.heap.size, 0, none⟩))))) := by
    have hb := Below.allocs w (.cells #[.int .i64 (pos : Int), .int .i64 z] 219)
    have hI := HI.out.below hb
    have ht := (Turns.refl (fun k => k = rb) (w.alloc (.cells #[.int .i64 (pos : Int), .int .i64 z] 219))).setCell (p := ⟨rb, 3, none⟩) (fun _ => rfl) (.iface 216 (.pointer (some ⟨w.heap.size, 0, none⟩)))
    have hlt := HI.out.lt
    have hrow2 := heap_setCell_same _ rb 3 _ _ (.iface 216 (.pointer (some ⟨w.heap.size, 0, none⟩))) hI.row
    refine ⟨⟨v, .iface 216 (.pointer (some ⟨w.heap.size, 0, none⟩)), ⟨?_, hI.low, hI.bytes.touch ht hI.no8, ⟨h0, hz, w.heap.size, _, rfl, ?_, ht.keep (heap_alloc_last _ _) (by omega)⟩, hI.at1, hI.len⟩⟩, (Turns.of_below hb).trans ht (fun _ _ h => h), ?_⟩
    ·rw [hrow2]; rfl
    ·have := HI.out.low; omega
    ·rw [HI.out.cells.2.1, cell_of_row _ _ _ _ _ _ hrow2]; rfl
   have hb0 := Below.allocs w (.cells #[.int .i64 (pos : Int), .int .i64 z] 219)
   have hcx : (w.alloc (.cells #[.int .i64 (pos : Int), .int .i64 z] 219)).cell? ⟨rb, 3, none⟩ = some .nilIface := cell_below hc3 hb0
   have hfx := (HI.out.below hb0).cells.2.2.2.2 3
   clear h hbv h0 hb0
   go_enter Tryz.func123, Tryz.ntmps123
   go_wp2_with fail
   refine (none_any w H.out).mono ?_
   rintro e w' ⟨rfl, rfl⟩
   go_wp2_with ((with_reducible refine wpAt 24 ?_); refine wpList_build rfl 219 _ rfl [(0, .int .i64 (pos : Int)), (1, .int .i64 z)] rfl _ (build_fault _ _) ?_)
   go_end0
   rw [HE.out]
   exact ⟨rfl, HFIN.out⟩
end Go.Proofs.YtnejjfglkindjaaGreatDoor.Rdr
namespace Go.Proofs.YtnejjfglkindjaaGreatDoor.Rdr
open Go.RowKit Go.Mir
def TakeP (base rb : Nat) (s : RD) (n : Int) (fits : Bool) (w : World) (e : Ending) (w' : World) : Prop :=
 ∃ p c, e = .returned (.slice p (s.takeB n fits).length c) ∧ Bs w' p (s.takeB n fits).length c (s.takeB n fits) ∧ LeftR base rb (s.takeS n fits) w w'
theorem TakeP.empty {base rb : Nat} {s : RD} {n : Int} {fits : Bool} {w w' : World} (hB : s.takeB n fits = []) (h : LeftR base rb (s.takeS n fits) w w') : TakeP base rb s n fits w (.returned (.slice none 0 0)) w' :=
 ⟨none, 0, by rw [hB]; rfl, by rw [hB]; exact Sl.nil _ _, h⟩
theorem run_cut {w : World} {p : Option Addr} {L c : Nat} (l : List UInt8) (h : Bs w p L c l) (k m : Nat) (hk : k + m ≤ L) :
  ∃ q, (∀ w0, (Instr.sliceAt 22 (.slice p L c) (some (.int .i64 (k : Int))) (some (.int .i64 ((k : Int) + (m : Int)))) (some (.int .i64 ((k : Int) + (m : Int))))).run Tryz.prog w0 = .ok (.slice q m m) w0) ∧
   ∀ w', (∀ b o v, p = some ⟨b, o, none⟩ → ∀ j, w.cell? ⟨b, j, none⟩ = some v → w'.cell? ⟨b, j, none⟩ = some v) → Bs w' q m m ((l.drop k).take m) := by
 have hle := h.le
 have hmax := h.max
 have hsz : (Tryz.prog.info? 5).map (·.size) = some 1 := by kernel_rfl
 obtain ⟨i, hi, hi1⟩ := Option.map_eq_some_iff.1 hsz
 have e1 : ((k : Int) + (m : Int)).toNat = k + m := by omega
 have hrun : ∀ w0, (Instr.sliceAt 22 (.slice p L c) (some (.int .i64 (k : Int))) (some (.int .i64 ((k : Int) + (m : Int)))) (some (.int .i64 ((k : Int) + (m : Int))))).run Tryz.prog w0 = .ok (.slice (if k + m = k then p else p.map (·.add k)) m m) w0 := fun w0 => by
  have hb1 : (0 : Int) ≤ (k : Int) + (m : Int) ∧ (k : Int) + (m : Int) ≤ (c : Int) := by omega
  have hb3 : (0 : Int) ≤ (k : Int) ∧ (k : Int) ≤ ((k + m : Nat) : Int) := by omega
  simp [Instr.sliceAt, Instr.slice, run_underlying Tryz.underlying22, Instr.sliceBounds, Instr.sliceBound, asIntOf, sizeOf, typeInfo, hi, hi1, e1, hb1, hb3]
  try omega
 by_cases hm : m = 0
 ·subst hm
  refine ⟨p, fun w0 => by rw [hrun]; simp, fun w' _ => ?_⟩
  refine ⟨by simp [bytesV], Nat.le_refl _, by omega, fun _ => rfl, fun a ha j u hu => by simp [bytesV] at hu⟩
 ·obtain ⟨b, o, rfl, hB⟩ := Bs.part h k m hk (by omega)
  refine ⟨some ⟨b, o + k, none⟩, fun w0 => by rw [hrun, if_neg (by omega)]; simp [add_none], fun w' hw => ⟨hB.len, hB.le, hB.max, hB.nil0, fun a ha j u hu => ?_⟩⟩
  have h1 := hB.cell a ha j u hu
  obtain rfl := Option.some.inj ha
  rw [add_none] at h1 ⊢
  exact hw b o u rfl _ h1
set_option maxRecDepth 100000 in
set_option maxHeartbeats 1600000 in
theorem take_any {base rb : Nat} {s : RD} (w : World) (h : RAt w base rb s) (n : Int) (hn : -9223372036854775808 ≤ n ∧ n ≤ 9223372036854775807) (fits : Bool) :
  Calls Tryz.prog 124 #[.pointer (some ⟨rb, 0, none⟩), .int .i64 n, .bool fits] w (TakeP base rb s n fits w) := by
 have H := Lib.hid h
 obtain ⟨v, bv, h⟩ := h
 obtain ⟨_, hc1, hc2, hc3, hfz⟩ := h.cells
 have HI := Lib.hid h
 obtain ⟨l, pos, bad⟩ := s
 cases bad with
 | some b =>
  obtain ⟨_, _, fb, a0, hbv, _⟩ := h.fault
  rw [hbv] at hc3
  have HFIN : Hid (TakeP base rb ⟨l, pos, some b⟩ n fits w (.returned (.slice none 0 0)) w) := by
   refine TakeP.empty (by unfold RD.takeB; rw [if_neg (by simp)]) ?_
   have : RD.takeS ⟨l, pos, some b⟩ n fits = ⟨l, pos, some b⟩ := by unfold RD.takeS; rw [if_pos (by simp)]
   rw [this]
   exact LeftR.same H.out (Below.refl _ _)
  clear h hbv
  go_enter Tryz.func124, Tryz.ntmps124
  go_wp2_with fail
  refine (none_any w H.out).mono ?_
  rintro e w' ⟨rfl, rfl⟩
  go_wp2_with fail
  go_ret
  exact HFIN.out
 | none =>
  have hbv : bv = .nilIface := h.fault
  rw [hbv] at hc3
  obtain ⟨p, c, hv, hbs⟩ := h.bytes.bs
  rw [hv] at hc1
  dsimp only at hc1 hc2 hbs hv
  have hg1 := cell_grown hc1
  have hg2 := cell_grown hc2
  have hat : pos ≤ l.length := h.at1
  have hlen : l.length ≤ 140737488355328 := h.len
  have hle := hbs.le
  have hmax := hbs.max
  have HBS := Lib.hid hbs
  have HV := Lib.hid hv
  clear h hbv hbs hv
  by_cases hbad : fits = false ∨ n < 0
  ·have hTB : RD.takeB ⟨l, pos, none⟩ n fits = [] := by
    unfold RD.takeB
    rw [if_neg]
    rintro ⟨_, h1, h2, _⟩
    rcases hbad with h | h
    ·rw [h] at h1
     cases h1
    ·omega
   have HFIN : Hid (∀ w', LeftR base rb (RD.fail ⟨l, pos, none⟩ 1) w w' → TakeP base rb ⟨l, pos, none⟩ n fits w (.returned (.slice none 0 0)) w') := fun w' hl => by
    refine TakeP.empty hTB ?_
    have : RD.takeS ⟨l, pos, none⟩ n fits = RD.fail ⟨l, pos, none⟩ 1 := by unfold RD.takeS RD.fail; rw [if_neg (by simp), if_pos hbad, if_pos ⟨rfl, by decide⟩]
    rw [this]
    exact hl
   have HFL := Lib.hid (fail_any w H.out 1 (by omega))
   clear hg1 hg2 hTB
   cases fits with
   | false =>
    clear hbad
    go_enter Tryz.func124, Tryz.ntmps124
    go_wp2_with fail
    refine (none_any w H.out).mono ?_
    rintro e w' ⟨rfl, rfl⟩
    go_wp2_with fail
    refine (HFL.out).mono ?_
    rintro e w' ⟨rfl, hl⟩
    have HL := Lib.hid (HFIN.out _ hl)
    clear hl
    go_wp2_with fail
    go_ret
    exact HL.out
   | true =>
    have hneg : n < 0 := by simpa using hbad
    have e1 : decide (n < 0) = true := decide_eq_true hneg
    clear hbad
    go_enter Tryz.func124, Tryz.ntmps124
    go_wp2_with fail
    refine (none_any w H.out).mono ?_
    rintro e w' ⟨rfl, rfl⟩
    go_wp2_with fail
    refine (HFL.out).mono ?_
    rintro e w' ⟨rfl, hl⟩
    have HL := Lib.hid (HFIN.out _ hl)
    clear hl
    go_wp2_with fail
    go_ret
    exact HL.out
  ·obtain rfl : fits = true := by cases fits with | true => rfl | false => exact absurd (.inl rfl) hbad
   have hn0 : ¬ n < 0 := fun h => hbad (.inr h)
   obtain ⟨m, rfl⟩ : ∃ m : Nat, n = (m : Int) := ⟨n.toNat, by omega⟩
   have e1 : decide ((m : Int) < 0) = false := decide_eq_false hn0
   have hsub : (l.length : Int) - (pos : Int) = ((l.length - pos : Nat) : Int) := by omega
   have hw1 : IntKind.i64.wrap ((l.length : Int) - (pos : Int)) = ((l.length - pos : Nat) : Int) := by rw [hsub]; exact IntWalk.i64_in _ (by omega)
   have hw2 : IntKind.i64.wrap ((l.length - pos : Nat) : Int) = ((l.length - pos : Nat) : Int) := IntWalk.i64_in _ (by omega)
   by_cases hbig : l.length - pos < m
   ·have HFIN : Hid (∀ w1 w', Below w.heap.size w w1 → LeftR base rb (RD.fail ⟨l, pos, none⟩ 2) w1 w' → TakeP base rb ⟨l, pos, none⟩ (m : Int) true w (.returned (.slice none 0 0)) w') := fun w1 w' hb hl => by
     refine TakeP.empty (by unfold RD.takeB; rw [if_neg (by rintro ⟨_, h1, h2, h3⟩; dsimp only at h3; omega)]) ?_
     have : RD.takeS ⟨l, pos, none⟩ (m : Int) true = RD.fail ⟨l, pos, none⟩ 2 := by
      unfold RD.takeS RD.fail
      rw [if_neg (by simp), if_neg hbad, if_pos (by dsimp only; omega), if_pos ⟨rfl, by decide⟩]
     rw [this]
     exact LeftR.trans (LeftR.same H.out hb) hl
    have e2 : decide (((l.length - pos : Nat) : Int) < (m : Int)) = true := decide_eq_true (by omega)
    have e3 : decide (l.length - pos < m) = true := decide_eq_true hbig
    clear hbad
    go_enter Tryz.func124, Tryz.ntmps124
    go_wp2_with fail
    refine (none_any w H.out).mono ?_
    rintro e w' ⟨rfl, rfl⟩
    go_upto_region 4 with fail
    refine wp_region_grow (by kernel_rfl) (by kernel_rfl) ?_
    repeat (first
     | ((with_reducible refine wpQuietGd ?_); (with_reducible refine wpQuiet_skip ?_ ?_); (· rfl); simp only [Act.put, zA, zB, zC])
     | quiet_step (fail))
    refine wpQuiet_nil ?_
    intro w2 hb2
    have HB2 := Lib.hid hb2
    have HFL := Lib.hid (fail_any w2 (H.out.below hb2) 2 (by omega))
    clear hb2 hg1 hg2 hsub hw1 hw2
    go_wp2_with fail
    refine (HFL.out).mono ?_
    rintro e w' ⟨rfl, hl⟩
    have HL := Lib.hid (HFIN.out _ _ HB2.out hl)
    clear hl
    go_wp2_with fail
    go_ret
    exact HL.out
   ·have e2 : decide (((l.length - pos : Nat) : Int) < (m : Int)) = false := decide_eq_false (by omega)
    have e3 : decide (l.length - pos < m) = false := decide_eq_false hbig
    obtain ⟨q, hsl, hqb⟩ := run_cut l HBS.out pos m (by omega)
    have hwp : IntKind.i64.wrap ((pos : Int) + (m : Int)) = (pos : Int) + (m : Int) := IntWalk.i64_in _ (by omega)
    have HQB := Lib.hid hqb
    have HFIN : Hid (∀ w3, Below w.heap.size w w3 → TakeP base rb ⟨l, pos, none⟩ (m : Int) true w (.returned (.slice q m m)) (w3.setCell ⟨rb, 2, none⟩ (.int .i64 ((pos : Int) + (m : Int))))) := fun w3 hb => by
     have hB : RD.takeB ⟨l, pos, none⟩ (m : Int) true = (l.drop pos).take m := by unfold RD.takeB; rw [if_pos ⟨rfl, rfl, by omega, by dsimp only; omega⟩]; rfl
     have hS : RD.takeS ⟨l, pos, none⟩ (m : Int) true = ⟨l, pos + m, none⟩ := by
      unfold RD.takeS
      rw [if_neg (by simp), if_neg hbad, if_neg (by dsimp only; omega)]; rfl
     have hml : ((l.drop pos).take m).length = m := by rw [List.length_take, List.length_drop]; omega
     have hI := HI.out.below hb
     have ht := (Turns.refl (fun k => k = rb) w3).setCell (p := ⟨rb, 2, none⟩) (fun _ => rfl) (.int .i64 ((pos : Int) + (m : Int)))
     refine ⟨q, m, by rw [hB, hml], ?_, ?_⟩
     ·rw [hB, hml]
      refine HQB.out _ (fun b o u hp j hc => ?_)
      have hne : b ≠ rb := by
       intro he
       rcases HI.out.bytes with ⟨h1, h2⟩ | ⟨g, cap, cur, h1, _, h3, _⟩
       ·rw [HV.out] at h1
        obtain ⟨rfl, _, _⟩ := Value.slice.inj h1
        cases hp
       ·rw [HV.out] at h1
        obtain ⟨h4, _, _⟩ := Value.slice.inj h1
        rw [hp] at h4
        have h5 : b = g := congrArg (fun a : Option Addr => (a.getD ⟨0, 0, none⟩).block) h4
        exact HI.out.no8 g cur _ h3 (by omega)
      exact ht.cell (cell_below hc hb) hne
     ·rw [hS]
      have hrow2 := heap_setCell_same _ rb 2 _ _ (.int .i64 ((pos : Int) + (m : Int))) hI.row
      refine ⟨⟨v, bv, ⟨?_, hI.low, hI.bytes.touch ht hI.no8, hI.fault.touch ht hI.noF, by show pos + m ≤ l.length; omega, hI.len⟩⟩, (Turns.of_below hb).trans ht (fun _ _ h => h), by rw [HI.out.cells.2.1, cell_of_row _ _ _ _ _ _ hrow2]; rfl⟩
      rw [hrow2]
      show _ = some (Obj.cells #[.bool true, v, .int .i64 ((pos + m : Nat) : Int), bv] _ _)
      rw [Int.natCast_add]
      rfl
    clear hbad hqb
    go_enter Tryz.func124, Tryz.ntmps124
    go_wp2_with fail
    refine (none_any w H.out).mono ?_
    rintro e w' ⟨rfl, rfl⟩
    go_upto_region 4 with fail
    refine wp_region_grow (by kernel_rfl) (by kernel_rfl) ?_
    repeat (first
     | ((with_reducible refine wpQuietGd ?_); (with_reducible refine wpQuiet_skip ?_ ?_); (· rfl); simp only [Act.put, zA, zB, zC])
     | quiet_step (fail))
    refine wpQuiet_nil ?_
    intro w2 hb2
    have HB2 := Lib.hid hb2
    have hc1' := cell_below hc1 hb2
    have hc2' := cell_below hc2 hb2
    clear hg1 hg2 hb2
    have hg1 := cell_grown hc1'
    have hg2 := cell_grown hc2'
    go_upto_region 9 with fail
    refine wp_region_grow (by kernel_rfl) (by kernel_rfl) ?_
    repeat (first
     | ((with_reducible refine wpQuietGd ?_); (with_reducible refine wpQuiet_skip ?_ ?_); (· rfl); simp only [Act.put, zA, zB, zC])
     | quiet_step (fail))
    refine wpQuiet_nil ?_
    intro w3 hb3
    have HB3 := Lib.hid (HB2.out.trans (hb3.mono HB2.out.size))
    have hc2'' := cell_below hc2' hb3
    have hfz' := (HI.out.below HB3.out).cells.2.2.2.2 2
    have HF := Lib.hid (HFIN.out w3 HB3.out)
    clear hg1 hg2 hb3 hsub hw1 hw2 hsl
    go_wp2_with fail
    go_ret
    exact HF.out
end Go.Proofs.YtnejjfglkindjaaGreatDoor.Rdr
namespace Go.Proofs.YtnejjfglkindjaaGreatDoor.Rdr
open Go.RowKit Go.Mir Go.Mir.Parts
def beN (l : List UInt8) : Nat := l.foldl (fun a b => 256 * a + b.toNat) 0
theorem beN_snoc (l : List UInt8) (b : UInt8) : beN (l ++ [b]) = 256 * beN l + b.toNat := by simp [beN, List.foldl_append]
theorem beN_lt_pow (l : List UInt8) : beN l < 256 ^ l.length := by
 suffices h : ∀ (a : Nat) (l : List UInt8), l.foldl (fun a b => 256 * a + b.toNat) a < (a + 1) * 256 ^ l.length by
  have := h 0 l
  rwa [Nat.zero_add, Nat.one_mul] at this
 intro a l
 induction l generalizing a with
 | nil => simp
 | cons b l ih =>
  have h1 := ih (256 * a + b.toNat)
  have h2 := b.toNat_lt
  have h3 : (256 * a + b.toNat + 1) * 256 ^ l.length ≤ ((a + 1) * 256) * 256 ^ l.length := Nat.mul_le_mul_right _ (by omega)
  rw [List.foldl_cons, List.length_cons, Nat.pow_succ, Nat.mul_comm (256 ^ l.length) 256, ← Nat.mul_assoc]
  omega
theorem beN_lt (l : List UInt8) (h : l.length ≤ 8) : beN l < 18446744073709551616 := by
 have h1 := beN_lt_pow l
 have h2 : 256 ^ l.length ≤ 256 ^ 8 := Nat.pow_le_pow_right (by omega) h
 have h3 : (256 : Nat) ^ 8 = 18446744073709551616 := by decide
 omega
theorem or_byte (x b : Nat) (hb : b < 256) : (256 * x ||| b) = 256 * x + b := by
 have := Nat.two_pow_add_eq_or_of_lt (i := 8) (b := b) (by omega) x
 rw [show (2 : Nat) ^ 8 = 256 from rfl] at this
 exact this.symm
def fitsW (n : Int) : Bool := decide (1 ≤ n) && decide (n ≤ 8)
def RD.numV (s : RD) (n : Int) : Nat := beN (s.takeB n (fitsW n))
def RD.numS (s : RD) (n : Int) : RD := s.takeS n (fitsW n)
theorem takeW_len (s : RD) (n : Int) : (s.takeB n (fitsW n)).length ≤ 8 := by
 unfold RD.takeB
 split
 ·rename_i h
  have h2 := h.2.1
  simp [fitsW] at h2
  rw [List.length_take]
  omega
 ·simp
def NumP (base rb : Nat) (s : RD) (n : Int) (w : World) (e : Ending) (w' : World) : Prop := e = .returned (.int .u64 (s.numV n : Int)) ∧ LeftR base rb (s.numS n) w w'
set_option maxRecDepth 100000 in
set_option maxHeartbeats 1600000 in
theorem num_any {base rb : Nat} {s : RD} (w : World) (h : RAt w base rb s) (n : Int) (hn : -9223372036854775808 ≤ n ∧ n ≤ 9223372036854775807) :
  Calls Tryz.prog 108 #[.pointer (some ⟨rb, 0, none⟩), .int .i64 n] w (NumP base rb s n w) := by
 have HT := Lib.hid (take_any w h n hn (fitsW n))
 have HF : Hid (∀ w', LeftR base rb (s.numS n) w w' → NumP base rb s n w (.returned (.int .u64 (s.numV n : Int))) w') := fun w' hl => ⟨rfl, hl⟩
 have hl8 := takeW_len s n
 clear h
 generalize hfw : fitsW n = fw at *
 have hnumS : s.numS n = s.takeS n fw := by unfold RD.numS; rw [hfw]
 have hnumV : s.numV n = beN (s.takeB n fw) := by unfold RD.numV; rw [hfw]
 rw [hnumS, hnumV] at HF
 generalize hL : s.takeB n fw = L at *
 have HLE := Lib.hid hL
 clear hL hnumS hnumV
 have hmain : ∀ a b : Bool, decide ((1 : Int) ≤ n) = a → decide (n ≤ 8) = b → fw = (a && b) → Calls Tryz.prog 108 #[.pointer (some ⟨rb, 0, none⟩), .int .i64 n] w (NumP base rb s n w) := by
  intro a b ha hb hab
  have HAB := Lib.hid hab
  clear hab
  cases a with
  | true =>
   obtain rfl : fw = b := HAB.out
   go_enter Tryz.func108, Tryz.ntmps108
   go_wp2_with fail
   refine HT.out.mono ?_
   rintro e w1 ⟨p, c, rfl, hbs, hl⟩
   rw [HLE.out] at hbs ⊢
   have HFIN := Lib.hid (HF.out _ hl)
   clear hl
   generalize hLn : L.length = m at *
   have HLN := Lib.hid hLn
   clear hLn
   have hle := hbs.le
   have hmax := hbs.max
   have HBS := Lib.hid hbs
   clear hbs
   go_wp2_with fail
   go_loop [5, 18] (fun x j => ∃ k : Nat, k ≤ m ∧ j = .int .i64 k ∧ x = .int .u64 (beN (L.take k) : Nat)) (fun _ j => m - (intOf j).toNat)
   case atStart => exact ⟨0, by omega, rfl, rfl⟩
   case round =>
    obtain ⟨k, hk, rfl, rfl⟩ := hrel
    have HLN := HLN
    by_cases hlt : k < m
    ·have hd : decide ((k:Int) < m) = true := by simp; omega
     obtain ⟨b', o', rfl⟩ := HBS.out.addr (by omega) (by omega)
     have hc' := HBS.out.byte (j := k) (by rw [HLN.out]; omega)
     have hti := take_snoc L k (by rw [HLN.out]; omega)
     have hyl : L[k]'(by rw [HLN.out]; omega) = L[k]'(by rw [HLN.out]; omega) := rfl
     have hbe := beN_snoc (L.take k) (L[k]'(by rw [HLN.out]; omega))
     rw [← hti] at hbe
     have hb1 := beN_lt (L.take (k + 1)) (by rw [List.length_take, HLN.out]; omega)
     generalize hly : L[k]'(by rw [HLN.out]; omega) = y at *
     clear hly hyl hti
     have hll : y.toNat < 256 := y.toNat_lt
     generalize hB : beN (L.take k) = B at *
     generalize hB2 : beN (L.take (k + 1)) = B2 at *
     have HB2 := Lib.hid hB2
     have HBE := Lib.hid hbe
     have hw : IntKind.u64.wrap ((B : Int) * 256) = ((256 * B : Nat) : Int) := by
      rw [IntKind.wrap_u64]
      omega
     have hor : bits .or .u64 ((256 * B : Nat) : Int) ((y.toNat : Nat) : Int) = (B2 : Int) := by
      rw [u64_or_nat _ _ (by omega) (by omega), or_byte _ _ hll, hbe]
     have HOR := Lib.hid hor
     have HW := Lib.hid hw
     clear hB hB2 hbe hor hw
     go_wp2_with fail
     go_round
     case rel =>
      exact ⟨k + 1, by omega, by go_num, by rw [HW.out, HOR.out, HB2.out]⟩
     case measure => simp [intOf]; omega
    ·obtain rfl : k = m := by omega
     rw [← HLN.out, List.take_length]
     go_wp2_with fail
     go_ret
     exact HFIN.out
  | false =>
   obtain rfl : fw = false := HAB.out
   clear hb
   go_enter Tryz.func108, Tryz.ntmps108
   go_wp2_with fail
   refine HT.out.mono ?_
   rintro e w1 ⟨p, c, rfl, hbs, hl⟩
   rw [HLE.out] at hbs ⊢
   have HFIN := Lib.hid (HF.out _ hl)
   clear hl
   generalize hLn : L.length = m at *
   have HLN := Lib.hid hLn
   clear hLn
   have hle := hbs.le
   have hmax := hbs.max
   have HBS := Lib.hid hbs
   clear hbs
   go_wp2_with fail
   go_loop [5, 18] (fun x j => ∃ k : Nat, k ≤ m ∧ j = .int .i64 k ∧ x = .int .u64 (beN (L.take k) : Nat)) (fun _ j => m - (intOf j).toNat)
   case atStart => exact ⟨0, by omega, rfl, rfl⟩
   case round =>
    obtain ⟨k, hk, rfl, rfl⟩ := hrel
    have HLN := HLN
    by_cases hlt : k < m
    ·have hd : decide ((k:Int) < m) = true := by simp; omega
     obtain ⟨b', o', rfl⟩ := HBS.out.addr (by omega) (by omega)
     have hc' := HBS.out.byte (j := k) (by rw [HLN.out]; omega)
     have hti := take_snoc L k (by rw [HLN.out]; omega)
     have hyl : L[k]'(by rw [HLN.out]; omega) = L[k]'(by rw [HLN.out]; omega) := rfl
     have hbe := beN_snoc (L.take k) (L[k]'(by rw [HLN.out]; omega))
     rw [← hti] at hbe
     have hb1 := beN_lt (L.take (k + 1)) (by rw [List.length_take, HLN.out]; omega)
     generalize hly : L[k]'(by rw [HLN.out]; omega) = y at *
     clear hly hyl hti
     have hll : y.toNat < 256 := y.toNat_lt
     generalize hB : beN (L.take k) = B at *
     generalize hB2 : beN (L.take (k + 1)) = B2 at *
     have HB2 := Lib.hid hB2
     have HBE := Lib.hid hbe
     have hw : IntKind.u64.wrap ((B : Int) * 256) = ((256 * B : Nat) : Int) := by
      rw [IntKind.wrap_u64]
      omega
     have hor : bits .or .u64 ((256 * B : Nat) : Int) ((y.toNat : Nat) : Int) = (B2 : Int) := by
      rw [u64_or_nat _ _ (by omega) (by omega), or_byte _ _ hll, hbe]
     have HOR := Lib.hid hor
     have HW := Lib.hid hw
     clear hB hB2 hbe hor hw
     go_wp2_with fail
     go_round
     case rel =>
      exact ⟨k + 1, by omega, by go_num, by rw [HW.out, HOR.out, HB2.out]⟩
     case measure => simp [intOf]; omega
    ·obtain rfl : k = m := by omega
     rw [← HLN.out, List.take_length]
     go_wp2_with fail
     go_ret
     exact HFIN.out
 exact hmain _ _ rfl rfl (by rw [← hfw]; rfl)
def BytesP (base rb : Nat) (s : RD) (n : Int) (w : World) (e : Ending) (w' : World) : Prop :=
 ∃ p c, e = .returned (.slice p (s.takeB n true).length c) ∧ w'.ownsRow w.heap.size 5 1 (.slice p (s.takeB n true).length c) (s.takeB n true).length (bytesV (s.takeB n true)) ∧ LeftR base rb (s.takeS n true) w w'
set_option maxRecDepth 100000 in
theorem bytes_any {base rb : Nat} {s : RD} (w : World) (h : RAt w base rb s) (n : Int) (hn : -9223372036854775808 ≤ n ∧ n ≤ 9223372036854775807) :
  Calls Tryz.prog 110 #[.pointer (some ⟨rb, 0, none⟩), .int .i64 n] w (BytesP base rb s n w) := by
 have HT := Lib.hid (take_any w h n hn true)
 have hl47 : (s.takeB n true).length ≤ 140737488355328 := by
  obtain ⟨v, bv, h⟩ := h
  have h1 := h.len
  unfold RD.takeB
  split
  ·rw [List.length_take, List.length_drop]; omega
  ·simp
 clear h
 go_enter Tryz.func110, Tryz.ntmps110
 go_wp2_with fail
 refine HT.out.mono ?_
 rintro e w1 ⟨p, c, rfl, hbs, hl⟩
 have HL := Lib.hid hl
 clear hl
 have HF : Hid (∀ p' c' w', w'.ownsRow w1.heap.size 5 1 (.slice p' (s.takeB n true).length c') (s.takeB n true).length (bytesV (s.takeB n true)) → Below w1.heap.size w1 w' → BytesP base rb s n w (.returned (.slice p' (s.takeB n true).length c')) w') := fun p' c' w' ho hb =>
  ⟨p', c', rfl, own_base ho (fun k hk => Nat.le_trans HL.out.2.size (by
   rcases ho.2 with ⟨h1, _⟩ | ⟨g, cap, cur, h1, h2, _⟩
   ·rw [h1] at hk; cases hk
   ·rw [h1] at hk; simp [Value.ownBlock] at hk; omega)), HL.out.trans (LeftR.same HL.out.1 hb)⟩
 generalize s.takeB n true = L at *
 generalize hm : L.length = m at *
 clear hm
 have hle := hbs.le
 have hmax := hbs.max
 have HBS := Lib.hid hbs
 clear hbs
 go_wp2_with (refine wpList_append_nx rfl _ _ 22 rfl (base := w1.heap.size) Tryz.underlying22 info8 rfl (by omega) rfl (World.ownsRow_nil _ _ _ _) rfl HBS.out (bytesV_one _) ⟨by omega, by omega⟩ (Nat.le_refl _) ?_)
 intro p9 c9 w9 ho9 hg9 _ _
 have HX := Lib.hid (HF.out p9 c9 w9 (by simpa using ho9) ((Below.refl _ _).grown hg9 (Nat.le_refl _) (fun k hk => by simp [Value.ownBlock] at hk)))
 clear ho9 hg9
 go_wp2_with fail
 go_ret
 exact HX.out
theorem numV_lt (s : RD) (n : Int) : s.numV n < 18446744073709551616 := beN_lt _ (takeW_len s n)
theorem RAt.cells {w : World} {base rb : Nat} {s : RD} (h : RAt w base rb s) : ∃ bv, w.cell? ⟨rb, 3, none⟩ = some bv ∧ FaultAt w base s.bad bv := by
 obtain ⟨v, bv, h⟩ := h
 exact ⟨bv, h.cells.2.2.2.1, h.fault⟩
end Go.Proofs.YtnejjfglkindjaaGreatDoor.Rdr
namespace Go.Mir
open Go.RowKit
section
variable {P : Program} {ops : Array Oper} {S : World → Prop} {Q : Exit → Act → World → Prop} {marks : List Nat}
def waitsB (ops : Array Oper) : Nat → Nat → Nat → Bool
 | 0, _, _ => false
 | n + 1, j, i => match ops[j]? with
  | some o => o.after.any fun e => Region.binds .any e && (e.on == i || waitsB ops n e.on i)
  | none => false
def lateB (ops : Array Oper) (marks : List Nat) (j : Nat) : Bool := marks.all fun i => waitsB ops 16 j i
def closedL (ops : Array Oper) (listed : Array Bool) : Prop := ∀ (j : Nat) (o : Oper), ops[j]? = some o → listed.getD j false = true → ∀ e ∈ o.after, Region.binds .any e = true → listed.getD e.on false = true
theorem waits_listed {listed : Array Bool} (hc : closedL ops listed) {i : Nat} : ∀ (n j : Nat) (o : Oper), ops[j]? = some o → (∀ e ∈ o.after, Region.binds .any e = true → listed.getD e.on false = true) → waitsB ops n j i = true → listed.getD i false = true
 | 0, _, _, _, _, h => by cases h
 | n + 1, j, o, ho, hall, h => by
  simp only [waitsB, ho] at h
  rw [Array.any_eq_true] at h
  obtain ⟨k, hk, h4⟩ := h
  simp only [Bool.and_eq_true, Bool.or_eq_true, beq_iff_eq] at h4
  have hl := hall _ (Array.getElem_mem hk) h4.1
  rcases h4.2 with h5 | h5
  ·rw [h5] at hl; exact hl
  ·cases ho2 : ops[o.after[k].on]? with
   | none => cases n with
    | zero => cases h5
    | succ m => simp [waitsB, ho2] at h5
   | some o2 => exact waits_listed hc n _ o2 ho2 (hc _ o2 ho2 hl) h5
theorem closedL.set {listed : Array Bool} (hc : closedL ops listed) {j : Nat} (hj : j ∈ Region.ready .any ops listed) : closedL ops (listed.setIfInBounds j true) := fun k o ho hk e he hb => by
 obtain ⟨_, oj, hoj, hall⟩ := mem_ready.1 hj
 by_cases hjk : j = k
 ·subst hjk
  rw [hoj] at ho
  cases ho
  exact getD_set_true (hall e he hb)
 ·rw [getD_set_ne false hjk] at hk
  exact getD_set_true (hc k o ho hk e he hb)
def wpAnyG (P : Program) (ops : Array Oper) (Q : Exit → Act → World → Prop) (S : World → Prop) (marks : List Nat) : Nat → Array Bool → Act → World → Prop
 | 0, listed, a, w => Region.ready .any ops listed = [] ∧ Q .normal a w
 | n + 1, listed, a, w => (Region.ready .any ops listed = [] → Q .normal a w) ∧
  ∀ i ∈ Region.ready .any ops listed, wpOp P ops Q i (fun a' w' => (lateB ops marks i = false → S w') ∧ wpAnyG P ops Q S marks n (listed.setIfInBounds i true) a' w') a w
theorem wpAny_of_G : ∀ (n : Nat) (listed : Array Bool) (a : Act) (w : World), wpAnyG P ops Q S marks n listed a w → wpAny P .any ops Q n listed a w
 | 0, _, _, _, h => h
 | n + 1, _, _, _, h => ⟨h.1, fun i hi => wpOp_mono (fun a' w' h' => wpAny_of_G n _ a' w' h'.2) (h.2 i hi)⟩
theorem wpAnyG_take {i : Nat} {oi : Oper} {v : Value} (hi : ops[i]? = some oi) (hmk : i ∈ marks) (hsel : ∀ (j : Nat) (o : Oper) cs b, ops[j]? = some o → o.op ≠ .select cs b)
  (hQ : ∀ c a w, Q (.panic c) (a.put oi.dst v) w → Q (.panic c) a w) :
  ∀ (n : Nat) (listed : Array Bool) (a : Act) (w : World),
   (∀ j oj, ops[j]? = some oj → j ≠ i → listed.getD j true = false → (∀ e ∈ oj.after, Region.binds .any e = true → e.on ≠ i) → oi.apart ops oj = true) →
   i ∈ Region.ready .any ops listed → closedL ops listed → YieldsIf P ops S oi v a → S w →
   wpAnyG P ops Q S marks n (listed.setIfInBounds i true) (a.put oi.dst v) w → wpAnyG P ops Q S marks (n + 1) listed a w := by
 intro n
 induction n with
 | zero =>
  intro listed a w _ hr hcl hy hS H
  refine ⟨fun h => absurd (h ▸ hr) List.not_mem_nil, fun j hj => ?_⟩
  by_cases hji : j = i
  ·subst hji; exact hy.wpOp hi hS ⟨fun _ => hS, H⟩
  ·exact absurd (H.1 ▸ ready_mono hj hji) List.not_mem_nil
 | succ n ih =>
  intro listed a w hfree hr hcl hy hS H
  refine ⟨fun h => absurd (h ▸ hr) List.not_mem_nil, fun j hj => ?_⟩
  by_cases hji : j = i
  ·subst hji; exact hy.wpOp hi hS ⟨fun _ => hS, H⟩
  obtain ⟨hjun, oj, hoj, hall⟩ := mem_ready.1 hj
  have hiun := (mem_ready.1 hr).1
  have hno : ∀ e ∈ oj.after, Region.binds .any e = true → e.on ≠ i := fun e he hb heq => by
   have h1 := hall e he hb
   rw [heq] at h1
   rcases Nat.lt_or_ge i listed.size with h' | h'
   ·simp [h'] at hiun h1; rw [hiun] at h1; cases h1
   ·simp [Array.getElem?_eq_none h'] at h1
  have hlate : lateB ops marks j = false := by
   cases hl : lateB ops marks j with
   | false => rfl
   | true =>
    simp only [lateB, List.all_eq_true] at hl
    have h3 := waits_listed hcl 16 j oj hoj hall (hl i hmk)
    rcases Nat.lt_or_ge i listed.size with h' | h'
    ·simp [h'] at hiun h3; rw [hiun] at h3; cases h3
    ·simp [Array.getElem?_eq_none h'] at h3
  have h2 := wpOp_putIf hoj (hfree j oj hoj hji hjun hno) (fun cs b => hsel i oi cs b hi) (fun cs b => hsel j oj cs b hoj) hQ hy (H.2 j (ready_mono hj hji))
  refine wpOp_mono (fun a' w' h3 => ⟨h3.2.1, ih (listed.setIfInBounds j true) a' w' ?_ (ready_mono hr (Ne.symm hji)) (hcl.set hj) h3.1 (h3.2.1 hlate) ?_⟩) h2
  ·intro k ok hk hki hun hn'
   refine hfree k ok hk hki ?_ hn'
   by_cases hjk : j = k
   ·subst hjk; exact hjun
   ·rw [getD_set_ne true hjk] at hun; exact hun
  ·rw [Array.setIfInBounds_comm _ _ hji]
   exact h3.2.2
def planT (ops : Array Oper) (marks : List Nat) : List Nat → Array Bool → Bool
 | j :: t, l => (ops[j]?).isSome && Region.ready .any ops l == [j] && lateB ops marks j && planT ops marks t (l.setIfInBounds j true)
 | [], l => (Region.ready .any ops l).isEmpty
def planG (ops : Array Oper) (marks : List Nat) (t : List Nat) : List (Nat × Bool) → Array Bool → Bool
 | (i, true) :: r, l => (ops[i]?).isSome && marks.contains i && Region.free .any ops l i && (Region.ready .any ops l).contains i && planG ops marks t r (l.setIfInBounds i true)
 | (i, false) :: r, l => (ops[i]?).isSome && Region.ready .any ops l == [i] && planG ops marks t r (l.setIfInBounds i true)
 | [], l => planT ops marks t l
def tailOps (l : List Oper) : List Nat → List Oper
 | [] => []
 | j :: t => match nthO l j with
  | some o => o :: tailOps l t
  | none => tailOps l t
def wpEagerT (P : Program) (ops : Array Oper) (S : World → Prop) (Q : Exit → Act → World → Prop) (T : List Oper) : List (Oper × Bool) → Act → World → Prop
 | [], a, w => wpList P ops Q T a w
 | (o, true) :: r, a, w => ∃ v, YieldsIf P ops S o v a ∧ wpEagerT P ops S Q T r (a.put o.dst v) w
 | (o, false) :: r, a, w => if Region.wanted o (yielded ops a.tmps) then o.wp P a w (fun a' w' => S w' ∧ wpEagerT P ops S Q T r a' w') Q else wpEagerT P ops S Q T r (a.put o.dst undef) w
theorem wpAnyG_late {l : List Oper} (hl : l.toArray = ops) (hs : Region.noSelect ops = true) : ∀ (t : List Nat) (listed : Array Bool) (a : Act) (w : World), planT ops marks t listed = true → wpList P ops Q (tailOps l t) a w → wpAnyG P ops Q S marks t.length listed a w
 | [], listed, a, w, hp, h => by
  simp only [planT, List.isEmpty_iff] at hp
  exact ⟨hp, h⟩
 | j :: t, listed, a, w, hp, h => by
  simp only [planT, Bool.and_eq_true, beq_iff_eq] at hp
  obtain ⟨⟨⟨h1, h2⟩, h3⟩, h4⟩ := hp
  obtain ⟨o, ho⟩ := Option.isSome_iff_exists.1 h1
  have hn : nthO l j = some o := by rw [← nthO_eq, hl]; exact ho
  simp only [tailOps, hn] at h
  refine ⟨fun e => (by rw [h2] at e; cases e), fun i hi => ?_⟩
  rw [h2, List.mem_singleton] at hi
  subst hi
  unfold wpOp
  simp only [ho]
  unfold wpList at h
  split at h
  ·rename_i hw
   rw [if_pos hw]
   exact h.imp (fun h => Oper.wp_mono (fun a' w' h5 => ⟨fun e => (by rw [h3] at e; cases e), wpAnyG_late hl hs t _ _ _ h4 h5⟩) h) id
  ·rename_i hw
   rw [if_neg hw]
   exact ⟨fun e => (by rw [h3] at e; cases e), wpAnyG_late hl hs t _ _ _ h4 h⟩
theorem wpAnyG_plan {l : List Oper} (hl : l.toArray = ops) (hs : Region.noSelect ops = true) (hQ : ∀ c a d v w, Q (.panic c) (a.put d v) w → Q (.panic c) a w) (t : List Nat) :
  ∀ (π : List (Nat × Bool)) (listed : Array Bool) (a : Act) (w : World), planG ops marks t π listed = true → closedL ops listed → S w → wpEagerT P ops S Q (tailOps l t) (planOps l π) a w → wpAnyG P ops Q S marks (π.length + t.length) listed a w
 | [], listed, a, w, hp, _, _, h => by
  rw [List.length_nil, Nat.zero_add]
  exact wpAnyG_late hl hs t _ _ _ hp h
 | (i, true) :: r, listed, a, w, hp, hcl, hS, h => by
  simp only [planG, Bool.and_eq_true] at hp
  obtain ⟨⟨⟨⟨h1, hmk⟩, h2⟩, h3⟩, h4⟩ := hp
  obtain ⟨o, ho⟩ := Option.isSome_iff_exists.1 h1
  have hn : nthO l i = some o := by rw [← nthO_eq, hl]; exact ho
  simp only [planOps, hn, wpEagerT] at h
  obtain ⟨v, hy, h⟩ := h
  rw [List.length_cons, Nat.add_right_comm]
  exact wpAnyG_take ho (by simpa using hmk) (Region.noSelect_spec hs) (fun c a w => hQ c a _ _ w) _ _ _ _ (Region.free_spec ho h2) (by simpa using h3) hcl hy hS (wpAnyG_plan hl hs hQ t r _ _ _ h4 (hcl.set (by simpa using h3)) hS h)
 | (i, false) :: r, listed, a, w, hp, hcl, hS, h => by
  simp only [planG, Bool.and_eq_true, beq_iff_eq] at hp
  obtain ⟨⟨h1, h2⟩, h4⟩ := hp
  obtain ⟨o, ho⟩ := Option.isSome_iff_exists.1 h1
  have hn : nthO l i = some o := by rw [← nthO_eq, hl]; exact ho
  simp only [planOps, hn, wpEagerT] at h
  rw [List.length_cons, Nat.add_right_comm]
  refine ⟨fun e => (by rw [h2] at e; cases e), fun j hj => ?_⟩
  rw [h2, List.mem_singleton] at hj
  subst hj
  unfold wpOp
  simp only [ho]
  split at h
  ·rename_i hw
   rw [if_pos hw]
   exact .inl (Oper.wp_mono (fun a' w' ⟨h5, h6⟩ => ⟨fun _ => h5, wpAnyG_plan hl hs hQ t r _ _ _ h4 (hcl.set (by rw [h2]; exact List.mem_singleton.2 rfl)) h5 h6⟩) h)
  ·rename_i hw
   rw [if_neg hw]
   exact ⟨fun _ => hS, wpAnyG_plan hl hs hQ t r _ _ _ h4 (hcl.set (by rw [h2]; exact List.mem_singleton.2 rfl)) hS h⟩
theorem wp_region_eager_t {id : Nat} {a : Act} {w : World} {l : List Oper} (S : World → Prop) (marks : List Nat) (π : List (Nat × Bool)) (t : List Nat) (hm : P.follows .mixedOrders = true)
  (hp : (planG l.toArray marks t π (Array.replicate l.length false) && Region.noSelect l.toArray && π.length + t.length == l.length) = true) (hS : S w.drew)
  (h : wpEagerT P l.toArray S (NoPanic Q) (tailOps l t) (planOps l π) a w.drew) : (Code.region id l.toArray true).wp P Q a w := by
 refine wp_region_noPanic ?_
 simp only [Bool.and_eq_true, beq_iff_eq] at hp
 obtain ⟨⟨h1, h2⟩, h3⟩ := hp
 have := wpAny_of_G _ _ _ _ (wpAnyG_plan (P := P) (Q := NoPanic Q) (S := S) (marks := marks) (l := l) rfl h2 (fun _ _ _ _ _ h => h) t π (Array.replicate l.length false) a w.drew h1 (fun j o _ hj => by rw [Array.getD_eq_getD_getElem?, Array.getElem?_replicate] at hj; split at hj <;> cases hj) hS h)
 refine wp_region_any hm ?_
 rw [h3] at this
 have hz : l.toArray.size = l.length := List.size_toArray ..
 rw [hz]
 exact this
theorem eagerTOpen {l : List Oper} {T : List Oper} {i : Nat} {b : Bool} {r : List (Nat × Bool)} {a : Act} {w : World} {o : Oper} (ho : nthO l i = some o)
  (h : wpEagerT P ops S Q T ((o, b) :: planOps l r) a w) : wpEagerT P ops S Q T (planOps l ((i, b) :: r)) a w := by
 unfold planOps; rw [ho]; exact h
theorem eagerTEnd {l : List Oper} {T : List Oper} {a : Act} {w : World} (h : wpList P ops Q T a w) : wpEagerT P ops S Q T (planOps l []) a w := h
theorem tail1 {l : List Oper} {j : Nat} {a : Act} {w : World} {o : Oper} (ho : nthO l j = some o) (h : wpList P ops Q [o] a w) : wpList P ops Q (tailOps l [j]) a w := by
 simp only [tailOps, ho]; exact h
theorem tail2 {l : List Oper} {j k : Nat} {a : Act} {w : World} {o o' : Oper} (ho : nthO l j = some o) (ho' : nthO l k = some o') (h : wpList P ops Q [o, o'] a w) : wpList P ops Q (tailOps l [j, k]) a w := by
 simp only [tailOps, ho, ho']; exact h
theorem wpEagerT_take {T : List Oper} {o : Oper} {r : List (Oper × Bool)} {a : Act} {w : World} {v : Value} (hw : Region.wanted o (yielded ops a.tmps) = true)
  (hy : ∀ w', S w' → (execOp a.eval o).run P w' = .ok (.value v) w') (h : wpEagerT P ops S Q T r (a.put o.dst v) w) : wpEagerT P ops S Q T ((o, true) :: r) a w := ⟨v, .inl ⟨hw, hy⟩, h⟩
theorem wpEagerT_skip {T : List Oper} {o : Oper} {r : List (Oper × Bool)} {a : Act} {w : World} (hw : Region.wanted o (yielded ops a.tmps) = false)
  (h : wpEagerT P ops S Q T r (a.put o.dst undef) w) : wpEagerT P ops S Q T ((o, true) :: r) a w := ⟨undef, .inr ⟨hw, rfl⟩, h⟩
theorem wpEagerT_load {T : List Oper} {op : Oper} {r : List (Oper × Bool)} {a : Act} {w : World} (hw : Region.wanted op (yielded ops a.tmps) = true) (ty : TypeId) (x : Operand) (ho : op.op = .load ty x)
  (b o : Nat) (hx : a.eval x = .pointer (some ⟨b, o, none⟩)) (M : Array Value) (d : TypeDesc) (hc : ∀ w', S w' → w'.rangeAt b o M.toList)
  (hu : P.underlying ty = some d) (hd : d.isRow = true) (hi : (P.info? ty).map (·.size) = some M.size)
  (h : wpEagerT P ops S Q T r (a.put op.dst (.agg M)) w) : wpEagerT P ops S Q T ((op, true) :: r) a w := by
 refine wpEagerT_take hw (fun w' hb => ?_) h
 unfold execOp
 simp only [ho, hx, Instr.loadAt, Instr.sureAddr, Sem.run_bind, Sem.run_pure, Result.andThen_ok, run_loadVar_mid w' b o ty M.toList d (hc w' hb) hu hd (by simpa using hi)]
theorem wpEagerT_op {T : List Oper} {o : Oper} {r : List (Oper × Bool)} {a : Act} {w : World} (hw : Region.wanted o (yielded ops a.tmps) = true)
  (h : ∀ K : Act → World → Prop, Shut (∀ a w, S w → wpEagerT P ops S Q T r a w → K a w) → Oper.wp P o a w K Q) : wpEagerT P ops S Q T ((o, false) :: r) a w := by
 unfold wpEagerT; rw [if_pos hw]; exact h _ fun _ _ h1 h2 => ⟨h1, h2⟩
theorem eagerTLoadAt {T : List Oper} {r : List (Oper × Bool)} {a : Act} {w : World} (n : Nat) {d : Option Nat} {ty : TypeId} {t : TypeId} {p : String} {af : Array Edge} {g : Option (Nat × Bool)} {b : Bool}
  (h : wpEagerT P ops S Q T ((⟨d, .load ty (.tmp n), t, p, af, g⟩, b) :: r) a w) : wpEagerT P ops S Q T ((⟨d, .load ty (.tmp n), t, p, af, g⟩, b) :: r) a w := h
end
def OnlyQ (K : Act → World → Prop) (Q : Exit → Act → World → Prop) : Exit → Act → World → Prop
 | .normal, a, w => K a w
 | .panic c, a, w => Q (.panic c) a w
 | _, _, _ => False
theorem oper_of_list {P : Program} {o : Oper} {a : Act} {w : World} {K : Act → World → Prop} {Q : Exit → Act → World → Prop} (hg : o.guard = none)
  (h : wpList P #[] (OnlyQ K Q) [o] a w) : Oper.wp P o a w K Q := by
 have hno : ¬ LetsOut (OnlyQ K Q) := fun ⟨_, _, h⟩ => h
 unfold wpList at h
 rw [if_pos (by simp [Region.wanted, hg])] at h
 rcases h with h | ⟨_, h⟩
 ·replace h : Oper.wp P o a w K (OnlyQ K Q) := h
  unfold Oper.wp at h ⊢
  unfold Oper.upon at h ⊢
  split at h
  ·exact h
  ·exact h
  ·exact h
  ·refine Calls.mono h ?_
   intro e w' he
   cases e with
   | returned v => exact he
   | panicked c => exact he
   | outgrown => exact absurd he hno
  ·exact h
  ·exact h
  ·exact h.elim
 ·exact absurd h hno
theorem only_end {P : Program} {ops : Array Oper} {K : Act → World → Prop} {Q : Exit → Act → World → Prop} {a : Act} {w : World} (h : K a w) : wpList P ops (OnlyQ K Q) [] a w := h
theorem noPanic_end {Q : Exit → Act → World → Prop} {a : Act} {w : World} (h : Q .normal a w) : NoPanic Q .normal a w := h
end Go.Mir
namespace Go.Proofs.YtnejjfglkindjaaGreatDoor.Rdr
open Go.RowKit Go.Mir Go.Mir.Parts
theorem RAt.touch {S : Nat → Prop} {w w' : World} {base rb : Nat} {s : RD} (h : RAt w base rb s) (ht : Turns S w w') (hS : ∀ k M t fr, w.heap[k]? = some (.cells M t fr) → (t = 5 ∨ t = 219 ∨ t = 212) → ¬ S k) : RAt w' base rb s := by
 obtain ⟨v, bv, h⟩ := h
 exact ⟨v, bv, ht.keep h.row (hS _ _ _ _ h.row (.inr (.inr rfl))), h.low, h.bytes.touch ht (fun k M fr hk => hS k M _ fr hk (.inl rfl)), h.fault.touch ht (fun k M fr hk => hS k M _ fr hk (.inr (.inl rfl))), h.at1, h.len⟩
end Go.Proofs.YtnejjfglkindjaaGreatDoor.Rdr
namespace Go.Proofs.YtnejjfglkindjaaGreatDoor.Rdr
open Go.RowKit Go.Mir Go.Mir.Parts
end Go.Proofs.YtnejjfglkindjaaGreatDoor.Rdr
namespace Go.Proofs.YtnejjfglkindjaaGreatDoor.Er
open Go.RowKit Go.Mir Go.Extern.Stop Go.Stop Go.Extern
theorem run_equalIn_iface_int {P : Program} (w : World) (d : Nat) {ti tn : TypeId} {ms : Array (String × TypeId)} {i : TypeInfo} {k : IntKind} (a b : Int)
  (hi : P.underlying ti = some (.interface ms)) (hn : P.underlying tn = some (.int k)) (hinfo : P.info? tn = some i) (hcomp : i.comparable = true) :
  (Op.equalIn (d + 2) ti (.iface tn (.int k a)) (.iface tn (.int k b))).run P w = .ok (a == b) w := by
 simp [Op.equalIn, run_underlying hi, run_underlying hn, typeInfo, hinfo, hcomp]
theorem run_eql_iface_int {P : Program} (w : World) {ti tn : TypeId} {ms : Array (String × TypeId)} {i : TypeInfo} {k : IntKind} (a b : Int)
  (hi : P.underlying ti = some (.interface ms)) (hn : P.underlying tn = some (.int k)) (hinfo : P.info? tn = some i) (hcomp : i.comparable = true) :
  (binOp .eql ti (.iface tn (.int k a)) (.iface tn (.int k b))).run P w = .ok (.bool (a == b)) w := by
 simp only [binOp]
 simp [Op.equal, Op.maxDepth, run_equalIn_iface_int w 9998 a b hi hn hinfo hcomp]
theorem isTypeOf (v : Value) (w : World) : (Extern.ReflectliteType.typeOf #[.iface 25 v]).run Tryz.prog w = .ok (.iface 187 (.agg #[.pointer (some ⟨1, 25, none⟩)])) w := by kernel_rfl
def compF : Array Value → Sem Value := Extern.ReflectliteType.method fun t => do Rtype.noPackHeld "Comparable" t; pure (.bool (← typeInfo t).comparable)
theorem isComparable (w : World) : (compF #[.agg #[.pointer (some ⟨1, 25, none⟩)]]).run Tryz.prog w = .ok (.bool true) w := by kernel_rfl
theorem isMethodComparable (v : Value) (w : World) : (Go.method 355 187 v "Comparable").run Tryz.prog w = .ok (166, v) w := by kernel_rfl
theorem isComp : (Tryz.prog.info? 25).map (·.comparable) = some true := by kernel_rfl
theorem noIsF (v : Value) (xT : TypeId) (w : World) : (Instr.typeAssert (.iface 216 v) xT 198 true).run Tryz.prog w = .ok (.tuple #[.nilIface, .bool false]) w := run_typeAssert_lacksB Tryz.underlying198 (by kernel_rfl) (by kernel_rfl) v xT w
theorem hasUnwrapF (v : Value) (xT : TypeId) (w : World) : (Instr.typeAssert (.iface 216 v) xT 194 true).run Tryz.prog w = .ok (.tuple #[.iface 216 v, .bool true]) w := run_typeAssert_hasB Tryz.underlying194 (by kernel_rfl) v xT w
theorem noIsE (v : Value) (xT : TypeId) (w : World) : (Instr.typeAssert (.iface 25 v) xT 198 true).run Tryz.prog w = .ok (.tuple #[.nilIface, .bool false]) w := run_typeAssert_lacksB Tryz.underlying198 (by kernel_rfl) (by kernel_rfl) v xT w
theorem noUnwrapE (v : Value) (xT : TypeId) (w : World) : (Instr.typeAssert (.iface 25 v) xT 194 true).run Tryz.prog w = .ok (.tuple #[.nilIface, .bool false]) w := run_typeAssert_lacksB Tryz.underlying194 (by kernel_rfl) (by kernel_rfl) v xT w
theorem noUnwrapsE (v : Value) (xT : TypeId) (w : World) : (Instr.typeAssert (.iface 25 v) xT 195 true).run Tryz.prog w = .ok (.tuple #[.nilIface, .bool false]) w := run_typeAssert_lacksB Tryz.underlying195 (by kernel_rfl) (by kernel_rfl) v xT w
theorem methodUnwrap (v : Value) (w : World) : (Go.method 355 216 v "Unwrap").run Tryz.prog w = .ok (176, v) w := by kernel_rfl
theorem is_nil (z : Int) (w : World) : Calls Tryz.prog 37 #[.nilIface, .iface 25 (.int .i64 z)] w fun e w' => e = .returned (.bool false) ∧ w = w' := by
 have hn := run_eql_iface_nil_left (P := Tryz.prog) w 25 (.int .i64 z) Tryz.underlying92
 go_enter Tryz.func37, Tryz.ntmps37
 go_wp2
 go_ret
 exact ⟨rfl, rfl⟩
theorem is_fault (fb : Nat) (e z : Int) (w : World) (hc : w.cell? ⟨fb, 1, none⟩ = some (.int .i64 e)) :
  Calls Tryz.prog 37 #[.iface 216 (.pointer (some ⟨fb, 0, none⟩)), .iface 25 (.int .i64 z)] w fun ev w' => ev = .returned (.bool (e == z)) ∧ w = w' := by
 obtain ⟨i, hi, hcmp⟩ := Option.map_eq_some_iff.1 isComp
 have h8 := @run_callFunc_extern Tryz.prog 75 _ Extern.ReflectliteType.typeOf Tryz.func75 (by kernel_rfl) (by kernel_rfl) (by kernel_rfl) (by kernel_rfl)
 have h32 := @run_callFunc_extern Tryz.prog 166 _ compF Tryz.func166 (by kernel_rfl) (by kernel_rfl) (by kernel_rfl) (by kernel_rfl)
 have tT := isTypeOf
 have cT := isComparable
 have mR := isMethodComparable
 have nF := noIsF
 have uF := hasUnwrapF
 have nE := noIsE
 have uE := noUnwrapE
 have vE := noUnwrapsE
 have mU := methodUnwrap
 have heq := run_eql_iface_int (P := Tryz.prog) w e z Tryz.underlying92 Tryz.underlying25 hi hcmp
 have hty := run_eql_iface_types (P := Tryz.prog) 216 25 (.pointer (some ⟨fb, 0, none⟩)) (.int .i64 z) Tryz.underlying92 (by decide) w
 cases hez : e == z with
 | true =>
  rw [hez] at heq
  clear hez
  go_enter Tryz.func37, Tryz.ntmps37
  go_wp2
  refine wp_loop_rounds 2 ?_
  rw [rounds_succ]
  go_wp2
  rw [rounds_succ]
  go_wp2
  go_ret
  exact ⟨rfl, rfl⟩
 | false =>
  rw [hez] at heq
  clear hez
  go_enter Tryz.func37, Tryz.ntmps37
  go_wp2
  refine wp_loop_rounds 2 ?_
  rw [rounds_succ]
  go_wp2
  rw [rounds_succ]
  go_wp2
  go_ret
  exact ⟨rfl, rfl⟩
theorem as_nil (t : Value) (w : World) : Calls Tryz.prog 36 #[.nilIface, t] w fun e w' => e = .returned (.bool false) ∧ w = w' := by
 go_enter Tryz.func36, Tryz.ntmps36
 go_wp2
 go_ret
 exact ⟨rfl, rfl⟩
theorem valueOf27 (t : Addr) (w : World) : (ReflectliteValue.unpack (.iface 217 (.pointer (some t)))).run Tryz.prog w
  = .ok (.agg #[.pointer (some ⟨1, 217, none⟩), .pointer (some ⟨w.heap.size, 0, none⟩), .int .u64 150]) (w.alloc (.cells #[.pointer (some t)] 217)) := by kernel_rfl
theorem type27 (a : Addr) (w : World) : (ReflectliteValue.methodAny (ReflectliteValue.valueError "reflectlite.Value.Type" 0) (fun t _ _ _ => ReflectliteType.toType t) #[.agg #[.pointer (some ⟨1, 217, none⟩), .pointer (some a), .int .u64 150]]).run Tryz.prog w
  = .ok (.iface 187 (.agg #[.pointer (some ⟨1, 217, none⟩)])) w := by kernel_rfl
theorem methodKind (h : Value) (w : World) : (Go.method 355 187 (.agg #[h]) "Kind").run Tryz.prog w = .ok (148, h) w := by kernel_rfl
theorem kind27 (w : World) : ((ReflectliteType.abiMethod fun t => (fun a : Nat => Value.int IntKind.u8 (a : Int)) <$> Rtype.kind t) #[.pointer (some ⟨1, 217, none⟩)]).run Tryz.prog w = .ok (.int .u8 22) w := by kernel_rfl
theorem kind25 (w : World) : ((ReflectliteType.abiMethod fun t => (fun a : Nat => Value.int IntKind.u8 (a : Int)) <$> Rtype.kind t) #[.pointer (some ⟨1, 216, none⟩)]).run Tryz.prog w = .ok (.int .u8 22) w := by kernel_rfl
theorem rlm (z : Sem Value) (f : TypeId → Addr → Nat → Nat → Sem Value) (v : Value) :
  ReflectliteValue.method z f #[v] = (do match ← ReflectliteValue.parts v with | none => z | some (t, a, fl) => f t a fl (fl % 32)) := rfl
theorem parts27 (a : Addr) (w : World) : (ReflectliteValue.parts (.agg #[.pointer (some ⟨1, 217, none⟩), .pointer (some a), .int .u64 150])).run Tryz.prog w = .ok (some (217, a, 150)) w := by kernel_rfl
theorem isNil27 (a p : Addr) (W : World) (ha : W.cell? a = some (.pointer (some p))) :
  (ReflectliteValue.method (ReflectliteValue.valueError "reflectlite.Value.IsNil" 0) ReflectliteValue.isNil #[.agg #[.pointer (some ⟨1, 217, none⟩), .pointer (some a), .int .u64 150]]).run Tryz.prog W = .ok (.bool false) W := by
 rw [rlm]
 simp only [Sem.run_bind, parts27, Result.andThen]
 simp [ReflectliteValue.isNil, loadVar, isAgg, underlying, Tryz.underlying217, ha, Result.andThen]
theorem methodElem (h : Value) (w : World) : (Go.method 355 187 (.agg #[h]) "Elem").run Tryz.prog w = .ok (167, .agg #[h]) w := by kernel_rfl
theorem methodImplements (h : Value) (w : World) : (Go.method 355 187 (.agg #[h]) "Implements").run Tryz.prog w = .ok (168, .agg #[h]) w := by kernel_rfl
theorem methodAssignableTo (h : Value) (w : World) : (Go.method 355 187 (.agg #[h]) "AssignableTo").run Tryz.prog w = .ok (165, .agg #[h]) w := by kernel_rfl
theorem elem27 (w : World) : (ReflectliteType.method ReflectliteType.elem #[.agg #[.pointer (some ⟨1, 217, none⟩)]]).run Tryz.prog w = .ok (.iface 187 (.agg #[.pointer (some ⟨1, 216, none⟩)])) w := by kernel_rfl
theorem implements25 (w : World) : (ReflectliteType.relation "Implements" ReflectliteType.implements_ #[.agg #[.pointer (some ⟨1, 216, none⟩)], .iface 187 (.agg #[.pointer (some ⟨1, 92, none⟩)])]).run Tryz.prog w = .ok (.bool true) w := by kernel_rfl
theorem typeOf25 (v : Value) (w : World) : (ReflectliteType.typeOf #[.iface 216 v]).run Tryz.prog w = .ok (.iface 187 (.agg #[.pointer (some ⟨1, 216, none⟩)])) w := by kernel_rfl
theorem assignable25 (w : World) : (ReflectliteType.relation "AssignableTo" ReflectliteType.assignableTo #[.agg #[.pointer (some ⟨1, 216, none⟩)], .iface 187 (.agg #[.pointer (some ⟨1, 216, none⟩)])]).run Tryz.prog w = .ok (.bool true) w := by kernel_rfl
theorem valueOf25 (e : Addr) (w : World) : (ReflectliteValue.unpack (.iface 216 (.pointer (some e)))).run Tryz.prog w
  = .ok (.agg #[.pointer (some ⟨1, 216, none⟩), .pointer (some ⟨w.heap.size, 0, none⟩), .int .u64 150]) (w.alloc (.cells #[.pointer (some e)] 216)) := by kernel_rfl
theorem elemOf27 (w : World) : (Rtype.elem? 217).run Tryz.prog w = .ok (some 216) w := by kernel_rfl
theorem mk25 (p : Addr) (w : World) : (ReflectliteValue.mk 216 p ReflectliteValue.flagAddr).run Tryz.prog w = .ok (.agg #[.pointer (some ⟨1, 216, none⟩), .pointer (some p), .int .u64 406]) w := by kernel_rfl
theorem elemV27 (a p : Addr) (W : World) (ha : W.cell? a = some (.pointer (some p))) :
  (ReflectliteValue.method (ReflectliteValue.valueError "reflectlite.Value.Elem" 0) ReflectliteValue.elem #[.agg #[.pointer (some ⟨1, 217, none⟩), .pointer (some a), .int .u64 150]]).run Tryz.prog W
   = .ok (.agg #[.pointer (some ⟨1, 216, none⟩), .pointer (some p), .int .u64 406]) W := by
 rw [rlm]
 simp only [Sem.run_bind, parts27, Result.andThen]
 simp [ReflectliteValue.elem, loadVar, isAgg, underlying, Tryz.underlying217, ha, Result.andThen, elemOf27, mk25]
theorem rls (v x : Value) : ReflectliteValue.set #[v, x] = (do
  let (some (dst, a, fl), some (src, b, _)) := (← ReflectliteValue.parts v, ← ReflectliteValue.parts x)
   | unsupported (.noEntry "extern/(internal/reflectlite.Value).Set.zeroValue")
  if fl / ReflectliteValue.flagAddr % 2 == 0 then unsupported (.noEntry "extern/(internal/reflectlite.Value).Set.unaddressable")
  let val ← loadVar src b
  if ← Rtype.directlyAssignable dst src then storeVar dst a val
  else if ← Rtype.implements dst src then
   if (← Rtype.kind src) == 20 then
    match val with
    | .nilIface => unsupported (.noEntry "extern/reflectlite: a nil value of one interface type handed on as a value of another")
    | _ => storeVar dst a val
   else storeVar dst a (.iface src val)
  else panicString ("reflectlite.Set: value of type " ++ (← Rtype.spelt src) ++ " is not assignable to type " ++ (← Rtype.spelt dst))
  pure (.tuple #[])) := rfl
theorem parts25a (a : Addr) (w : World) : (ReflectliteValue.parts (.agg #[.pointer (some ⟨1, 216, none⟩), .pointer (some a), .int .u64 406])).run Tryz.prog w = .ok (some (216, a, 406)) w := by kernel_rfl
theorem parts25 (a : Addr) (w : World) : (ReflectliteValue.parts (.agg #[.pointer (some ⟨1, 216, none⟩), .pointer (some a), .int .u64 150])).run Tryz.prog w = .ok (some (216, a, 150)) w := by kernel_rfl
theorem direct25 (w : World) : (Rtype.directlyAssignable 216 216).run Tryz.prog w = .ok true w := by kernel_rfl
theorem set25 (ta b e : Addr) (old : Value) (W : World) (hb : W.cell? b = some (.pointer (some e))) (ht : W.cell? ta = some old) (hf : W.frozen? ta = false) :
  (ReflectliteValue.set #[.agg #[.pointer (some ⟨1, 216, none⟩), .pointer (some ta), .int .u64 406], .agg #[.pointer (some ⟨1, 216, none⟩), .pointer (some b), .int .u64 150]]).run Tryz.prog W
   = .ok (.tuple #[]) (W.setCell ta (.pointer (some e))) := by
 rw [rls]
 simp only [Sem.run_bind, parts25a, parts25, Result.andThen]
 simp [ReflectliteValue.flagAddr, loadVar, isAgg, underlying, Tryz.underlying216, hb, Result.andThen, direct25, storeVar, Value.cells, storeCells, Addr.add]
 rw [run_store Tryz.prog W ta _ _ (by rfl)]
 simp [ht, hf]
set_option maxHeartbeats 4000000 in
theorem as_hit (e t : Addr) (old : Value) (w : World) (hg : w.cell? ⟨0, 0, none⟩ = some (.iface 187 (.agg #[.pointer (some ⟨1, 92, none⟩)]))) (ht0 : w.cell? t = some old) (hf0 : w.frozen? t = false) :
  Calls Tryz.prog 36 #[.iface 216 (.pointer (some e)), .iface 217 (.pointer (some t))] w fun ev w' => ev = .returned (.bool true) ∧ w' = ((((w.alloc (.cells #[.pointer (some t)] 217)).alloc (.cells #[.pointer (some ⟨1, 217, none⟩), .pointer (some ⟨w.heap.size, 0, none⟩), .int .u64 150] 144)).alloc (.cells #[.pointer (some ⟨1, 217, none⟩), .pointer (some ⟨w.heap.size, 0, none⟩), .int .u64 150] 144)).alloc (.cells #[.pointer (some e)] 216)).setCell t (.pointer (some e)) := by
 have h6 := @run_callFunc_extern Tryz.prog 71 _ (fun args => ReflectliteValue.unpack (args.getD 0 (.tuple #[]))) Tryz.func71 (by kernel_rfl) (by kernel_rfl) (by kernel_rfl) (by kernel_rfl)
 have h7 := @run_callFunc_extern Tryz.prog 72 _ (ReflectliteValue.methodAny (ReflectliteValue.valueError "reflectlite.Value.Type" 0) (fun t _ _ _ => ReflectliteType.toType t)) Tryz.func72 (by kernel_rfl) (by kernel_rfl) (by kernel_rfl) (by kernel_rfl)
 have h8 := @run_callFunc_extern Tryz.prog 73 _ (ReflectliteValue.method (ReflectliteValue.valueError "reflectlite.Value.IsNil" 0) ReflectliteValue.isNil) Tryz.func73 (by kernel_rfl) (by kernel_rfl) (by kernel_rfl) (by kernel_rfl)
 have h27 := @run_callFunc_extern Tryz.prog 148 _ (ReflectliteType.abiMethod fun t => do pure (.int .u8 (← Rtype.kind t))) Tryz.func148 (by kernel_rfl) (by kernel_rfl) (by kernel_rfl) (by kernel_rfl)
 have h37 := @run_callFunc_extern Tryz.prog 167 _ (ReflectliteType.method ReflectliteType.elem) Tryz.func167 (by kernel_rfl) (by kernel_rfl) (by kernel_rfl) (by kernel_rfl)
 have h38 := @run_callFunc_extern Tryz.prog 168 _ (ReflectliteType.relation "Implements" ReflectliteType.implements_) Tryz.func168 (by kernel_rfl) (by kernel_rfl) (by kernel_rfl) (by kernel_rfl)
 have h10 := @run_callFunc_extern Tryz.prog 75 _ ReflectliteType.typeOf Tryz.func75 (by kernel_rfl) (by kernel_rfl) (by kernel_rfl) (by kernel_rfl)
 have h35 := @run_callFunc_extern Tryz.prog 165 _ (ReflectliteType.relation "AssignableTo" ReflectliteType.assignableTo) Tryz.func165 (by kernel_rfl) (by kernel_rfl) (by kernel_rfl) (by kernel_rfl)
 have h11 := @run_callFunc_extern Tryz.prog 113 _ (ReflectliteValue.method (ReflectliteValue.valueError "reflectlite.Value.Elem" 0) ReflectliteValue.elem) Tryz.func113 (by kernel_rfl) (by kernel_rfl) (by kernel_rfl) (by kernel_rfl)
 have h12 := @run_callFunc_extern Tryz.prog 114 _ ReflectliteValue.set Tryz.func114 (by kernel_rfl) (by kernel_rfl) (by kernel_rfl) (by kernel_rfl)
 have tO := typeOf25
 have mA := methodAssignableTo
 have a25 := assignable25
 have v25 := valueOf25
 have f6 := valueOf27
 have f7 := type27
 have mK := methodKind
 have mE := methodElem
 have mI := methodImplements
 have k27 := kind27
 have k25 := kind25
 have e27 := elem27
 have i25 := implements25
 have n8 := isNil27 ⟨w.heap.size, 0, none⟩ t ((w.alloc (.cells #[.pointer (some t)] 217)).alloc (.cells #[.pointer (some ⟨1, 217, none⟩), .pointer (some ⟨w.heap.size, 0, none⟩), .int .u64 150] 144)) (by simp)
 have hlt : 0 < w.heap.size := by
  rcases Nat.eq_zero_or_pos w.heap.size with h0 | h
  ·simp [World.cell?, h0] at hg
  ·exact h
 have hg2 : ((w.alloc (.cells #[.pointer (some t)] 217)).alloc (.cells #[.pointer (some ⟨1, 217, none⟩), .pointer (some ⟨w.heap.size, 0, none⟩), .int .u64 150] 144)).cell? ⟨0, 0, none⟩ = some (.iface 187 (.agg #[.pointer (some ⟨1, 92, none⟩)])) := by
  rw [World.cell?_alloc_lt _ _ ⟨0, 0, none⟩ (by simp), World.cell?_alloc_lt _ _ ⟨0, 0, none⟩ hlt]; exact hg
 have htl : t.block < w.heap.size := by
  rcases Nat.lt_or_ge t.block w.heap.size with h | h
  ·exact h
  ·simp [World.cell?, Array.getElem?_eq_none h] at ht0
 have el := elemV27 ⟨w.heap.size, 0, none⟩ t (((w.alloc (.cells #[.pointer (some t)] 217)).alloc (.cells #[.pointer (some ⟨1, 217, none⟩), .pointer (some ⟨w.heap.size, 0, none⟩), .int .u64 150] 144)).alloc (.cells #[.pointer (some ⟨1, 217, none⟩), .pointer (some ⟨w.heap.size, 0, none⟩), .int .u64 150] 144)) (by rw [World.cell?_alloc_lt _ _ ⟨w.heap.size, 0, none⟩ (by simp; omega)]; simp)
 have st := set25 t ⟨w.heap.size + 1 + 1 + 1, 0, none⟩ e old ((((w.alloc (.cells #[.pointer (some t)] 217)).alloc (.cells #[.pointer (some ⟨1, 217, none⟩), .pointer (some ⟨w.heap.size, 0, none⟩), .int .u64 150] 144)).alloc (.cells #[.pointer (some ⟨1, 217, none⟩), .pointer (some ⟨w.heap.size, 0, none⟩), .int .u64 150] 144)).alloc (.cells #[.pointer (some e)] 216))
  (by rw [World.cell?_alloc_at _ _ _ _ (by simp)]; rfl)
  (by rw [World.cell?_alloc_lt _ _ t (by simp; omega), World.cell?_alloc_lt _ _ t (by simp; omega), World.cell?_alloc_lt _ _ t (by simp; omega), World.cell?_alloc_lt _ _ t htl]; exact ht0)
  (by rw [World.frozen?_alloc_old _ _ t (by simp; omega), World.frozen?_alloc_old _ _ t (by simp; omega), World.frozen?_alloc_old _ _ t (by simp; omega), World.frozen?_alloc_old _ _ t (Nat.ne_of_lt htl)]; exact hf0)
 go_enter Tryz.func36, Tryz.ntmps36
 go_wp2
 refine wp_loop_rounds 1 ?_
 rw [rounds_succ]
 go_wp2
 go_ret
 exact ⟨rfl, rfl⟩
end Go.Proofs.YtnejjfglkindjaaGreatDoor.Er
