/- PARTS, JOINED: REPLIES: strings.Split at a blank, strings.Join with one (the shelf's contracts, laid at this translation). Conditions: texts of less than 2^32 bytes. WHAT THE ROWS OF REPLIES LIST, AND A WORLD THAT MEETS IT: two tables of unicode/utf8. From a walk to the statement, the shape of memory handed on. Conditions: none. THE WALKS OF A READER: bytes taken; a number. Conditions: none. THE WALKS OF A READER: a number; bytes; a count. Conditions: none. A REGION THAT DRAWS ITS ORDER, WALKED IN ONE ORDER, WHOSE LAST OPERATIONS MAY TURN WHAT THE EARLIER ONES READ. No program is named. Conditions: none. THE WALKS OF A READER: an id; a hint. Conditions: none. THE WALKS OF A READER: ids. Conditions: none. errors.Is AND errors.As AT A FAULT OF THE READER's, by their contracts: Go's own text walked. Conditions: for errors.As the laid cell of errors.errorType. THE WALKS OF A READER: Err, Done. Conditions: the laid cell of errors.errorType. WHAT THE ROWS OF A DOOR LIST, AND A WORLD THAT MEETS IT: errors.errorType's one cell. Conditions: none. WHAT THE ROW OF ReplyReads LISTS, AND A WORLD THAT MEETS IT: two tables of unicode/utf8, errors.errorType. Conditions: none. A REGION THAT DRAWS ITS ORDER, WALKED BY A TREE: what reads only what stood at its start is taken at once; where two operations may come next, both ways are walked. No program is named. Conditions: none. -/
import Derived.Test.YtmphajilnkgcaaaGreatDoorRq1
import Derived.Test.YtmphajilnkgcaaaGreatDoorRq2
import Derived.Shelf.Strings.OnBuilder
import Derived.Shelf.Strings.Split
import Derived.Shelf.Strings.SplitShaped
import Derived.Shelf.LaysM
import Derived.Test.YtmphajilnkgcaaaGreatDoorRows
import Derived.Test.YtmphajilnkgcaaaGreatDoorCards
import Derived.Test.YtmphajilnkgcaaaGreatDoorTie
import Derived.Lay
import Derived.LaidLaws
import Derived.LaidHandle
import Derived.Laws.BitsAllLaws
import Derived.Deep.MidRow
import Derived.Test.YtmphajilnkgcaaaGreatDoorProg
import Derived.WalkKit
import Derived.LaidEql
import Derived.Stop.Asserts
import Derived.RowKitTokens
namespace Go.Proofs
open Go.Shelf
def Tryz.lays156_ren : Go.Shelf.Ren := ⟨fun | 156 => 20 | 165 => 40 | 166 => 41 | 169 => 42 | 240 => 52 | 241 => 53 | 276 => 61 | 277 => 62 | n => n, fun | 31 => 48 | 9 => 9 | 3 => 3 | 4 => 4 | 0 => 0 | 20 => 20 | 72 => 80 | 76 => 84 | 70 => 78 | 37 => 27 | 75 => 83 | 127 => 98 | 164 => 108 | 5 => 5 | 80 => 86 | n => n, fun | n => n⟩
theorem Tryz.lays156 : Go.Proofs.Lays.n156 Tryz.prog Tryz.lays156_ren := {
  mixed := by kernel_rfl
  f156 := Tryz.func20.trans (congrArg some (by kernel_rfl))
  f165 := Tryz.func40.trans (congrArg some (by kernel_rfl))
  f166 := Tryz.func41.trans (congrArg some (by kernel_rfl))
  f169 := Tryz.func42.trans (congrArg some (by kernel_rfl))
  f240 := Tryz.func52.trans (congrArg some (by kernel_rfl))
  f241 := Tryz.func53.trans (congrArg some (by kernel_rfl))
  f276 := Tryz.func61.trans (congrArg some (by kernel_rfl))
  f277 := Tryz.func62.trans (congrArg some (by kernel_rfl))
  t0 := Tryz.underlying0
  a0 := Tryz.isAgg0
  z0 := Tryz.sizeOf0
  v0 := Tryz.zeroValue0
  t3 := Tryz.underlying3
  a3 := Tryz.isAgg3
  z3 := Tryz.sizeOf3
  v3 := Tryz.zeroValue3
  t4 := Tryz.underlying4
  a4 := Tryz.isAgg4
  z4 := Tryz.sizeOf4
  v4 := Tryz.zeroValue4
  t9 := Tryz.underlying9
  a9 := Tryz.isAgg9
  z9 := Tryz.sizeOf9
  v9 := Tryz.zeroValue9
  t20 := Tryz.underlying20
  a20 := Tryz.isAgg20
  z20 := Tryz.sizeOf20
  v20 := Tryz.zeroValue20
  t31 := Tryz.underlying48
  a31 := Tryz.isAgg48
  z31 := Tryz.sizeOf48
  v31 := Tryz.zeroValue48
  t37 := Tryz.underlying27
  a37 := Tryz.isAgg27
  z37 := Tryz.sizeOf27
  v37 := Tryz.zeroValue27
  t70 := Tryz.underlying78
  a70 := Tryz.isAgg78
  z70 := Tryz.sizeOf78
  v70 := Tryz.zeroValue78
  t72 := Tryz.underlying80
  a72 := Tryz.isAgg80
  z72 := Tryz.sizeOf80
  v72 := Tryz.zeroValue80
  t75 := Tryz.underlying83
  a75 := Tryz.isAgg83
  z75 := Tryz.sizeOf83
  v75 := Tryz.zeroValue83
  t76 := Tryz.underlying84
  a76 := Tryz.isAgg84
  z76 := Tryz.sizeOf84
  v76 := Tryz.zeroValue84
  t127 := Tryz.underlying98
  a127 := Tryz.isAgg98
  z127 := Tryz.sizeOf98
  v127 := Tryz.zeroValue98
  t164 := Tryz.underlying108
  a164 := Tryz.isAgg108
  z164 := Tryz.sizeOf108
  v164 := Tryz.zeroValue108 }
theorem Tryz.Builder_Extra_156 : Builder.Extra Tryz.prog Tryz.lays156_ren := {
  sizeBuilder := by kernel_rfl
  liesBuilder := by kernel_rfl
  t5 := Tryz.underlying5
  a5 := Tryz.isAgg5
  z5 := Tryz.sizeOf5
  v5 := Tryz.zeroValue5
  infoByte := by kernel_rfl
  cellsByte := by kernel_rfl
  sizeByte := by kernel_rfl
  neB5 := by decide }
open Go.RowKit in
/-- No element: the empty string; the world is as it was. (Whatever the slice's address and capacity: a nil slice too.) (LAID: no walk: one application.) -/
theorem Tryz.strings_Join_none (a : Option Addr) (c : Nat) (sep : ByteArray) (w : World) :
    Calls Tryz.prog 20 #[.slice a 0 c, .string sep] w fun e w' => e = .returned (.string ⟨#[]⟩) ∧ w' = w := Any.strings_Join_none Tryz.lays156 Tryz.Builder_Extra_156 a c sep w
open Go.RowKit in
/-- strings.Join: "Join concatenates the elements of its first argument to create a single string. The separator string sep is placed between elements in the resulting string.": HOWEVER MANY ELEMENTS. Below the heap's end the world is as it was. (LAID: no walk: one application.) -/
theorem Tryz.strings_Join (bk o c : Nat) (xs : List ByteArray) (sep : ByteArray) (w : World) (hcells : ∀ (j : Nat) x, xs[j]? = some x → w.cell? ⟨bk, o + j, none⟩ = some (.string x)) (hbk : bk < w.heap.size) (hN : xs.length ≤ 140737488355328) (hcap : xs.length ≤ c) (hlen : (Lib.join (xs.map (·.data.toList)) sep.data.toList).length ≤ 140737488355328) :
    Calls Tryz.prog 20 #[.slice (some ⟨bk, o, none⟩) xs.length c, .string sep] w fun e w' => e = .returned (.string ⟨(Lib.join (xs.map (·.data.toList)) sep.data.toList).toArray⟩) ∧ Below w.heap.size w w' := Any.strings_Join Tryz.lays156 Tryz.Builder_Extra_156 bk o c xs sep w hcells hbk hN hcap hlen
def Tryz.lays146_ren : Go.Shelf.Ren := ⟨fun | 146 => 29 | 221 => 47 | 268 => 58 | 138 => 59 | 143 => 60 | 195 => 69 | 197 => 70 | 218 => 71 | 219 => 72 | 260 => 75 | 217 => 76 | 225 => 77 | 224 => 78 | 267 => 79 | 266 => 80 | 314 => 81 | n => n, fun | 9 => 9 | 31 => 48 | 3 => 3 | 4 => 4 | 0 => 0 | 105 => 125 | 21 => 21 | 5 => 5 | 46 => 91 | 119 => 145 | 139 => 148 | 138 => 147 | 146 => 149 | 51 => 24 | n => n, fun | 1 => 1 | 3 => 2 | 4 => 3 | n => n⟩
theorem Tryz.lays146 : Go.Proofs.Lays.n146 Tryz.prog Tryz.lays146_ren := {
  mixed := by kernel_rfl
  f138 := Tryz.func59.trans (congrArg some (by kernel_rfl))
  f143 := Tryz.func60.trans (congrArg some (by kernel_rfl))
  f146 := Tryz.func29.trans (congrArg some (by kernel_rfl))
  f195 := Tryz.func69.trans (congrArg some (by kernel_rfl))
  f197 := Tryz.func70.trans (congrArg some (by kernel_rfl))
  f217 := Tryz.func76.trans (congrArg some (by kernel_rfl))
  f218 := Tryz.func71.trans (congrArg some (by kernel_rfl))
  f219 := Tryz.func72.trans (congrArg some (by kernel_rfl))
  f221 := Tryz.func47.trans (congrArg some (by kernel_rfl))
  f224 := Tryz.func78.trans (congrArg some (by kernel_rfl))
  f225 := Tryz.func77.trans (congrArg some (by kernel_rfl))
  f260 := Tryz.func75.trans (congrArg some (by kernel_rfl))
  f266 := Tryz.func80.trans (congrArg some (by kernel_rfl))
  f267 := Tryz.func79.trans (congrArg some (by kernel_rfl))
  f268 := Tryz.func58.trans (congrArg some (by kernel_rfl))
  f314 := Tryz.func81.trans (congrArg some (by kernel_rfl))
  t0 := Tryz.underlying0
  a0 := Tryz.isAgg0
  z0 := Tryz.sizeOf0
  v0 := Tryz.zeroValue0
  t3 := Tryz.underlying3
  a3 := Tryz.isAgg3
  z3 := Tryz.sizeOf3
  v3 := Tryz.zeroValue3
  t4 := Tryz.underlying4
  a4 := Tryz.isAgg4
  z4 := Tryz.sizeOf4
  v4 := Tryz.zeroValue4
  t5 := Tryz.underlying5
  a5 := Tryz.isAgg5
  z5 := Tryz.sizeOf5
  v5 := Tryz.zeroValue5
  t9 := Tryz.underlying9
  a9 := Tryz.isAgg9
  z9 := Tryz.sizeOf9
  v9 := Tryz.zeroValue9
  t21 := Tryz.underlying21
  a21 := Tryz.isAgg21
  z21 := Tryz.sizeOf21
  v21 := Tryz.zeroValue21
  t31 := Tryz.underlying48
  a31 := Tryz.isAgg48
  z31 := Tryz.sizeOf48
  v31 := Tryz.zeroValue48
  t46 := Tryz.underlying91
  a46 := Tryz.isAgg91
  z46 := Tryz.sizeOf91
  v46 := Tryz.zeroValue91
  t51 := Tryz.underlying24
  a51 := Tryz.isAgg24
  z51 := Tryz.sizeOf24
  v51 := Tryz.zeroValue24
  t105 := Tryz.underlying125
  a105 := Tryz.isAgg125
  z105 := Tryz.sizeOf125
  v105 := Tryz.zeroValue125
  t119 := Tryz.underlying145
  a119 := Tryz.isAgg145
  z119 := Tryz.sizeOf145
  t138 := Tryz.underlying147
  a138 := Tryz.isAgg147
  z138 := Tryz.sizeOf147
  v138 := Tryz.zeroValue147
  t139 := Tryz.underlying148
  a139 := Tryz.isAgg148
  z139 := Tryz.sizeOf148
  v139 := Tryz.zeroValue148
  t146 := Tryz.underlying149
  a146 := Tryz.isAgg149
  z146 := Tryz.sizeOf149
  v146 := Tryz.zeroValue149
  g1 := by kernel_rfl
  g3 := by kernel_rfl
  g4 := by kernel_rfl }
open Go.RowKit Go.Lib in
/-- strings.Split. (LAID: no walk: one application.) -/
theorem Tryz.strings_Split (s sep : ByteArray) (m : Int) (w : World) (hs : s.size < 4294967281) (hm : w.cell? ⟨1, 0, none⟩ = some (.int .i64 m)) (h1 : 1 ≤ sep.size) :
    Calls Tryz.prog 29 #[.string s, .string sep] w fun e w' =>
      e = .returned (.slice (some ⟨w.heap.size, 0, none⟩) (Lib.countB s sep + 1) (Lib.countB s sep + 1)) ∧ w' = w.alloc (.cells ((Lib.splitB sep 0 (Lib.countB s sep) s).map Value.string).toArray 9) := Any.strings_Split Tryz.lays146 (by kernel_rfl) s sep m w hs hm h1
def Tryz.laysM146_ren : Go.Shelf.Ren := ⟨fun | 146 => 29 | 221 => 47 | 268 => 58 | 138 => 59 | 143 => 60 | 195 => 69 | 197 => 70 | 218 => 71 | 219 => 72 | 260 => 75 | 217 => 76 | 225 => 77 | 224 => 78 | 267 => 79 | 266 => 80 | 314 => 81 | n => n, fun | 9 => 9 | 31 => 48 | 3 => 3 | 4 => 4 | 0 => 0 | 105 => 125 | 21 => 21 | 5 => 5 | 46 => 91 | 119 => 145 | 139 => 148 | 138 => 147 | 146 => 149 | 51 => 24 | n => n, fun | 1 => 1 | 3 => 2 | 4 => 3 | n => n⟩
theorem Tryz.laysM146 : Go.Proofs.LaysM.n146 Tryz.prog Tryz.laysM146_ren := {
  mixed := by kernel_rfl
  f138 := Tryz.func59.trans (congrArg some (by kernel_rfl))
  f143 := Tryz.func60.trans (congrArg some (by kernel_rfl))
  f146 := Tryz.func29.trans (congrArg some (by kernel_rfl))
  f195 := Tryz.func69.trans (congrArg some (by kernel_rfl))
  f197 := Tryz.func70.trans (congrArg some (by kernel_rfl))
  f217 := Tryz.func76.trans (congrArg some (by kernel_rfl))
  f218 := Tryz.func71.trans (congrArg some (by kernel_rfl))
  f219 := Tryz.func72.trans (congrArg some (by kernel_rfl))
  f221 := Tryz.func47.trans (congrArg some (by kernel_rfl))
  f224 := Tryz.func78.trans (congrArg some (by kernel_rfl))
  f225 := Tryz.func77.trans (congrArg some (by kernel_rfl))
  f260 := Tryz.func75.trans (congrArg some (by kernel_rfl))
  f266 := Tryz.func80.trans (congrArg some (by kernel_rfl))
  f267 := Tryz.func79.trans (congrArg some (by kernel_rfl))
  f268 := Tryz.func58.trans (congrArg some (by kernel_rfl))
  f314 := Tryz.func81.trans (congrArg some (by kernel_rfl))
  t0 := Tryz.underlying0
  a0 := Tryz.isAgg0
  z0 := Tryz.sizeOf0
  v0 := Tryz.zeroValue0
  t3 := Tryz.underlying3
  a3 := Tryz.isAgg3
  z3 := Tryz.sizeOf3
  v3 := Tryz.zeroValue3
  t4 := Tryz.underlying4
  a4 := Tryz.isAgg4
  z4 := Tryz.sizeOf4
  v4 := Tryz.zeroValue4
  t5 := Tryz.underlying5
  a5 := Tryz.isAgg5
  z5 := Tryz.sizeOf5
  v5 := Tryz.zeroValue5
  t9 := Tryz.underlying9
  a9 := Tryz.isAgg9
  z9 := Tryz.sizeOf9
  v9 := Tryz.zeroValue9
  t21 := Tryz.underlying21
  a21 := Tryz.isAgg21
  z21 := Tryz.sizeOf21
  v21 := Tryz.zeroValue21
  t31 := Tryz.underlying48
  a31 := Tryz.isAgg48
  z31 := Tryz.sizeOf48
  v31 := Tryz.zeroValue48
  t46 := Tryz.underlying91
  a46 := Tryz.isAgg91
  z46 := Tryz.sizeOf91
  v46 := Tryz.zeroValue91
  t51 := Tryz.underlying24
  a51 := Tryz.isAgg24
  z51 := Tryz.sizeOf24
  v51 := Tryz.zeroValue24
  t105 := Tryz.underlying125
  a105 := Tryz.isAgg125
  z105 := Tryz.sizeOf125
  v105 := Tryz.zeroValue125
  t119 := Tryz.underlying145
  a119 := Tryz.isAgg145
  z119 := Tryz.sizeOf145
  t138 := Tryz.underlying147
  a138 := Tryz.isAgg147
  z138 := Tryz.sizeOf147
  v138 := Tryz.zeroValue147
  t139 := Tryz.underlying148
  a139 := Tryz.isAgg148
  z139 := Tryz.sizeOf148
  v139 := Tryz.zeroValue148
  t146 := Tryz.underlying149
  a146 := Tryz.isAgg149
  z146 := Tryz.sizeOf149
  v146 := Tryz.zeroValue149
  g1 := by kernel_rfl
  g3 := by kernel_rfl
  g4 := by kernel_rfl
  i0 := by kernel_rfl
  i3 := by kernel_rfl
  i4 := by kernel_rfl
  i5 := by kernel_rfl
  i9 := by kernel_rfl
  i21 := by kernel_rfl
  i31 := by kernel_rfl
  i46 := by kernel_rfl
  i51 := by kernel_rfl
  i105 := by kernel_rfl
  i138 := by kernel_rfl
  i139 := by kernel_rfl
  i146 := by kernel_rfl
  m1 := by kernel_rfl
  s1_3 := fun w h => Go.Proofs.cell_of_shapedOpen_int (zero := #[.int .i64 0]) (t := 3) h (of_decide_eq_true (by kernel_rfl)) (by kernel_rfl) rfl (by kernel_rfl) (by kernel_rfl) Tryz.underlying3
  m3 := by kernel_rfl
  m4 := by kernel_rfl }
open Go.RowKit Go.Lib in
/-- strings.Split, sep not empty. (LAID: no walk: one application.) -/
theorem Tryz.strings_Split_shaped (s sep : ByteArray) (w : World) (h : w.ShapedOpen Tryz.prog) (hs : s.size < 4294967281) (h1 : 1 ≤ sep.size) :
    Calls Tryz.prog 29 #[.string s, .string sep] w fun e w' =>
      e = .returned (.slice (some ⟨w.heap.size, 0, none⟩) (Lib.countB s sep + 1) (Lib.countB s sep + 1)) ∧ w' = w.alloc (.cells ((Lib.splitB sep 0 (Lib.countB s sep) s).map Value.string).toArray 9) := Any.strings_Split_shaped Tryz.laysM146 s sep w h hs h1
end Go.Proofs

namespace Go.Proofs.YtmphajilnkgcaaaGreatDoor.Rpl
open Go.RowKit Go.Mir Go.Mir.Hx Go.Mir.Parts
open Go.Lib (join)

/-- internal/bytealg.MaxLen holds an int -/
def MaxL (w : World) : Prop := ∃ m, w.cell? ⟨Tryz.lays146_ren.g 1, 0, none⟩ = some (.int .i64 m)
theorem MaxL.below {w w' : World} (h : MaxL w) (hb : Below w.heap.size w w') : MaxL w' := by
  obtain ⟨m, h⟩ := h
  exact ⟨m, cell_below h hb⟩
theorem maxL_shaped {w : World} (h : w.ShapedOpen Tryz.prog) : MaxL w := Tryz.laysM146.s1_3 w h
theorem strV_of (xs : List ByteArray) : xs.map Value.string = strV (xs.map (·.data.toList)) := by
  unfold strV
  rw [List.map_map]
  refine List.map_congr_left fun x _ => ?_
  show Value.string x = .string (S x.data.toList)
  rw [← S_of x]
set_option maxRecDepth 100000 in
theorem split_any (s : List UInt8) (w : World) (hs : s.length < 4294967281) (hm : MaxL w) :
    Calls Tryz.prog 29 #[.string (S s), .string ⟨#[32]⟩] w fun e w' => e = .returned (.slice (some ⟨w.heap.size, 0, none⟩) (sp s).length (sp s).length) ∧ Ws w' (some ⟨w.heap.size, 0, none⟩) (sp s).length (sp s).length (sp s) ∧ Below w.heap.size w w' := by
  obtain ⟨m, hm⟩ := hm
  have hd : (Go.Lib.splitB ⟨#[32]⟩ 0 (Go.Lib.countB (S s) ⟨#[32]⟩) (S s)).map (·.data.toList) = sp s := by
    rw [Go.Lib.splitB_data]
    show Go.Lib.splitK [32] 0 (Go.Lib.count (S s).data.toList [32]) (S s).data.toList = _
    rw [S_data]
    exact split_sp s
  have hl : Go.Lib.countB (S s) ⟨#[32]⟩ + 1 = (sp s).length := by
    rw [← hd, List.length_map, Go.Lib.splitB_all ⟨#[32]⟩ (by decide) 0 _ (S s) rfl]
  refine (Tryz.strings_Split (S s) ⟨#[32]⟩ m w (by rw [S_size]; exact hs) hm (by decide)).mono ?_
  rintro e w' ⟨rfl, rfl⟩
  rw [hl]
  refine ⟨rfl, Ws.row (ls := sp s) (heap_alloc_last w _) ?_ ?_, Below.allocs _ _⟩
  · rw [strV_of, hd]
  · have : (sp s).length ≤ s.length + 1 := by
      rw [← hl]
      have := Go.Lib.countB_le ⟨#[32]⟩ (by decide) (S s).size (S s) (Nat.le_refl _)
      rw [S_size] at this
      omega
    omega
theorem join_any (g o n c : Nat) (ws : List (List UInt8)) (w : World) (h : Ws w (some ⟨g, o, none⟩) n c ws) (hg : g < w.heap.size) (hn : n ≤ 140737488355328) (hl : (join ws [32]).length ≤ 140737488355328) :
    Calls Tryz.prog 20 #[.slice (some ⟨g, o, none⟩) n c, .string ⟨#[32]⟩] w fun e w' => e = .returned (.string (S (join ws [32]))) ∧ Below w.heap.size w w' := by
  have hm : (ws.map S).map (·.data.toList) = ws := by
    rw [List.map_map]
    conv => rhs; rw [← List.map_id ws]
    exact List.map_congr_left fun x _ => S_data x
  have hlen := h.length
  have hln : (ws.map S).length = n := by rw [List.length_map]; exact hlen
  have := Tryz.strings_Join g o c (ws.map S) ⟨#[32]⟩ w (fun j x hx => by
    rw [List.getElem?_map] at hx
    obtain ⟨y, hy, rfl⟩ := Option.map_eq_some_iff.1 hx
    obtain ⟨hj, rfl⟩ := List.getElem?_eq_some_iff.1 hy
    exact h.str hj) hg (by rw [hln]; exact hn) (by rw [hln]; exact h.le) (by rw [hm]; exact hl)
  rw [hm, hln] at this
  exact this
end Go.Proofs.YtmphajilnkgcaaaGreatDoor.Rpl

namespace Go.Mir
open Go.ChangeShapes Go.WideShapes Go.ChangeAt Go.RowKit
variable {H : Type} {enc : TypeId × Value → H}
theorem law_row_m {C : Checked} {os : Os} {f : FuncId} {fn : Func} {s : ChangeSpec} {F : Stop.Interp} {tb : TypeId} {conds : List PathCond} {laid : List (String × DataW Unit)}
    (own : ownKnob C.prog.godebug = none) (started : os.Started) (noInit : C.prog.inits.idxOf? f = none) (hfn : C.prog.funcs[f]? = some fn)
    (witness : ∃ (w : World) (tape : Tape) (i : Input), w.os = os ∧ (w.forCall tape i).Shaped C.prog ∧ i.vars = [] ∧ Input.okWide C.prog (w.forCall tape i) .any w.heap.size f i ∧
      (OpenSpec.ofChange s).preRow enc C.prog fn conds false laid (w.forCall tape i).memory i.args ∧ Assume.holds {} C.prog (lone (Frame.enter C.prog f i.args .normal) [] (w.forCall tape i)))
    (hl : laidOutB C.prog = true) (hr : fn.params.toList.all (fun t => C.prog.readableRec t && decide (t < C.prog.types.size)) = true) (hres : fn.resultTypes = #[tb]) (hb : C.prog.underlying tb = some .bool) (hv : s.vars = [])
    (walk : ∀ (W : World) (base : Nat) (args : Array Value) (ds : List (DataW H)) (p : List MemPlace),
      (∀ (j : Nat) t v, fn.params[j]? = some t → args[j]? = some v → Value.okWide C.prog W .any base t v) →
      DataW.TrodAll enc C.prog W 0 (fun _ => true) true fn.params.toList args.toList ds p → laidMetH C.prog laid W → W.ShapedOpen C.prog →
      s.fn H (ds ++ []) = { results := [.lit (.bool true)], args := ds } ∧ Calls C.prog f args W fun e W' => e = .returned (.bool true) ∧ Below W.heap.size W W') :
    ReturnsInHanded {} C os f .any ((OpenSpec.ofChange s).preRow enc C.prog fn conds false laid) (((OpenSpec.ofChange s).at F).post enc C.prog fn false true false false) := by
  refine returnsInHanded_of_row (C := C) (s := OpenSpec.ofChange s) own started noInit hfn witness ?_
  intro W base args ds gs before hval hW _ _ _ hL hS _
  have hr' : ∀ t ∈ fn.params.toList, C.prog.readableRec t = true ∧ t < C.prog.types.size := fun t ht => by
    have := List.all_eq_true.1 hr t ht; simpa using this
  have hW1 : DataW.Whole enc C.prog fn.params.toList s.vars false W args.toList ds gs before := hW
  obtain ⟨p, q, hA, hV, rfl, hfz, hnd⟩ := id hW1
  rw [hv] at hV
  obtain ⟨rfl, rfl⟩ : gs = [] ∧ q = [] := by
    cases gs with
    | nil => exact ⟨rfl, hV⟩
    | cons g gs => exact hV.elim
  obtain ⟨hs, hc⟩ := walk W base args ds p hval hA hL hS
  refine hc.mono fun e W' ⟨he, bel⟩ => ?_
  subst he
  exact ⟨_, rfl, law_post hl hr' hres hb hv hs hW1 bel⟩
end Go.Mir
namespace Go.Proofs.YtmphajilnkgcaaaGreatDoor.Rpl
open Go.ChangeShapes Go.WideShapes Go.RowKit Go.Mir

theorem own : ownKnob Tryz.prog.godebug = none := by kernel_rfl
theorem laidOut : laidOutB Tryz.prog = true := by kernel_rfl
def laidU : List (String × DataW Unit) := [("unicode/utf8.acceptRanges", Rows.laid_unicode_utf8_acceptRanges), ("unicode/utf8.first", Rows.laid_unicode_utf8_first)]
/-- a world that meets the condition -/
noncomputable def laidWorld (os : Os) : World := World.laidAll Tryz.prog os laidU
theorem laidWorld_met (os : Os) (args : Array Value) : laidMetH Tryz.prog laidU ((laidWorld os).forCall (fun _ _ => 0) ⟨#[], args, []⟩).memory :=
  laidMetH_of_parts (laidMet_laidAll (laid := laidU) args (by kernel_rfl) (by kernel_rfl)) (by kernel_rfl)
end Go.Proofs.YtmphajilnkgcaaaGreatDoor.Rpl

namespace Go.Proofs.YtmphajilnkgcaaaGreatDoor.Rdr
open Go.RowKit Go.Mir

def TakeP (base rb : Nat) (s : RD) (n : Int) (fits : Bool) (w : World) (e : Ending) (w' : World) : Prop :=
  ∃ p c, e = .returned (.slice p (s.takeB n fits).length c) ∧ Bs w' p (s.takeB n fits).length c (s.takeB n fits) ∧ LeftR base rb (s.takeS n fits) w w'
theorem TakeP.empty {base rb : Nat} {s : RD} {n : Int} {fits : Bool} {w w' : World} (hB : s.takeB n fits = []) (h : LeftR base rb (s.takeS n fits) w w') : TakeP base rb s n fits w (.returned (.slice none 0 0)) w' :=
  ⟨none, 0, by rw [hB]; rfl, by rw [hB]; exact Sl.nil _ _, h⟩
theorem run_cut {w : World} {p : Option Addr} {L c : Nat} (l : List UInt8) (h : Bs w p L c l) (k m : Nat) (hk : k + m ≤ L) :
    ∃ q, (∀ w0, (Instr.sliceAt 27 (.slice p L c) (some (.int .i64 (k : Int))) (some (.int .i64 ((k : Int) + (m : Int)))) (some (.int .i64 ((k : Int) + (m : Int))))).run Tryz.prog w0 = .ok (.slice q m m) w0) ∧
      ∀ w', (∀ b o v, p = some ⟨b, o, none⟩ → ∀ j, w.cell? ⟨b, j, none⟩ = some v → w'.cell? ⟨b, j, none⟩ = some v) → Bs w' q m m ((l.drop k).take m) := by
  have hle := h.le
  have hmax := h.max
  have hsz : (Tryz.prog.info? 5).map (·.size) = some 1 := by kernel_rfl
  obtain ⟨i, hi, hi1⟩ := Option.map_eq_some_iff.1 hsz
  have e1 : ((k : Int) + (m : Int)).toNat = k + m := by omega
  have hrun : ∀ w0, (Instr.sliceAt 27 (.slice p L c) (some (.int .i64 (k : Int))) (some (.int .i64 ((k : Int) + (m : Int)))) (some (.int .i64 ((k : Int) + (m : Int))))).run Tryz.prog w0 = .ok (.slice (if k + m = k then p else p.map (·.add k)) m m) w0 := fun w0 => by
    have hb1 : (0 : Int) ≤ (k : Int) + (m : Int) ∧ (k : Int) + (m : Int) ≤ (c : Int) := by omega
    have hb3 : (0 : Int) ≤ (k : Int) ∧ (k : Int) ≤ ((k + m : Nat) : Int) := by omega
    simp [Instr.sliceAt, Instr.slice, run_underlying Tryz.underlying27, Instr.sliceBounds, Instr.sliceBound, asIntOf, sizeOf, typeInfo, hi, hi1, e1, hb1, hb3]
    try omega
  by_cases hm : m = 0
  · subst hm
    refine ⟨p, fun w0 => by rw [hrun]; simp, fun w' _ => ?_⟩
    refine ⟨by simp [bytesV], Nat.le_refl _, by omega, fun _ => rfl, fun a ha j u hu => by simp [bytesV] at hu⟩
  · obtain ⟨b, o, rfl, hB⟩ := Bs.part h k m hk (by omega)
    refine ⟨some ⟨b, o + k, none⟩, fun w0 => by rw [hrun, if_neg (by omega)]; simp [add_none], fun w' hw => ⟨hB.len, hB.le, hB.max, hB.nil0, fun a ha j u hu => ?_⟩⟩
    have h1 := hB.cell a ha j u hu
    obtain rfl := Option.some.inj ha
    rw [add_none] at h1 ⊢
    exact hw b o u rfl _ h1
set_option maxRecDepth 100000 in
set_option maxHeartbeats 1600000 in
theorem take_any {base rb : Nat} {s : RD} (w : World) (h : RAt w base rb s) (n : Int) (hn : -9223372036854775808 ≤ n ∧ n ≤ 9223372036854775807) (fits : Bool) :
    Calls Tryz.prog 44 #[.pointer (some ⟨rb, 0, none⟩), .int .i64 n, .bool fits] w (TakeP base rb s n fits w) := by
  have H := Lib.hid h
  obtain ⟨v, bv, h⟩ := h
  obtain ⟨_, hc1, hc2, hc3, hfz⟩ := h.cells
  have HI := Lib.hid h
  obtain ⟨l, pos, bad⟩ := s
  cases bad with
  | some b =>
    obtain ⟨_, _, fb, a0, hbv, _⟩ := h.fault
    rw [hbv] at hc3
    have HFIN : Hid (TakeP base rb ⟨l, pos, some b⟩ n fits w (.returned (.slice none 0 0)) w) := by
      refine TakeP.empty (by unfold RD.takeB; rw [if_neg (by simp)]) ?_
      have : RD.takeS ⟨l, pos, some b⟩ n fits = ⟨l, pos, some b⟩ := by unfold RD.takeS; rw [if_pos (by simp)]
      rw [this]
      exact LeftR.same H.out (Below.refl _ _)
    clear h hbv
    go_enter Tryz.func44, Tryz.ntmps44
    go_wp2_with fail
    refine (none_any w H.out).mono ?_
    rintro e w' ⟨rfl, rfl⟩
    go_wp2_with fail
    go_ret
    exact HFIN.out
  | none =>
    have hbv : bv = .nilIface := h.fault
    rw [hbv] at hc3
    obtain ⟨p, c, hv, hbs⟩ := h.bytes.bs
    rw [hv] at hc1
    dsimp only at hc1 hc2 hbs hv
    have hg1 := cell_grown hc1
    have hg2 := cell_grown hc2
    have hat : pos ≤ l.length := h.at1
    have hlen : l.length ≤ 140737488355328 := h.len
    have hle := hbs.le
    have hmax := hbs.max
    have HBS := Lib.hid hbs
    have HV := Lib.hid hv
    clear h hbv hbs hv
    by_cases hbad : fits = false ∨ n < 0
    · have hTB : RD.takeB ⟨l, pos, none⟩ n fits = [] := by
        unfold RD.takeB
        rw [if_neg]
        rintro ⟨_, h1, h2, _⟩
        rcases hbad with h | h
        · rw [h] at h1
          cases h1
        · omega
      have HFIN : Hid (∀ w', LeftR base rb (RD.fail ⟨l, pos, none⟩ 1) w w' → TakeP base rb ⟨l, pos, none⟩ n fits w (.returned (.slice none 0 0)) w') := fun w' hl => by
        refine TakeP.empty hTB ?_
        have : RD.takeS ⟨l, pos, none⟩ n fits = RD.fail ⟨l, pos, none⟩ 1 := by unfold RD.takeS RD.fail; rw [if_neg (by simp), if_pos hbad, if_pos ⟨rfl, by decide⟩]
        rw [this]
        exact hl
      have HFL := Lib.hid (fail_any w H.out 1 (by omega))
      clear hg1 hg2 hTB
      cases fits with
      | false =>
        clear hbad
        go_enter Tryz.func44, Tryz.ntmps44
        go_wp2_with fail
        refine (none_any w H.out).mono ?_
        rintro e w' ⟨rfl, rfl⟩
        go_wp2_with fail
        refine (HFL.out).mono ?_
        rintro e w' ⟨rfl, hl⟩
        have HL := Lib.hid (HFIN.out _ hl)
        clear hl
        go_wp2_with fail
        go_ret
        exact HL.out
      | true =>
        have hneg : n < 0 := by simpa using hbad
        have e1 : decide (n < 0) = true := decide_eq_true hneg
        clear hbad
        go_enter Tryz.func44, Tryz.ntmps44
        go_wp2_with fail
        refine (none_any w H.out).mono ?_
        rintro e w' ⟨rfl, rfl⟩
        go_wp2_with fail
        refine (HFL.out).mono ?_
        rintro e w' ⟨rfl, hl⟩
        have HL := Lib.hid (HFIN.out _ hl)
        clear hl
        go_wp2_with fail
        go_ret
        exact HL.out
    · obtain rfl : fits = true := by cases fits with | true => rfl | false => exact absurd (.inl rfl) hbad
      have hn0 : ¬ n < 0 := fun h => hbad (.inr h)
      obtain ⟨m, rfl⟩ : ∃ m : Nat, n = (m : Int) := ⟨n.toNat, by omega⟩
      have e1 : decide ((m : Int) < 0) = false := decide_eq_false hn0
      have hsub : (l.length : Int) - (pos : Int) = ((l.length - pos : Nat) : Int) := by omega
      have hw1 : IntKind.i64.wrap ((l.length : Int) - (pos : Int)) = ((l.length - pos : Nat) : Int) := by rw [hsub]; exact IntWalk.i64_in _ (by omega)
      have hw2 : IntKind.i64.wrap ((l.length - pos : Nat) : Int) = ((l.length - pos : Nat) : Int) := IntWalk.i64_in _ (by omega)
      by_cases hbig : l.length - pos < m
      · have HFIN : Hid (∀ w1 w', Below w.heap.size w w1 → LeftR base rb (RD.fail ⟨l, pos, none⟩ 2) w1 w' → TakeP base rb ⟨l, pos, none⟩ (m : Int) true w (.returned (.slice none 0 0)) w') := fun w1 w' hb hl => by
          refine TakeP.empty (by unfold RD.takeB; rw [if_neg (by rintro ⟨_, h1, h2, h3⟩; dsimp only at h3; omega)]) ?_
          have : RD.takeS ⟨l, pos, none⟩ (m : Int) true = RD.fail ⟨l, pos, none⟩ 2 := by
            unfold RD.takeS RD.fail
            rw [if_neg (by simp), if_neg hbad, if_pos (by dsimp only; omega), if_pos ⟨rfl, by decide⟩]
          rw [this]
          exact LeftR.trans (LeftR.same H.out hb) hl
        have e2 : decide (((l.length - pos : Nat) : Int) < (m : Int)) = true := decide_eq_true (by omega)
        have e3 : decide (l.length - pos < m) = true := decide_eq_true hbig
        clear hbad
        go_enter Tryz.func44, Tryz.ntmps44
        go_wp2_with fail
        refine (none_any w H.out).mono ?_
        rintro e w' ⟨rfl, rfl⟩
        go_upto_region 4 with fail
        refine wp_region_grow (by kernel_rfl) (by kernel_rfl) ?_
        repeat (first
          | ((with_reducible refine wpQuietGd ?_); (with_reducible refine wpQuiet_skip ?_ ?_); (· rfl); simp only [Act.put, List.setIfInBounds_toArray, List.set_cons_zero, List.set_cons_succ])
          | quiet_step (fail))
        refine wpQuiet_nil ?_
        intro w2 hb2
        have HB2 := Lib.hid hb2
        have HFL := Lib.hid (fail_any w2 (H.out.below hb2) 2 (by omega))
        clear hb2 hg1 hg2 hsub hw1 hw2
        go_wp2_with fail
        refine (HFL.out).mono ?_
        rintro e w' ⟨rfl, hl⟩
        have HL := Lib.hid (HFIN.out _ _ HB2.out hl)
        clear hl
        go_wp2_with fail
        go_ret
        exact HL.out
      · have e2 : decide (((l.length - pos : Nat) : Int) < (m : Int)) = false := decide_eq_false (by omega)
        have e3 : decide (l.length - pos < m) = false := decide_eq_false hbig
        obtain ⟨q, hsl, hqb⟩ := run_cut l HBS.out pos m (by omega)
        have hwp : IntKind.i64.wrap ((pos : Int) + (m : Int)) = (pos : Int) + (m : Int) := IntWalk.i64_in _ (by omega)
        have HQB := Lib.hid hqb
        have HFIN : Hid (∀ w3, Below w.heap.size w w3 → TakeP base rb ⟨l, pos, none⟩ (m : Int) true w (.returned (.slice q m m)) (w3.setCell ⟨rb, 2, none⟩ (.int .i64 ((pos : Int) + (m : Int))))) := fun w3 hb => by
          have hB : RD.takeB ⟨l, pos, none⟩ (m : Int) true = (l.drop pos).take m := by unfold RD.takeB; rw [if_pos ⟨rfl, rfl, by omega, by dsimp only; omega⟩]; rfl
          have hS : RD.takeS ⟨l, pos, none⟩ (m : Int) true = ⟨l, pos + m, none⟩ := by
            unfold RD.takeS
            rw [if_neg (by simp), if_neg hbad, if_neg (by dsimp only; omega)]; rfl
          have hml : ((l.drop pos).take m).length = m := by rw [List.length_take, List.length_drop]; omega
          have hI := HI.out.below hb
          have ht := (Turns.refl (fun k => k = rb) w3).setCell (p := ⟨rb, 2, none⟩) (fun _ => rfl) (.int .i64 ((pos : Int) + (m : Int)))
          refine ⟨q, m, by rw [hB, hml], ?_, ?_⟩
          · rw [hB, hml]
            refine HQB.out _ (fun b o u hp j hc => ?_)
            have hne : b ≠ rb := by
              intro he
              rcases HI.out.bytes with ⟨h1, h2⟩ | ⟨g, cap, cur, h1, _, h3, _⟩
              · rw [HV.out] at h1
                obtain ⟨rfl, _, _⟩ := Value.slice.inj h1
                cases hp
              · rw [HV.out] at h1
                obtain ⟨h4, _, _⟩ := Value.slice.inj h1
                rw [hp] at h4
                have h5 : b = g := congrArg (fun a : Option Addr => (a.getD ⟨0, 0, none⟩).block) h4
                exact HI.out.no8 g cur _ h3 (by omega)
            exact ht.cell (cell_below hc hb) hne
          · rw [hS]
            have hrow2 := heap_setCell_same _ rb 2 _ _ (.int .i64 ((pos : Int) + (m : Int))) hI.row
            refine ⟨⟨v, bv, ⟨?_, hI.low, hI.bytes.touch ht hI.no8, hI.fault.touch ht hI.noF, by show pos + m ≤ l.length; omega, hI.len⟩⟩, (Turns.of_below hb).trans ht (fun _ _ h => h), by rw [HI.out.cells.2.1, cell_of_row _ _ _ _ _ _ hrow2]; rfl⟩
            rw [hrow2]
            show _ = some (Obj.cells #[.bool true, v, .int .i64 ((pos + m : Nat) : Int), bv] _ _)
            rw [Int.natCast_add]
            rfl
        clear hbad hqb
        go_enter Tryz.func44, Tryz.ntmps44
        go_wp2_with fail
        refine (none_any w H.out).mono ?_
        rintro e w' ⟨rfl, rfl⟩
        go_upto_region 4 with fail
        refine wp_region_grow (by kernel_rfl) (by kernel_rfl) ?_
        repeat (first
          | ((with_reducible refine wpQuietGd ?_); (with_reducible refine wpQuiet_skip ?_ ?_); (· rfl); simp only [Act.put, List.setIfInBounds_toArray, List.set_cons_zero, List.set_cons_succ])
          | quiet_step (fail))
        refine wpQuiet_nil ?_
        intro w2 hb2
        have HB2 := Lib.hid hb2
        have hc1' := cell_below hc1 hb2
        have hc2' := cell_below hc2 hb2
        clear hg1 hg2 hb2
        have hg1 := cell_grown hc1'
        have hg2 := cell_grown hc2'
        go_upto_region 9 with fail
        refine wp_region_grow (by kernel_rfl) (by kernel_rfl) ?_
        repeat (first
          | ((with_reducible refine wpQuietGd ?_); (with_reducible refine wpQuiet_skip ?_ ?_); (· rfl); simp only [Act.put, List.setIfInBounds_toArray, List.set_cons_zero, List.set_cons_succ])
          | quiet_step (fail))
        refine wpQuiet_nil ?_
        intro w3 hb3
        have HB3 := Lib.hid (HB2.out.trans (hb3.mono HB2.out.size))
        have hc2'' := cell_below hc2' hb3
        have hfz' := (HI.out.below HB3.out).cells.2.2.2.2 2
        have HF := Lib.hid (HFIN.out w3 HB3.out)
        clear hg1 hg2 hb3 hsub hw1 hw2 hsl
        go_wp2_with fail
        go_ret
        exact HF.out
end Go.Proofs.YtmphajilnkgcaaaGreatDoor.Rdr

namespace Go.Proofs.YtmphajilnkgcaaaGreatDoor.Rdr
open Go.RowKit Go.Mir Go.Mir.Parts

/-! ### plain -/
def beN (l : List UInt8) : Nat := l.foldl (fun a b => 256 * a + b.toNat) 0
theorem beN_snoc (l : List UInt8) (b : UInt8) : beN (l ++ [b]) = 256 * beN l + b.toNat := by simp [beN, List.foldl_append]
theorem beN_lt_pow (l : List UInt8) : beN l < 256 ^ l.length := by
  suffices h : ∀ (a : Nat) (l : List UInt8), l.foldl (fun a b => 256 * a + b.toNat) a < (a + 1) * 256 ^ l.length by
    have := h 0 l
    rwa [Nat.zero_add, Nat.one_mul] at this
  intro a l
  induction l generalizing a with
  | nil => simp
  | cons b l ih =>
    have h1 := ih (256 * a + b.toNat)
    have h2 := b.toNat_lt
    have h3 : (256 * a + b.toNat + 1) * 256 ^ l.length ≤ ((a + 1) * 256) * 256 ^ l.length := Nat.mul_le_mul_right _ (by omega)
    rw [List.foldl_cons, List.length_cons, Nat.pow_succ, Nat.mul_comm (256 ^ l.length) 256, ← Nat.mul_assoc]
    omega
theorem beN_lt (l : List UInt8) (h : l.length ≤ 8) : beN l < 18446744073709551616 := by
  have h1 := beN_lt_pow l
  have h2 : 256 ^ l.length ≤ 256 ^ 8 := Nat.pow_le_pow_right (by omega) h
  have h3 : (256 : Nat) ^ 8 = 18446744073709551616 := by decide
  omega
theorem or_byte (x b : Nat) (hb : b < 256) : (256 * x ||| b) = 256 * x + b := by
  have := Nat.two_pow_add_eq_or_of_lt (i := 8) (b := b) (by omega) x
  rw [show (2 : Nat) ^ 8 = 256 from rfl] at this
  exact this.symm
def fitsW (n : Int) : Bool := decide (1 ≤ n) && decide (n ≤ 8)
def RD.numV (s : RD) (n : Int) : Nat := beN (s.takeB n (fitsW n))
def RD.numS (s : RD) (n : Int) : RD := s.takeS n (fitsW n)
theorem takeB_len (s : RD) (n : Int) (fits : Bool) : ((s.takeB n fits).length : Int) ≤ (if 0 ≤ n then n else 0) := by
  unfold RD.takeB
  split
  · rename_i h
    rw [List.length_take, if_pos h.2.2.1]
    omega
  · split <;> simp <;> omega
theorem takeW_len (s : RD) (n : Int) : (s.takeB n (fitsW n)).length ≤ 8 := by
  unfold RD.takeB
  split
  · rename_i h
    have h2 := h.2.1
    simp [fitsW] at h2
    rw [List.length_take]
    omega
  · simp
def NumP (base rb : Nat) (s : RD) (n : Int) (w : World) (e : Ending) (w' : World) : Prop := e = .returned (.int .u64 (s.numV n : Int)) ∧ LeftR base rb (s.numS n) w w'

set_option maxRecDepth 100000 in
set_option maxHeartbeats 1600000 in
theorem num_any {base rb : Nat} {s : RD} (w : World) (h : RAt w base rb s) (n : Int) (hn : -9223372036854775808 ≤ n ∧ n ≤ 9223372036854775807) :
    Calls Tryz.prog 27 #[.pointer (some ⟨rb, 0, none⟩), .int .i64 n] w (NumP base rb s n w) := by
  have HT := Lib.hid (take_any w h n hn (fitsW n))
  have HF : Hid (∀ w', LeftR base rb (s.numS n) w w' → NumP base rb s n w (.returned (.int .u64 (s.numV n : Int))) w') := fun w' hl => ⟨rfl, hl⟩
  have hl8 := takeW_len s n
  clear h
  generalize hfw : fitsW n = fw at *
  have hnumS : s.numS n = s.takeS n fw := by unfold RD.numS; rw [hfw]
  have hnumV : s.numV n = beN (s.takeB n fw) := by unfold RD.numV; rw [hfw]
  rw [hnumS, hnumV] at HF
  generalize hL : s.takeB n fw = L at *
  have HLE := Lib.hid hL
  clear hL hnumS hnumV
  have hmain : ∀ a b : Bool, decide ((1 : Int) ≤ n) = a → decide (n ≤ 8) = b → fw = (a && b) → Calls Tryz.prog 27 #[.pointer (some ⟨rb, 0, none⟩), .int .i64 n] w (NumP base rb s n w) := by
    intro a b ha hb hab
    have HAB := Lib.hid hab
    clear hab
    cases a with
    | true =>
      obtain rfl : fw = b := HAB.out
      go_enter Tryz.func27, Tryz.ntmps27
      go_wp2_with fail
      refine HT.out.mono ?_
      rintro e w1 ⟨p, c, rfl, hbs, hl⟩
      rw [HLE.out] at hbs ⊢
      have HFIN := Lib.hid (HF.out _ hl)
      clear hl
      generalize hLn : L.length = m at *
      have HLN := Lib.hid hLn
      clear hLn
      have hle := hbs.le
      have hmax := hbs.max
      have HBS := Lib.hid hbs
      clear hbs
      go_wp2_with fail
      go_loop [5, 18] (fun x j => ∃ k : Nat, k ≤ m ∧ j = .int .i64 k ∧ x = .int .u64 (beN (L.take k) : Nat)) (fun _ j => m - (intOf j).toNat)
      case atStart => exact ⟨0, by omega, rfl, rfl⟩
      case round =>
        obtain ⟨k, hk, rfl, rfl⟩ := hrel
        have HLN := HLN
        by_cases hlt : k < m
        · have hd : decide ((k:Int) < m) = true := by simp; omega
          obtain ⟨b', o', rfl⟩ := HBS.out.addr (by omega) (by omega)
          have hc' := HBS.out.byte (j := k) (by rw [HLN.out]; omega)
          have hti := take_snoc L k (by rw [HLN.out]; omega)
          have hyl : L[k]'(by rw [HLN.out]; omega) = L[k]'(by rw [HLN.out]; omega) := rfl
          have hbe := beN_snoc (L.take k) (L[k]'(by rw [HLN.out]; omega))
          rw [← hti] at hbe
          have hb1 := beN_lt (L.take (k + 1)) (by rw [List.length_take, HLN.out]; omega)
          generalize hly : L[k]'(by rw [HLN.out]; omega) = y at *
          clear hly hyl hti
          have hll : y.toNat < 256 := y.toNat_lt
          generalize hB : beN (L.take k) = B at *
          generalize hB2 : beN (L.take (k + 1)) = B2 at *
          have HB2 := Lib.hid hB2
          have HBE := Lib.hid hbe
          have hw : IntKind.u64.wrap ((B : Int) * 256) = ((256 * B : Nat) : Int) := by
            rw [IntKind.wrap_u64]
            omega
          have hor : bits .or .u64 ((256 * B : Nat) : Int) ((y.toNat : Nat) : Int) = (B2 : Int) := by
            rw [u64_or_nat _ _ (by omega) (by omega), or_byte _ _ hll, hbe]
          have HOR := Lib.hid hor
          have HW := Lib.hid hw
          clear hB hB2 hbe hor hw
          go_wp2_with fail
          go_round
          case rel =>
            exact ⟨k + 1, by omega, by go_num, by rw [HW.out, HOR.out, HB2.out]⟩
          case measure => simp [intOf]; omega
        · obtain rfl : k = m := by omega
          rw [← HLN.out, List.take_length]
          go_wp2_with fail
          go_ret
          exact HFIN.out
    | false =>
      obtain rfl : fw = false := HAB.out
      clear hb
      go_enter Tryz.func27, Tryz.ntmps27
      go_wp2_with fail
      refine HT.out.mono ?_
      rintro e w1 ⟨p, c, rfl, hbs, hl⟩
      rw [HLE.out] at hbs ⊢
      have HFIN := Lib.hid (HF.out _ hl)
      clear hl
      generalize hLn : L.length = m at *
      have HLN := Lib.hid hLn
      clear hLn
      have hle := hbs.le
      have hmax := hbs.max
      have HBS := Lib.hid hbs
      clear hbs
      go_wp2_with fail
      go_loop [5, 18] (fun x j => ∃ k : Nat, k ≤ m ∧ j = .int .i64 k ∧ x = .int .u64 (beN (L.take k) : Nat)) (fun _ j => m - (intOf j).toNat)
      case atStart => exact ⟨0, by omega, rfl, rfl⟩
      case round =>
        obtain ⟨k, hk, rfl, rfl⟩ := hrel
        have HLN := HLN
        by_cases hlt : k < m
        · have hd : decide ((k:Int) < m) = true := by simp; omega
          obtain ⟨b', o', rfl⟩ := HBS.out.addr (by omega) (by omega)
          have hc' := HBS.out.byte (j := k) (by rw [HLN.out]; omega)
          have hti := take_snoc L k (by rw [HLN.out]; omega)
          have hyl : L[k]'(by rw [HLN.out]; omega) = L[k]'(by rw [HLN.out]; omega) := rfl
          have hbe := beN_snoc (L.take k) (L[k]'(by rw [HLN.out]; omega))
          rw [← hti] at hbe
          have hb1 := beN_lt (L.take (k + 1)) (by rw [List.length_take, HLN.out]; omega)
          generalize hly : L[k]'(by rw [HLN.out]; omega) = y at *
          clear hly hyl hti
          have hll : y.toNat < 256 := y.toNat_lt
          generalize hB : beN (L.take k) = B at *
          generalize hB2 : beN (L.take (k + 1)) = B2 at *
          have HB2 := Lib.hid hB2
          have HBE := Lib.hid hbe
          have hw : IntKind.u64.wrap ((B : Int) * 256) = ((256 * B : Nat) : Int) := by
            rw [IntKind.wrap_u64]
            omega
          have hor : bits .or .u64 ((256 * B : Nat) : Int) ((y.toNat : Nat) : Int) = (B2 : Int) := by
            rw [u64_or_nat _ _ (by omega) (by omega), or_byte _ _ hll, hbe]
          have HOR := Lib.hid hor
          have HW := Lib.hid hw
          clear hB hB2 hbe hor hw
          go_wp2_with fail
          go_round
          case rel =>
            exact ⟨k + 1, by omega, by go_num, by rw [HW.out, HOR.out, HB2.out]⟩
          case measure => simp [intOf]; omega
        · obtain rfl : k = m := by omega
          rw [← HLN.out, List.take_length]
          go_wp2_with fail
          go_ret
          exact HFIN.out
  exact hmain _ _ rfl rfl (by rw [← hfw]; rfl)

def BytesP (base rb : Nat) (s : RD) (n : Int) (w : World) (e : Ending) (w' : World) : Prop :=
  ∃ p c, e = .returned (.slice p (s.takeB n true).length c) ∧ w'.ownsRow w.heap.size 5 1 (.slice p (s.takeB n true).length c) (s.takeB n true).length (bytesV (s.takeB n true)) ∧ LeftR base rb (s.takeS n true) w w'
def RD.cntS (s : RD) (width most : Int) : RD := if most < 0 ∨ most < (s.numV width : Int) then (s.numS width).fail 4 else s.numS width
def RD.cntV (s : RD) (width most : Int) : Int := if (s.cntS width most).bad = none then (s.numV width : Int) else 0
def CountP (base rb : Nat) (s : RD) (n m : Int) (w : World) (e : Ending) (w' : World) : Prop := e = .returned (.int .i64 (s.cntV n m)) ∧ LeftR base rb (s.cntS n m) w w'
theorem numV_lt (s : RD) (n : Int) : s.numV n < 18446744073709551616 := beN_lt _ (takeW_len s n)
theorem RAt.cells {w : World} {base rb : Nat} {s : RD} (h : RAt w base rb s) : ∃ bv, w.cell? ⟨rb, 3, none⟩ = some bv ∧ FaultAt w base s.bad bv := by
  obtain ⟨v, bv, h⟩ := h
  exact ⟨bv, h.cells.2.2.2.1, h.fault⟩
end Go.Proofs.YtmphajilnkgcaaaGreatDoor.Rdr

namespace Go.Mir
open Go.RowKit

section
variable {P : Program} {ops : Array Oper} {S : World → Prop} {Q : Exit → Act → World → Prop} {marks : List Nat}
/-- it waits for i, by a path of edges -/
def waitsB (ops : Array Oper) : Nat → Nat → Nat → Bool
  | 0, _, _ => false
  | n + 1, j, i => match ops[j]? with
    | some o => o.after.any fun e => Region.binds .any e && (e.on == i || waitsB ops n e.on i)
    | none => false
/-- it waits for every marked operation -/
def lateB (ops : Array Oper) (marks : List Nat) (j : Nat) : Bool := marks.all fun i => waitsB ops 16 j i
/-- what is listed had all that it waits for listed -/
def closedL (ops : Array Oper) (listed : Array Bool) : Prop := ∀ (j : Nat) (o : Oper), ops[j]? = some o → listed.getD j false = true → ∀ e ∈ o.after, Region.binds .any e = true → listed.getD e.on false = true
theorem waits_listed {listed : Array Bool} (hc : closedL ops listed) {i : Nat} : ∀ (n j : Nat) (o : Oper), ops[j]? = some o → (∀ e ∈ o.after, Region.binds .any e = true → listed.getD e.on false = true) → waitsB ops n j i = true → listed.getD i false = true
  | 0, _, _, _, _, h => by cases h
  | n + 1, j, o, ho, hall, h => by
    simp only [waitsB, ho] at h
    rw [Array.any_eq_true] at h
    obtain ⟨k, hk, h4⟩ := h
    simp only [Bool.and_eq_true, Bool.or_eq_true, beq_iff_eq] at h4
    have hl := hall _ (Array.getElem_mem hk) h4.1
    rcases h4.2 with h5 | h5
    · rw [h5] at hl; exact hl
    · cases ho2 : ops[o.after[k].on]? with
      | none => cases n with
        | zero => cases h5
        | succ m => simp [waitsB, ho2] at h5
      | some o2 => exact waits_listed hc n _ o2 ho2 (hc _ o2 ho2 hl) h5
theorem closedL.set {listed : Array Bool} (hc : closedL ops listed) {j : Nat} (hj : j ∈ Region.ready .any ops listed) : closedL ops (listed.setIfInBounds j true) := fun k o ho hk e he hb => by
  obtain ⟨_, oj, hoj, hall⟩ := mem_ready.1 hj
  by_cases hjk : j = k
  · subst hjk
    rw [hoj] at ho
    cases ho
    exact getD_set_true (hall e he hb)
  · rw [getD_set_ne false hjk] at hk
    exact getD_set_true (hc k o ho hk e he hb)
/-- whichever comes up: S is asked only behind what can come ahead of a marked operation -/
def wpAnyG (P : Program) (ops : Array Oper) (Q : Exit → Act → World → Prop) (S : World → Prop) (marks : List Nat) : Nat → Array Bool → Act → World → Prop
  | 0, listed, a, w => Region.ready .any ops listed = [] ∧ Q .normal a w
  | n + 1, listed, a, w => (Region.ready .any ops listed = [] → Q .normal a w) ∧
    ∀ i ∈ Region.ready .any ops listed, wpOp P ops Q i (fun a' w' => (lateB ops marks i = false → S w') ∧ wpAnyG P ops Q S marks n (listed.setIfInBounds i true) a' w') a w
theorem wpAny_of_G : ∀ (n : Nat) (listed : Array Bool) (a : Act) (w : World), wpAnyG P ops Q S marks n listed a w → wpAny P .any ops Q n listed a w
  | 0, _, _, _, h => h
  | n + 1, _, _, _, h => ⟨h.1, fun i hi => wpOp_mono (fun a' w' h' => wpAny_of_G n _ a' w' h'.2) (h.2 i hi)⟩
theorem wpAnyG_take {i : Nat} {oi : Oper} {v : Value} (hi : ops[i]? = some oi) (hmk : i ∈ marks) (hsel : ∀ (j : Nat) (o : Oper) cs b, ops[j]? = some o → o.op ≠ .select cs b)
    (hQ : ∀ c a w, Q (.panic c) (a.put oi.dst v) w → Q (.panic c) a w) :
    ∀ (n : Nat) (listed : Array Bool) (a : Act) (w : World),
      (∀ j oj, ops[j]? = some oj → j ≠ i → listed.getD j true = false → (∀ e ∈ oj.after, Region.binds .any e = true → e.on ≠ i) → oi.apart ops oj = true) →
      i ∈ Region.ready .any ops listed → closedL ops listed → YieldsIf P ops S oi v a → S w →
      wpAnyG P ops Q S marks n (listed.setIfInBounds i true) (a.put oi.dst v) w → wpAnyG P ops Q S marks (n + 1) listed a w := by
  intro n
  induction n with
  | zero =>
    intro listed a w _ hr hcl hy hS H
    refine ⟨fun h => absurd (h ▸ hr) List.not_mem_nil, fun j hj => ?_⟩
    by_cases hji : j = i
    · subst hji; exact hy.wpOp hi hS ⟨fun _ => hS, H⟩
    · exact absurd (H.1 ▸ ready_mono hj hji) List.not_mem_nil
  | succ n ih =>
    intro listed a w hfree hr hcl hy hS H
    refine ⟨fun h => absurd (h ▸ hr) List.not_mem_nil, fun j hj => ?_⟩
    by_cases hji : j = i
    · subst hji; exact hy.wpOp hi hS ⟨fun _ => hS, H⟩
    obtain ⟨hjun, oj, hoj, hall⟩ := mem_ready.1 hj
    have hiun := (mem_ready.1 hr).1
    have hno : ∀ e ∈ oj.after, Region.binds .any e = true → e.on ≠ i := fun e he hb heq => by
      have h1 := hall e he hb
      rw [heq] at h1
      rcases Nat.lt_or_ge i listed.size with h' | h'
      · simp [h'] at hiun h1; rw [hiun] at h1; cases h1
      · simp [Array.getElem?_eq_none h'] at h1
    have hlate : lateB ops marks j = false := by
      cases hl : lateB ops marks j with
      | false => rfl
      | true =>
        simp only [lateB, List.all_eq_true] at hl
        have h3 := waits_listed hcl 16 j oj hoj hall (hl i hmk)
        rcases Nat.lt_or_ge i listed.size with h' | h'
        · simp [h'] at hiun h3; rw [hiun] at h3; cases h3
        · simp [Array.getElem?_eq_none h'] at h3
    have h2 := wpOp_putIf hoj (hfree j oj hoj hji hjun hno) (fun cs b => hsel i oi cs b hi) (fun cs b => hsel j oj cs b hoj) hQ hy (H.2 j (ready_mono hj hji))
    refine wpOp_mono (fun a' w' h3 => ⟨h3.2.1, ih (listed.setIfInBounds j true) a' w' ?_ (ready_mono hr (Ne.symm hji)) (hcl.set hj) h3.1 (h3.2.1 hlate) ?_⟩) h2
    · intro k ok hk hki hun hn'
      refine hfree k ok hk hki ?_ hn'
      by_cases hjk : j = k
      · subst hjk; exact hjun
      · rw [getD_set_ne true hjk] at hun; exact hun
    · rw [Array.setIfInBounds_comm _ _ hji]
      exact h3.2.2
/-- the plan: what is taken or called while S stands; then what is late -/
def planT (ops : Array Oper) (marks : List Nat) : List Nat → Array Bool → Bool
  | j :: t, l => (ops[j]?).isSome && Region.ready .any ops l == [j] && lateB ops marks j && planT ops marks t (l.setIfInBounds j true)
  | [], l => (Region.ready .any ops l).isEmpty
def planG (ops : Array Oper) (marks : List Nat) (t : List Nat) : List (Nat × Bool) → Array Bool → Bool
  | (i, true) :: r, l => (ops[i]?).isSome && marks.contains i && Region.free .any ops l i && (Region.ready .any ops l).contains i && planG ops marks t r (l.setIfInBounds i true)
  | (i, false) :: r, l => (ops[i]?).isSome && Region.ready .any ops l == [i] && planG ops marks t r (l.setIfInBounds i true)
  | [], l => planT ops marks t l
def tailOps (l : List Oper) : List Nat → List Oper
  | [] => []
  | j :: t => match nthO l j with
    | some o => o :: tailOps l t
    | none => tailOps l t
/-- the walk: while S stands, and on -/
def wpEagerT (P : Program) (ops : Array Oper) (S : World → Prop) (Q : Exit → Act → World → Prop) (T : List Oper) : List (Oper × Bool) → Act → World → Prop
  | [], a, w => wpList P ops Q T a w
  | (o, true) :: r, a, w => ∃ v, YieldsIf P ops S o v a ∧ wpEagerT P ops S Q T r (a.put o.dst v) w
  | (o, false) :: r, a, w => if Region.wanted o (yielded ops a.tmps) then o.wp P a w (fun a' w' => S w' ∧ wpEagerT P ops S Q T r a' w') Q else wpEagerT P ops S Q T r (a.put o.dst undef) w
theorem wpAnyG_late {l : List Oper} (hl : l.toArray = ops) (hs : Region.noSelect ops = true) : ∀ (t : List Nat) (listed : Array Bool) (a : Act) (w : World), planT ops marks t listed = true → wpList P ops Q (tailOps l t) a w → wpAnyG P ops Q S marks t.length listed a w
  | [], listed, a, w, hp, h => by
    simp only [planT, List.isEmpty_iff] at hp
    exact ⟨hp, h⟩
  | j :: t, listed, a, w, hp, h => by
    simp only [planT, Bool.and_eq_true, beq_iff_eq] at hp
    obtain ⟨⟨⟨h1, h2⟩, h3⟩, h4⟩ := hp
    obtain ⟨o, ho⟩ := Option.isSome_iff_exists.1 h1
    have hn : nthO l j = some o := by rw [← nthO_eq, hl]; exact ho
    simp only [tailOps, hn] at h
    refine ⟨fun e => (by rw [h2] at e; cases e), fun i hi => ?_⟩
    rw [h2, List.mem_singleton] at hi
    subst hi
    unfold wpOp
    simp only [ho]
    unfold wpList at h
    split at h
    · rename_i hw
      rw [if_pos hw]
      exact h.imp (fun h => Oper.wp_mono (fun a' w' h5 => ⟨fun e => (by rw [h3] at e; cases e), wpAnyG_late hl hs t _ _ _ h4 h5⟩) h) id
    · rename_i hw
      rw [if_neg hw]
      exact ⟨fun e => (by rw [h3] at e; cases e), wpAnyG_late hl hs t _ _ _ h4 h⟩
theorem wpAnyG_plan {l : List Oper} (hl : l.toArray = ops) (hs : Region.noSelect ops = true) (hQ : ∀ c a d v w, Q (.panic c) (a.put d v) w → Q (.panic c) a w) (t : List Nat) :
    ∀ (π : List (Nat × Bool)) (listed : Array Bool) (a : Act) (w : World), planG ops marks t π listed = true → closedL ops listed → S w → wpEagerT P ops S Q (tailOps l t) (planOps l π) a w → wpAnyG P ops Q S marks (π.length + t.length) listed a w
  | [], listed, a, w, hp, _, _, h => by
    rw [List.length_nil, Nat.zero_add]
    exact wpAnyG_late hl hs t _ _ _ hp h
  | (i, true) :: r, listed, a, w, hp, hcl, hS, h => by
    simp only [planG, Bool.and_eq_true] at hp
    obtain ⟨⟨⟨⟨h1, hmk⟩, h2⟩, h3⟩, h4⟩ := hp
    obtain ⟨o, ho⟩ := Option.isSome_iff_exists.1 h1
    have hn : nthO l i = some o := by rw [← nthO_eq, hl]; exact ho
    simp only [planOps, hn, wpEagerT] at h
    obtain ⟨v, hy, h⟩ := h
    rw [List.length_cons, Nat.add_right_comm]
    exact wpAnyG_take ho (by simpa using hmk) (Region.noSelect_spec hs) (fun c a w => hQ c a _ _ w) _ _ _ _ (Region.free_spec ho h2) (by simpa using h3) hcl hy hS (wpAnyG_plan hl hs hQ t r _ _ _ h4 (hcl.set (by simpa using h3)) hS h)
  | (i, false) :: r, listed, a, w, hp, hcl, hS, h => by
    simp only [planG, Bool.and_eq_true, beq_iff_eq] at hp
    obtain ⟨⟨h1, h2⟩, h4⟩ := hp
    obtain ⟨o, ho⟩ := Option.isSome_iff_exists.1 h1
    have hn : nthO l i = some o := by rw [← nthO_eq, hl]; exact ho
    simp only [planOps, hn, wpEagerT] at h
    rw [List.length_cons, Nat.add_right_comm]
    refine ⟨fun e => (by rw [h2] at e; cases e), fun j hj => ?_⟩
    rw [h2, List.mem_singleton] at hj
    subst hj
    unfold wpOp
    simp only [ho]
    split at h
    · rename_i hw
      rw [if_pos hw]
      exact .inl (Oper.wp_mono (fun a' w' ⟨h5, h6⟩ => ⟨fun _ => h5, wpAnyG_plan hl hs hQ t r _ _ _ h4 (hcl.set (by rw [h2]; exact List.mem_singleton.2 rfl)) h5 h6⟩) h)
    · rename_i hw
      rw [if_neg hw]
      exact ⟨fun _ => hS, wpAnyG_plan hl hs hQ t r _ _ _ h4 (hcl.set (by rw [h2]; exact List.mem_singleton.2 rfl)) hS h⟩
/-- the beginning -/
theorem wp_region_eager_t {id : Nat} {a : Act} {w : World} {l : List Oper} (S : World → Prop) (marks : List Nat) (π : List (Nat × Bool)) (t : List Nat) (hm : P.follows .mixedOrders = true)
    (hp : (planG l.toArray marks t π (Array.replicate l.length false) && Region.noSelect l.toArray && π.length + t.length == l.length) = true) (hS : S w.drew)
    (h : wpEagerT P l.toArray S (NoPanic Q) (tailOps l t) (planOps l π) a w.drew) : (Code.region id l.toArray true).wp P Q a w := by
  refine wp_region_noPanic ?_
  simp only [Bool.and_eq_true, beq_iff_eq] at hp
  obtain ⟨⟨h1, h2⟩, h3⟩ := hp
  have := wpAny_of_G _ _ _ _ (wpAnyG_plan (P := P) (Q := NoPanic Q) (S := S) (marks := marks) (l := l) rfl h2 (fun _ _ _ _ _ h => h) t π (Array.replicate l.length false) a w.drew h1 (fun j o _ hj => by rw [Array.getD_eq_getD_getElem?, Array.getElem?_replicate] at hj; split at hj <;> cases hj) hS h)
  refine wp_region_any hm ?_
  rw [h3] at this
  have hz : l.toArray.size = l.length := List.size_toArray ..
  rw [hz]
  exact this
/-- the next operation, written out -/
theorem eagerTOpen {l : List Oper} {T : List Oper} {i : Nat} {b : Bool} {r : List (Nat × Bool)} {a : Act} {w : World} {o : Oper} (ho : nthO l i = some o)
    (h : wpEagerT P ops S Q T ((o, b) :: planOps l r) a w) : wpEagerT P ops S Q T (planOps l ((i, b) :: r)) a w := by
  unfold planOps; rw [ho]; exact h
theorem eagerTEnd {l : List Oper} {T : List Oper} {a : Act} {w : World} (h : wpList P ops Q T a w) : wpEagerT P ops S Q T (planOps l []) a w := h
theorem tail1 {l : List Oper} {j : Nat} {a : Act} {w : World} {o : Oper} (ho : nthO l j = some o) (h : wpList P ops Q [o] a w) : wpList P ops Q (tailOps l [j]) a w := by
  simp only [tailOps, ho]; exact h
theorem tail2 {l : List Oper} {j k : Nat} {a : Act} {w : World} {o o' : Oper} (ho : nthO l j = some o) (ho' : nthO l k = some o') (h : wpList P ops Q [o, o'] a w) : wpList P ops Q (tailOps l [j, k]) a w := by
  simp only [tailOps, ho, ho']; exact h
theorem wpEagerT_tail {T : List Oper} {a : Act} {w : World} (h : wpList P ops Q T a w) : wpEagerT P ops S Q T [] a w := h
theorem wpEagerT_take {T : List Oper} {o : Oper} {r : List (Oper × Bool)} {a : Act} {w : World} {v : Value} (hw : Region.wanted o (yielded ops a.tmps) = true)
    (hy : ∀ w', S w' → (execOp a.eval o).run P w' = .ok (.value v) w') (h : wpEagerT P ops S Q T r (a.put o.dst v) w) : wpEagerT P ops S Q T ((o, true) :: r) a w := ⟨v, .inl ⟨hw, hy⟩, h⟩
theorem wpEagerT_skip {T : List Oper} {o : Oper} {r : List (Oper × Bool)} {a : Act} {w : World} (hw : Region.wanted o (yielded ops a.tmps) = false)
    (h : wpEagerT P ops S Q T r (a.put o.dst undef) w) : wpEagerT P ops S Q T ((o, true) :: r) a w := ⟨undef, .inr ⟨hw, rfl⟩, h⟩
theorem wpEagerT_load {T : List Oper} {op : Oper} {r : List (Oper × Bool)} {a : Act} {w : World} (hw : Region.wanted op (yielded ops a.tmps) = true) (ty : TypeId) (x : Operand) (ho : op.op = .load ty x)
    (b o : Nat) (hx : a.eval x = .pointer (some ⟨b, o, none⟩)) (M : Array Value) (d : TypeDesc) (hc : ∀ w', S w' → w'.rangeAt b o M.toList)
    (hu : P.underlying ty = some d) (hd : d.isRow = true) (hi : (P.info? ty).map (·.size) = some M.size)
    (h : wpEagerT P ops S Q T r (a.put op.dst (.agg M)) w) : wpEagerT P ops S Q T ((op, true) :: r) a w := by
  refine wpEagerT_take hw (fun w' hb => ?_) h
  unfold execOp
  simp only [ho, hx, Instr.loadAt, Instr.sureAddr, Sem.run_bind, Sem.run_pure, Result.andThen_ok, run_loadVar_mid w' b o ty M.toList d (hc w' hb) hu hd (by simpa using hi)]
theorem wpEagerT_op {T : List Oper} {o : Oper} {r : List (Oper × Bool)} {a : Act} {w : World} (hw : Region.wanted o (yielded ops a.tmps) = true)
    (h : ∀ K : Act → World → Prop, Shut (∀ a w, S w → wpEagerT P ops S Q T r a w → K a w) → Oper.wp P o a w K Q) : wpEagerT P ops S Q T ((o, false) :: r) a w := by
  unfold wpEagerT; rw [if_pos hw]; exact h _ fun _ _ h1 h2 => ⟨h1, h2⟩
theorem eagerTLoadAt {T : List Oper} {r : List (Oper × Bool)} {a : Act} {w : World} (n : Nat) {d : Option Nat} {ty : TypeId} {t : TypeId} {p : String} {af : Array Edge} {g : Option (Nat × Bool)} {b : Bool}
    (h : wpEagerT P ops S Q T ((⟨d, .load ty (.tmp n), t, p, af, g⟩, b) :: r) a w) : wpEagerT P ops S Q T ((⟨d, .load ty (.tmp n), t, p, af, g⟩, b) :: r) a w := h
end
/-- where an operation alone ends -/
def OnlyQ (K : Act → World → Prop) (Q : Exit → Act → World → Prop) : Exit → Act → World → Prop
  | .normal, a, w => K a w
  | .panic c, a, w => Q (.panic c) a w
  | _, _, _ => False
/-- an operation by its law for a list -/
theorem oper_of_list {P : Program} {o : Oper} {a : Act} {w : World} {K : Act → World → Prop} {Q : Exit → Act → World → Prop} (hg : o.guard = none)
    (h : wpList P #[] (OnlyQ K Q) [o] a w) : Oper.wp P o a w K Q := by
  have hno : ¬ LetsOut (OnlyQ K Q) := fun ⟨_, _, h⟩ => h
  unfold wpList at h
  rw [if_pos (by simp [Region.wanted, hg])] at h
  rcases h with h | ⟨_, h⟩
  · replace h : Oper.wp P o a w K (OnlyQ K Q) := h
    unfold Oper.wp at h ⊢
    unfold Oper.upon at h ⊢
    split at h
    · exact h
    · exact h
    · exact h
    · refine Calls.mono h ?_
      intro e w' he
      cases e with
      | returned v => exact he
      | panicked c => exact he
      | outgrown => exact absurd he hno
    · exact h
    · exact h
    · exact h.elim
  · exact absurd h hno
theorem only_end {P : Program} {ops : Array Oper} {K : Act → World → Prop} {Q : Exit → Act → World → Prop} {a : Act} {w : World} (h : K a w) : wpList P ops (OnlyQ K Q) [] a w := h
theorem noPanic_end {Q : Exit → Act → World → Prop} {a : Act} {w : World} (h : Q .normal a w) : NoPanic Q .normal a w := h
end Go.Mir

namespace Go.Proofs.YtmphajilnkgcaaaGreatDoor.Rdr
open Go.RowKit Go.Mir Go.Mir.Parts

theorem wpList_copy_turn {P : Program} {w : World} {ops : Array Oper} {rest : List Oper} {o : Oper} {a : Act} {Q : Exit → Act → World → Prop} (hgd : o.guard = none) (d s : Operand) (dT sT : TypeId)
    (ho : o.op = .call { callee := .builtin .copy, args := #[d, s], argTypes := #[dT, sT] }) (elem : TypeId) (hu : P.underlying dT = some (.slice elem)) (hsz : (P.info? elem).map (·.size) = some 1)
    (dp sp : Option Addr) (dLen dCap sLen sCap : Nat) (hd : a.eval d = .slice dp dLen dCap) (hs : a.eval s = .slice sp sLen sCap)
    (g off : Nat) (cur : Array Value) (t : TypeId) (hg : w.heap[g]? = some (.cells cur t (0, 0))) (cs : List Value) (hn : cs.length = Nat.min sLen dLen)
    (hpos : 0 < cs.length → dp = some ⟨g, off, none⟩ ∧ ∃ ad, sp = some ad ∧ ∀ j v, cs[j]? = some v → w.cell? (ad.add j) = some v)
    (hfit : off + cs.length ≤ cur.size) (h1 : ∀ v ∈ cs, v.oneCell' = true)
    (h : ∀ w', Hid (w'.heap[g]? = some (.cells (cur.toList.take off ++ (cs ++ cur.toList.drop (off + cs.length))).toArray t (0, 0))) → Turns (fun k => k = g) w w' → wpList P ops Q rest (a.put o.dst (goInt cs.length)) w') :
    wpList P ops Q (o :: rest) a w := by
  by_cases h0 : cs.length = 0
  · obtain rfl : cs = [] := List.eq_nil_of_length_eq_zero h0
    refine wpList_copy_nothing hgd d s dT sT ho elem hu hsz dp sp dLen dCap sLen sCap hd hs (by simpa using hn.symm) ?_
    exact h w (show _ = _ by simpa using hg) (Turns.refl _ _)
  · obtain ⟨rfl, ad, rfl, hsrc⟩ := hpos (by omega)
    refine wpList_copy_own hgd d s dT sT ho elem hu hsz g off dLen dCap ad sLen sCap hd hs cur t hg cs hn hsrc hfit h1 ?_
    exact h _ (setRow_heap w g _ _ t _ hg) (turns_setRow w g _)
theorem bytesV_rep (n k : Nat) : (bytesV (List.replicate n 0)).drop k = bytesV (List.replicate (n - k) 0) := by unfold bytesV; rw [List.map_replicate, List.map_replicate, List.drop_replicate]
def RD.idV (s : RD) (n : Nat) : List UInt8 := s.takeB n true ++ List.replicate (n - (s.takeB n true).length) 0
def IdP (base rb : Nat) (s : RD) (n : Nat) (w : World) (e : Ending) (w' : World) : Prop := e = .returned (.agg (idA (s.idV n))) ∧ LeftR base rb (s.takeS n true) w w'
theorem RAt.touch {S : Nat → Prop} {w w' : World} {base rb : Nat} {s : RD} (h : RAt w base rb s) (ht : Turns S w w') (hS : ∀ k M t fr, w.heap[k]? = some (.cells M t fr) → (t = 5 ∨ t = 105 ∨ t = 89) → ¬ S k) : RAt w' base rb s := by
  obtain ⟨v, bv, h⟩ := h
  exact ⟨v, bv, ht.keep h.row (hS _ _ _ _ h.row (.inr (.inr rfl))), h.low, h.bytes.touch ht (fun k M fr hk => hS k M _ fr hk (.inl rfl)), h.fault.touch ht (fun k M fr hk => hS k M _ fr hk (.inr (.inl rfl))), h.at1, h.len⟩

def zid : Array Value := idA (List.replicate 32 0)
def zhint : Array Value := idA (List.replicate 16 0)
end Go.Proofs.YtmphajilnkgcaaaGreatDoor.Rdr

namespace Go.Proofs.YtmphajilnkgcaaaGreatDoor.Rdr
open Go.RowKit Go.Mir Go.Mir.Parts

theorem made_id (w : World) (y : List UInt8) (M : Array Value) (t : TypeId) (hM : M.toList = bytesV y) (hy : y.length = 32) : Sl (w.alloc (.cells M t)) (some ⟨w.heap.size, 0, none⟩) 1 1 32 (bytesV y) :=
  ⟨by rw [bytesV_length, hy], Nat.le_refl _, by omega, fun h => (by cases h), fun a ha j u hu => by
    obtain rfl := Option.some.inj ha
    rw [add_none, cell_of_row _ _ _ _ _ _ (heap_alloc_last _ _), ← Array.getElem?_toList, hM, Nat.zero_add]; exact hu⟩
theorem Bs.dropped {w : World} {b o n c : Nat} {l : List UInt8} (h : Bs w (some ⟨b, o, none⟩) n c l) (k : Nat) (hk : k ≤ n) : Bs w (some ⟨b, if c = k then o else o + k, none⟩) (n - k) (c - k) (l.drop k) := by
  have hn := h.length
  have h1 := h.le
  have h2 := h.max
  refine ⟨by rw [bytesV_length, List.length_drop, Nat.mul_one]; omega, by omega, by omega, fun hp => (by cases hp), fun a ha j u hu => ?_⟩
  obtain rfl := Option.some.inj ha
  have hj : j < l.length - k := by
    have := (List.getElem?_eq_some_iff.1 hu).1
    rwa [bytesV_length, List.length_drop] at this
  have h3 : (bytesV l)[k + j]? = some u := by
    simp only [bytesV, List.getElem?_map, List.getElem?_drop] at hu ⊢
    exact hu
  have := h.cell _ rfl (k + j) u h3
  rw [add_none] at this ⊢
  rw [if_neg (by omega), Nat.add_assoc]
  exact this
theorem run_from32 {b o n c : Nat} (hn : 32 ≤ n) (_hc : n ≤ c) (w0 : World) : (Instr.sliceAt 27 (.slice (some ⟨b, o, none⟩) n c) (some (.int .i64 32)) none none).run Tryz.prog w0 = .ok (.slice (some ⟨b, if c = 32 then o else o + 32, none⟩) (n - 32) (c - 32)) w0 := by
  have hsz : (Tryz.prog.info? 5).map (·.size) = some 1 := by kernel_rfl
  obtain ⟨i, hi, hi1⟩ := Option.map_eq_some_iff.1 hsz
  have hb1 : (32 : Int) ≤ (n : Int) := by omega
  simp [Instr.sliceAt, Instr.slice, run_underlying Tryz.underlying27, Instr.sliceBounds, Instr.sliceBound, asIntOf, sizeOf, typeInfo, hi, hi1, hb1]
  by_cases h : c = 32 <;> simp [h, add_none]
theorem run_upto32 {b o n c : Nat} (hn : 32 ≤ n) (hc : n ≤ c) (w0 : World) : (Instr.sliceAt 27 (.slice (some ⟨b, o, none⟩) n c) none (some (.int .i64 32)) none).run Tryz.prog w0 = .ok (.slice (some ⟨b, o, none⟩) 32 c) w0 := by
  have hsz : (Tryz.prog.info? 5).map (·.size) = some 1 := by kernel_rfl
  obtain ⟨i, hi, hi1⟩ := Option.map_eq_some_iff.1 hsz
  have hb1 : (32 : Int) ≤ (c : Int) := by omega
  simp [Instr.sliceAt, Instr.slice, run_underlying Tryz.underlying27, Instr.sliceBounds, Instr.sliceBound, asIntOf, sizeOf, typeInfo, hi, hb1]
  intro _
  rw [add_none, Nat.add_zero]
end Go.Proofs.YtmphajilnkgcaaaGreatDoor.Rdr

namespace Go.Proofs.YtmphajilnkgcaaaGreatDoor.Er
open Go.RowKit Go.Mir Go.Extern.Stop Go.Stop Go.Extern

/-! ### '==' between two errors of one integer type -/
theorem run_equalIn_iface_int {P : Program} (w : World) (d : Nat) {ti tn : TypeId} {ms : Array (String × TypeId)} {i : TypeInfo} {k : IntKind} (a b : Int)
    (hi : P.underlying ti = some (.interface ms)) (hn : P.underlying tn = some (.int k)) (hinfo : P.info? tn = some i) (hcomp : i.comparable = true) :
    (Op.equalIn (d + 2) ti (.iface tn (.int k a)) (.iface tn (.int k b))).run P w = .ok (a == b) w := by
  simp [Op.equalIn, run_underlying hi, run_underlying hn, typeInfo, hinfo, hcomp]
theorem run_eql_iface_int {P : Program} (w : World) {ti tn : TypeId} {ms : Array (String × TypeId)} {i : TypeInfo} {k : IntKind} (a b : Int)
    (hi : P.underlying ti = some (.interface ms)) (hn : P.underlying tn = some (.int k)) (hinfo : P.info? tn = some i) (hcomp : i.comparable = true) :
    (binOp .eql ti (.iface tn (.int k a)) (.iface tn (.int k b))).run P w = .ok (.bool (a == b)) w := by
  simp only [binOp]
  simp [Op.equal, Op.maxDepth, run_equalIn_iface_int w 9998 a b hi hn hinfo hcomp]

/-! ### closed facts: what errors.Is meets -/
theorem isTypeOf (v : Value) (w : World) : (Extern.ReflectliteType.typeOf #[.iface 23 v]).run Tryz.prog w = .ok (.iface 129 (.agg #[.pointer (some ⟨4, 23, none⟩)])) w := by kernel_rfl
def compF : Array Value → Sem Value := Extern.ReflectliteType.method fun t => do Rtype.noPackHeld "Comparable" t; pure (.bool (← typeInfo t).comparable)
theorem isComparable (w : World) : (compF #[.agg #[.pointer (some ⟨4, 23, none⟩)]]).run Tryz.prog w = .ok (.bool true) w := by kernel_rfl
theorem isMethodComparable (v : Value) (w : World) : (Go.method 277 129 v "Comparable").run Tryz.prog w = .ok (110, v) w := by kernel_rfl
theorem isComp : (Tryz.prog.info? 23).map (·.comparable) = some true := by kernel_rfl
theorem noIsF (v : Value) (xT : TypeId) (w : World) : (Instr.typeAssert (.iface 101 v) xT 131 true).run Tryz.prog w = .ok (.tuple #[.nilIface, .bool false]) w := run_typeAssert_lacksB Tryz.underlying131 (by kernel_rfl) (by kernel_rfl) v xT w
theorem hasUnwrapF (v : Value) (xT : TypeId) (w : World) : (Instr.typeAssert (.iface 101 v) xT 134 true).run Tryz.prog w = .ok (.tuple #[.iface 101 v, .bool true]) w := run_typeAssert_hasB Tryz.underlying134 (by kernel_rfl) v xT w
theorem noIsE (v : Value) (xT : TypeId) (w : World) : (Instr.typeAssert (.iface 23 v) xT 131 true).run Tryz.prog w = .ok (.tuple #[.nilIface, .bool false]) w := run_typeAssert_lacksB Tryz.underlying131 (by kernel_rfl) (by kernel_rfl) v xT w
theorem noUnwrapE (v : Value) (xT : TypeId) (w : World) : (Instr.typeAssert (.iface 23 v) xT 134 true).run Tryz.prog w = .ok (.tuple #[.nilIface, .bool false]) w := run_typeAssert_lacksB Tryz.underlying134 (by kernel_rfl) (by kernel_rfl) v xT w
theorem noUnwrapsE (v : Value) (xT : TypeId) (w : World) : (Instr.typeAssert (.iface 23 v) xT 136 true).run Tryz.prog w = .ok (.tuple #[.nilIface, .bool false]) w := run_typeAssert_lacksB Tryz.underlying136 (by kernel_rfl) (by kernel_rfl) v xT w
theorem methodUnwrap (v : Value) (w : World) : (Go.method 277 101 v "Unwrap").run Tryz.prog w = .ok (104, v) w := by kernel_rfl
/-- errors.Is(nil, x) -/
theorem is_nil (z : Int) (w : World) : Calls Tryz.prog 56 #[.nilIface, .iface 23 (.int .i64 z)] w fun e w' => e = .returned (.bool false) ∧ w = w' := by
  have hn := run_eql_iface_nil_left (P := Tryz.prog) w 23 (.int .i64 z) Tryz.underlying83
  go_enter Tryz.func56, Tryz.ntmps56
  go_wp2
  go_ret
  exact ⟨rfl, rfl⟩
/-- errors.Is(f, x), f a fault whose why is e -/
theorem is_fault (fb : Nat) (e z : Int) (w : World) (hc : w.cell? ⟨fb, 1, none⟩ = some (.int .i64 e)) :
    Calls Tryz.prog 56 #[.iface 101 (.pointer (some ⟨fb, 0, none⟩)), .iface 23 (.int .i64 z)] w fun ev w' => ev = .returned (.bool (e == z)) ∧ w = w' := by
  obtain ⟨i, hi, hcmp⟩ := Option.map_eq_some_iff.1 isComp
  have h8 := @run_callFunc_extern Tryz.prog 63 _ Extern.ReflectliteType.typeOf Tryz.func63 (by kernel_rfl) (by kernel_rfl) (by kernel_rfl) (by kernel_rfl)
  have h32 := @run_callFunc_extern Tryz.prog 110 _ compF Tryz.func110 (by kernel_rfl) (by kernel_rfl) (by kernel_rfl) (by kernel_rfl)
  have tT := isTypeOf
  have cT := isComparable
  have mR := isMethodComparable
  have nF := noIsF
  have uF := hasUnwrapF
  have nE := noIsE
  have uE := noUnwrapE
  have vE := noUnwrapsE
  have mU := methodUnwrap
  have heq := run_eql_iface_int (P := Tryz.prog) w e z Tryz.underlying83 Tryz.underlying23 hi hcmp
  have hty := run_eql_iface_types (P := Tryz.prog) 101 23 (.pointer (some ⟨fb, 0, none⟩)) (.int .i64 z) Tryz.underlying83 (by decide) w
  cases hez : e == z with
  | true =>
    rw [hez] at heq
    clear hez
    go_enter Tryz.func56, Tryz.ntmps56
    go_wp2
    refine wp_loop_rounds 2 ?_
    rw [rounds_succ]
    go_wp2
    rw [rounds_succ]
    go_wp2
    go_ret
    exact ⟨rfl, rfl⟩
  | false =>
    rw [hez] at heq
    clear hez
    go_enter Tryz.func56, Tryz.ntmps56
    go_wp2
    refine wp_loop_rounds 2 ?_
    rw [rounds_succ]
    go_wp2
    rw [rounds_succ]
    go_wp2
    go_ret
    exact ⟨rfl, rfl⟩
/-- errors.As(nil, target) -/
theorem as_nil (t : Value) (w : World) : Calls Tryz.prog 57 #[.nilIface, t] w fun e w' => e = .returned (.bool false) ∧ w = w' := by
  go_enter Tryz.func57, Tryz.ntmps57
  go_wp2
  go_ret
  exact ⟨rfl, rfl⟩

theorem valueOf27 (t : Addr) (w : World) : (ReflectliteValue.unpack (.iface 103 (.pointer (some t)))).run Tryz.prog w
    = .ok (.agg #[.pointer (some ⟨4, 103, none⟩), .pointer (some ⟨w.heap.size, 0, none⟩), .int .u64 150]) (w.alloc (.cells #[.pointer (some t)] 103)) := by kernel_rfl
theorem type27 (a : Addr) (w : World) : (ReflectliteValue.methodAny (ReflectliteValue.valueError "reflectlite.Value.Type" 0) (fun t _ _ _ => ReflectliteType.toType t) #[.agg #[.pointer (some ⟨4, 103, none⟩), .pointer (some a), .int .u64 150]]).run Tryz.prog w
    = .ok (.iface 129 (.agg #[.pointer (some ⟨4, 103, none⟩)])) w := by kernel_rfl
theorem methodKind (h : Value) (w : World) : (Go.method 277 129 (.agg #[h]) "Kind").run Tryz.prog w = .ok (96, h) w := by kernel_rfl
theorem kind27 (w : World) : ((ReflectliteType.abiMethod fun t => (fun a : Nat => Value.int IntKind.u8 (a : Int)) <$> Rtype.kind t) #[.pointer (some ⟨4, 103, none⟩)]).run Tryz.prog w = .ok (.int .u8 22) w := by kernel_rfl
theorem kind25 (w : World) : ((ReflectliteType.abiMethod fun t => (fun a : Nat => Value.int IntKind.u8 (a : Int)) <$> Rtype.kind t) #[.pointer (some ⟨4, 101, none⟩)]).run Tryz.prog w = .ok (.int .u8 22) w := by kernel_rfl


theorem rlm (z : Sem Value) (f : TypeId → Addr → Nat → Nat → Sem Value) (v : Value) :
    ReflectliteValue.method z f #[v] = (do match ← ReflectliteValue.parts v with | none => z | some (t, a, fl) => f t a fl (fl % 32)) := rfl
theorem parts27 (a : Addr) (w : World) : (ReflectliteValue.parts (.agg #[.pointer (some ⟨4, 103, none⟩), .pointer (some a), .int .u64 150])).run Tryz.prog w = .ok (some (103, a, 150)) w := by kernel_rfl

theorem isNil27 (a p : Addr) (W : World) (ha : W.cell? a = some (.pointer (some p))) :
    (ReflectliteValue.method (ReflectliteValue.valueError "reflectlite.Value.IsNil" 0) ReflectliteValue.isNil #[.agg #[.pointer (some ⟨4, 103, none⟩), .pointer (some a), .int .u64 150]]).run Tryz.prog W = .ok (.bool false) W := by
  rw [rlm]
  simp only [Sem.run_bind, parts27, Result.andThen]
  simp [ReflectliteValue.isNil, loadVar, isAgg, underlying, Tryz.underlying103, ha, Result.andThen]

theorem methodElem (h : Value) (w : World) : (Go.method 277 129 (.agg #[h]) "Elem").run Tryz.prog w = .ok (111, .agg #[h]) w := by kernel_rfl
theorem methodImplements (h : Value) (w : World) : (Go.method 277 129 (.agg #[h]) "Implements").run Tryz.prog w = .ok (112, .agg #[h]) w := by kernel_rfl
theorem methodAssignableTo (h : Value) (w : World) : (Go.method 277 129 (.agg #[h]) "AssignableTo").run Tryz.prog w = .ok (109, .agg #[h]) w := by kernel_rfl
theorem elem27 (w : World) : (ReflectliteType.method ReflectliteType.elem #[.agg #[.pointer (some ⟨4, 103, none⟩)]]).run Tryz.prog w = .ok (.iface 129 (.agg #[.pointer (some ⟨4, 101, none⟩)])) w := by kernel_rfl
theorem implements25 (w : World) : (ReflectliteType.relation "Implements" ReflectliteType.implements_ #[.agg #[.pointer (some ⟨4, 101, none⟩)], .iface 129 (.agg #[.pointer (some ⟨4, 83, none⟩)])]).run Tryz.prog w = .ok (.bool true) w := by kernel_rfl
theorem typeOf25 (v : Value) (w : World) : (ReflectliteType.typeOf #[.iface 101 v]).run Tryz.prog w = .ok (.iface 129 (.agg #[.pointer (some ⟨4, 101, none⟩)])) w := by kernel_rfl
theorem assignable25 (w : World) : (ReflectliteType.relation "AssignableTo" ReflectliteType.assignableTo #[.agg #[.pointer (some ⟨4, 101, none⟩)], .iface 129 (.agg #[.pointer (some ⟨4, 101, none⟩)])]).run Tryz.prog w = .ok (.bool true) w := by kernel_rfl
theorem valueOf25 (e : Addr) (w : World) : (ReflectliteValue.unpack (.iface 101 (.pointer (some e)))).run Tryz.prog w
    = .ok (.agg #[.pointer (some ⟨4, 101, none⟩), .pointer (some ⟨w.heap.size, 0, none⟩), .int .u64 150]) (w.alloc (.cells #[.pointer (some e)] 101)) := by kernel_rfl

theorem elemOf27 (w : World) : (Rtype.elem? 103).run Tryz.prog w = .ok (some 101) w := by kernel_rfl
theorem mk25 (p : Addr) (w : World) : (ReflectliteValue.mk 101 p ReflectliteValue.flagAddr).run Tryz.prog w = .ok (.agg #[.pointer (some ⟨4, 101, none⟩), .pointer (some p), .int .u64 406]) w := by kernel_rfl

theorem elemV27 (a p : Addr) (W : World) (ha : W.cell? a = some (.pointer (some p))) :
    (ReflectliteValue.method (ReflectliteValue.valueError "reflectlite.Value.Elem" 0) ReflectliteValue.elem #[.agg #[.pointer (some ⟨4, 103, none⟩), .pointer (some a), .int .u64 150]]).run Tryz.prog W
      = .ok (.agg #[.pointer (some ⟨4, 101, none⟩), .pointer (some p), .int .u64 406]) W := by
  rw [rlm]
  simp only [Sem.run_bind, parts27, Result.andThen]
  simp [ReflectliteValue.elem, loadVar, isAgg, underlying, Tryz.underlying103, ha, Result.andThen, elemOf27, mk25]
theorem rls (v x : Value) : ReflectliteValue.set #[v, x] = (do
    let (some (dst, a, fl), some (src, b, _)) := (← ReflectliteValue.parts v, ← ReflectliteValue.parts x)
      | unsupported (.noEntry "extern/(internal/reflectlite.Value).Set.zeroValue")
    if fl / ReflectliteValue.flagAddr % 2 == 0 then unsupported (.noEntry "extern/(internal/reflectlite.Value).Set.unaddressable")
    let val ← loadVar src b
    if ← Rtype.directlyAssignable dst src then storeVar dst a val
    else if ← Rtype.implements dst src then
      if (← Rtype.kind src) == 20 then
        match val with
        | .nilIface => unsupported (.noEntry "extern/reflectlite: a nil value of one interface type handed on as a value of another")
        | _ => storeVar dst a val
      else storeVar dst a (.iface src val)
    else panicString ("reflectlite.Set: value of type " ++ (← Rtype.spelt src) ++ " is not assignable to type " ++ (← Rtype.spelt dst))
    pure (.tuple #[])) := rfl
theorem parts25a (a : Addr) (w : World) : (ReflectliteValue.parts (.agg #[.pointer (some ⟨4, 101, none⟩), .pointer (some a), .int .u64 406])).run Tryz.prog w = .ok (some (101, a, 406)) w := by kernel_rfl
theorem parts25 (a : Addr) (w : World) : (ReflectliteValue.parts (.agg #[.pointer (some ⟨4, 101, none⟩), .pointer (some a), .int .u64 150])).run Tryz.prog w = .ok (some (101, a, 150)) w := by kernel_rfl
theorem direct25 (w : World) : (Rtype.directlyAssignable 101 101).run Tryz.prog w = .ok true w := by kernel_rfl
theorem size25 (w : World) : (sizeOf 101).run Tryz.prog w = .ok 1 w := by kernel_rfl

theorem set25 (ta b e : Addr) (old : Value) (W : World) (hb : W.cell? b = some (.pointer (some e))) (ht : W.cell? ta = some old) (hf : W.frozen? ta = false) :
    (ReflectliteValue.set #[.agg #[.pointer (some ⟨4, 101, none⟩), .pointer (some ta), .int .u64 406], .agg #[.pointer (some ⟨4, 101, none⟩), .pointer (some b), .int .u64 150]]).run Tryz.prog W
      = .ok (.tuple #[]) (W.setCell ta (.pointer (some e))) := by
  rw [rls]
  simp only [Sem.run_bind, parts25a, parts25, Result.andThen]
  simp [ReflectliteValue.flagAddr, loadVar, isAgg, underlying, Tryz.underlying101, hb, Result.andThen, direct25, storeVar, Value.cells, storeCells, Addr.add]
  rw [run_store Tryz.prog W ta _ _ (by rfl)]
  simp [ht, hf]

set_option maxHeartbeats 4000000 in
theorem as_hit (e t : Addr) (old : Value) (w : World) (hg : w.cell? ⟨0, 0, none⟩ = some (.iface 129 (.agg #[.pointer (some ⟨4, 83, none⟩)]))) (ht0 : w.cell? t = some old) (hf0 : w.frozen? t = false) :
    Calls Tryz.prog 57 #[.iface 101 (.pointer (some e)), .iface 103 (.pointer (some t))] w fun ev w' => ev = .returned (.bool true) ∧ w' = ((((w.alloc (.cells #[.pointer (some t)] 103)).alloc (.cells #[.pointer (some ⟨4, 103, none⟩), .pointer (some ⟨w.heap.size, 0, none⟩), .int .u64 150] 117)).alloc (.cells #[.pointer (some ⟨4, 103, none⟩), .pointer (some ⟨w.heap.size, 0, none⟩), .int .u64 150] 117)).alloc (.cells #[.pointer (some e)] 101)).setCell t (.pointer (some e)) := by
  have h6 := @run_callFunc_extern Tryz.prog 65 _ (fun args => ReflectliteValue.unpack (args.getD 0 (.tuple #[]))) Tryz.func65 (by kernel_rfl) (by kernel_rfl) (by kernel_rfl) (by kernel_rfl)
  have h7 := @run_callFunc_extern Tryz.prog 66 _ (ReflectliteValue.methodAny (ReflectliteValue.valueError "reflectlite.Value.Type" 0) (fun t _ _ _ => ReflectliteType.toType t)) Tryz.func66 (by kernel_rfl) (by kernel_rfl) (by kernel_rfl) (by kernel_rfl)
  have h8 := @run_callFunc_extern Tryz.prog 67 _ (ReflectliteValue.method (ReflectliteValue.valueError "reflectlite.Value.IsNil" 0) ReflectliteValue.isNil) Tryz.func67 (by kernel_rfl) (by kernel_rfl) (by kernel_rfl) (by kernel_rfl)
  have h27 := @run_callFunc_extern Tryz.prog 96 _ (ReflectliteType.abiMethod fun t => do pure (.int .u8 (← Rtype.kind t))) Tryz.func96 (by kernel_rfl) (by kernel_rfl) (by kernel_rfl) (by kernel_rfl)
  have h37 := @run_callFunc_extern Tryz.prog 111 _ (ReflectliteType.method ReflectliteType.elem) Tryz.func111 (by kernel_rfl) (by kernel_rfl) (by kernel_rfl) (by kernel_rfl)
  have h38 := @run_callFunc_extern Tryz.prog 112 _ (ReflectliteType.relation "Implements" ReflectliteType.implements_) Tryz.func112 (by kernel_rfl) (by kernel_rfl) (by kernel_rfl) (by kernel_rfl)
  have h10 := @run_callFunc_extern Tryz.prog 63 _ ReflectliteType.typeOf Tryz.func63 (by kernel_rfl) (by kernel_rfl) (by kernel_rfl) (by kernel_rfl)
  have h35 := @run_callFunc_extern Tryz.prog 109 _ (ReflectliteType.relation "AssignableTo" ReflectliteType.assignableTo) Tryz.func109 (by kernel_rfl) (by kernel_rfl) (by kernel_rfl) (by kernel_rfl)
  have h11 := @run_callFunc_extern Tryz.prog 73 _ (ReflectliteValue.method (ReflectliteValue.valueError "reflectlite.Value.Elem" 0) ReflectliteValue.elem) Tryz.func73 (by kernel_rfl) (by kernel_rfl) (by kernel_rfl) (by kernel_rfl)
  have h12 := @run_callFunc_extern Tryz.prog 74 _ ReflectliteValue.set Tryz.func74 (by kernel_rfl) (by kernel_rfl) (by kernel_rfl) (by kernel_rfl)
  have tO := typeOf25
  have mA := methodAssignableTo
  have a25 := assignable25
  have v25 := valueOf25
  have f6 := valueOf27
  have f7 := type27
  have mK := methodKind
  have mE := methodElem
  have mI := methodImplements
  have k27 := kind27
  have k25 := kind25
  have e27 := elem27
  have i25 := implements25
  have n8 := isNil27 ⟨w.heap.size, 0, none⟩ t ((w.alloc (.cells #[.pointer (some t)] 103)).alloc (.cells #[.pointer (some ⟨4, 103, none⟩), .pointer (some ⟨w.heap.size, 0, none⟩), .int .u64 150] 117)) (by simp)
  have hlt : 0 < w.heap.size := by
    rcases Nat.eq_zero_or_pos w.heap.size with h0 | h
    · simp [World.cell?, h0] at hg
    · exact h
  have hg2 : ((w.alloc (.cells #[.pointer (some t)] 103)).alloc (.cells #[.pointer (some ⟨4, 103, none⟩), .pointer (some ⟨w.heap.size, 0, none⟩), .int .u64 150] 117)).cell? ⟨0, 0, none⟩ = some (.iface 129 (.agg #[.pointer (some ⟨4, 83, none⟩)])) := by
    rw [World.cell?_alloc_lt _ _ ⟨0, 0, none⟩ (by simp), World.cell?_alloc_lt _ _ ⟨0, 0, none⟩ hlt]; exact hg
  have htl : t.block < w.heap.size := by
    rcases Nat.lt_or_ge t.block w.heap.size with h | h
    · exact h
    · simp [World.cell?, Array.getElem?_eq_none h] at ht0
  have el := elemV27 ⟨w.heap.size, 0, none⟩ t (((w.alloc (.cells #[.pointer (some t)] 103)).alloc (.cells #[.pointer (some ⟨4, 103, none⟩), .pointer (some ⟨w.heap.size, 0, none⟩), .int .u64 150] 117)).alloc (.cells #[.pointer (some ⟨4, 103, none⟩), .pointer (some ⟨w.heap.size, 0, none⟩), .int .u64 150] 117)) (by rw [World.cell?_alloc_lt _ _ ⟨w.heap.size, 0, none⟩ (by simp; omega)]; simp)
  have st := set25 t ⟨w.heap.size + 1 + 1 + 1, 0, none⟩ e old ((((w.alloc (.cells #[.pointer (some t)] 103)).alloc (.cells #[.pointer (some ⟨4, 103, none⟩), .pointer (some ⟨w.heap.size, 0, none⟩), .int .u64 150] 117)).alloc (.cells #[.pointer (some ⟨4, 103, none⟩), .pointer (some ⟨w.heap.size, 0, none⟩), .int .u64 150] 117)).alloc (.cells #[.pointer (some e)] 101))
    (by rw [World.cell?_alloc_at _ _ _ _ (by simp)]; rfl)
    (by rw [World.cell?_alloc_lt _ _ t (by simp; omega), World.cell?_alloc_lt _ _ t (by simp; omega), World.cell?_alloc_lt _ _ t (by simp; omega), World.cell?_alloc_lt _ _ t htl]; exact ht0)
    (by rw [World.frozen?_alloc_old _ _ t (by simp; omega), World.frozen?_alloc_old _ _ t (by simp; omega), World.frozen?_alloc_old _ _ t (by simp; omega), World.frozen?_alloc_old _ _ t (Nat.ne_of_lt htl)]; exact hf0)
  go_enter Tryz.func57, Tryz.ntmps57
  go_wp2
  refine wp_loop_rounds 1 ?_
  rw [rounds_succ]
  go_wp2
  go_ret
  exact ⟨rfl, rfl⟩
end Go.Proofs.YtmphajilnkgcaaaGreatDoor.Er

namespace Go.Proofs.YtmphajilnkgcaaaGreatDoor.Rdr
open Go.RowKit Go.Mir Go.Mir.Parts Go.Proofs.YtmphajilnkgcaaaGreatDoor.Er

def EType (w : World) : Prop := w.cell? ⟨0, 0, none⟩ = some (.iface 129 (.agg #[.pointer (some ⟨4, 83, none⟩)]))
theorem EType.below {w w' : World} {B : Nat} (h : EType w) (hb : Below B w w') (hB : 0 < B) : EType w' := by
  unfold EType at h ⊢
  rw [World.cell?] at h ⊢
  rw [hb.block _ hB]
  exact h
theorem EType.lt {w : World} (h : EType w) : 0 < w.heap.size := by
  unfold EType at h
  rcases Nat.lt_or_ge 0 w.heap.size with h1 | h1
  · exact h1
  · simp [World.cell?, Array.getElem?_eq_none h1] at h
def E4 : Value := .agg #[.int .i64 1, .int .i64 2, .int .i64 3, .int .i64 4]
theorem e4_0 (w : World) : (Instr.index 99 (.agg #[.int .i64 1, .int .i64 2, .int .i64 3, .int .i64 4]) (.int .i64 0)).run Tryz.prog w = .ok (.int .i64 1) w := by kernel_rfl
theorem e4_1 (w : World) : (Instr.index 99 (.agg #[.int .i64 1, .int .i64 2, .int .i64 3, .int .i64 4]) (.int .i64 1)).run Tryz.prog w = .ok (.int .i64 2) w := by kernel_rfl
theorem e4_2 (w : World) : (Instr.index 99 (.agg #[.int .i64 1, .int .i64 2, .int .i64 3, .int .i64 4]) (.int .i64 2)).run Tryz.prog w = .ok (.int .i64 3) w := by kernel_rfl
theorem e4_3 (w : World) : (Instr.index 99 (.agg #[.int .i64 1, .int .i64 2, .int .i64 3, .int .i64 4]) (.int .i64 3)).run Tryz.prog w = .ok (.int .i64 4) w := by kernel_rfl
set_option maxRecDepth 100000 in
set_option maxHeartbeats 1600000 in
theorem err_any {base rb : Nat} {s : RD} (w : World) (h : RAt w base rb s) (hE : EType w) :
    Calls Tryz.prog 45 #[.pointer (some ⟨rb, 0, none⟩)] w fun e w' => e = .returned (.int .i64 s.err) ∧ Below w.heap.size w w' := by
  have H := Lib.hid h
  obtain ⟨v, bv, h⟩ := h
  obtain ⟨_, _, _, hc3, _⟩ := h.cells
  obtain ⟨l, pos, bad⟩ := s
  have hlt := h.lt
  have x0 := e4_0
  have x1 := e4_1
  have x2 := e4_2
  have x3 := e4_3
  cases bad with
  | none =>
    have hbv : bv = .nilIface := h.fault
    rw [hbv] at hc3
    have HB := Lib.hid (Below.allocs w (.cells #[.pointer none] 101))
    have hc3' := cell_below hc3 HB.out
    clear h hbv
    go_enter Tryz.func45, Tryz.ntmps45
    go_wp2_with fail
    refine (none_any w H.out).mono ?_
    rintro e w' ⟨rfl, rfl⟩
    go_wp2_with fail
    refine wp_loop_rounds 5 ?_
    rw [rounds_succ]
    go_wp2_with fail
    refine (is_nil _ w).mono ?_
    rintro e w' ⟨rfl, rfl⟩
    go_wp2_with fail
    rw [rounds_succ]
    go_wp2_with fail
    refine (is_nil _ w).mono ?_
    rintro e w' ⟨rfl, rfl⟩
    go_wp2_with fail
    rw [rounds_succ]
    go_wp2_with fail
    refine (is_nil _ w).mono ?_
    rintro e w' ⟨rfl, rfl⟩
    go_wp2_with fail
    rw [rounds_succ]
    go_wp2_with fail
    refine (is_nil _ w).mono ?_
    rintro e w' ⟨rfl, rfl⟩
    go_wp2_with fail
    rw [rounds_succ]
    go_wp2_with fail
    refine (as_nil _ _).mono ?_
    rintro e w' ⟨rfl, rfl⟩
    go_wp2_with fail
    go_ret
    exact ⟨rfl, HB.out⟩
  | some b =>
    obtain ⟨hb0, _, fb, a0, hbv, _, hrow⟩ := h.fault
    rw [hbv] at hc3
    have hcf : w.cell? ⟨fb, 1, none⟩ = some (.int .i64 b) := by rw [cell_of_row _ _ _ _ _ _ hrow]; rfl
    have hflt : fb < w.heap.size := (Array.getElem?_eq_some_iff.1 hrow).1
    clear h hbv hrow
    by_cases h1 : b = 1
    · subst h1
      go_enter Tryz.func45, Tryz.ntmps45
      go_wp2_with fail
      refine (none_any w H.out).mono ?_
      rintro e w' ⟨rfl, rfl⟩
      go_wp2_with fail
      refine wp_loop_rounds 5 ?_
      rw [rounds_succ]
      go_wp2_with fail
      refine (is_fault fb _ 1 _ hcf).mono ?_
      rintro e w' ⟨rfl, rfl⟩
      go_wp2_with fail
      go_ret
      exact ⟨rfl, Below.refl _ _⟩
    by_cases h2 : b = 2
    · subst h2
      go_enter Tryz.func45, Tryz.ntmps45
      go_wp2_with fail
      refine (none_any w H.out).mono ?_
      rintro e w' ⟨rfl, rfl⟩
      go_wp2_with fail
      refine wp_loop_rounds 5 ?_
      rw [rounds_succ]
      go_wp2_with fail
      refine (is_fault fb _ 1 _ hcf).mono ?_
      rintro e w' ⟨rfl, rfl⟩
      go_wp2_with fail
      rw [rounds_succ]
      go_wp2_with fail
      refine (is_fault fb _ 2 _ hcf).mono ?_
      rintro e w' ⟨rfl, rfl⟩
      go_wp2_with fail
      go_ret
      exact ⟨rfl, Below.refl _ _⟩
    by_cases h3 : b = 3
    · subst h3
      go_enter Tryz.func45, Tryz.ntmps45
      go_wp2_with fail
      refine (none_any w H.out).mono ?_
      rintro e w' ⟨rfl, rfl⟩
      go_wp2_with fail
      refine wp_loop_rounds 5 ?_
      rw [rounds_succ]
      go_wp2_with fail
      refine (is_fault fb _ 1 _ hcf).mono ?_
      rintro e w' ⟨rfl, rfl⟩
      go_wp2_with fail
      rw [rounds_succ]
      go_wp2_with fail
      refine (is_fault fb _ 2 _ hcf).mono ?_
      rintro e w' ⟨rfl, rfl⟩
      go_wp2_with fail
      rw [rounds_succ]
      go_wp2_with fail
      refine (is_fault fb _ 3 _ hcf).mono ?_
      rintro e w' ⟨rfl, rfl⟩
      go_wp2_with fail
      go_ret
      exact ⟨rfl, Below.refl _ _⟩
    by_cases h4 : b = 4
    · subst h4
      go_enter Tryz.func45, Tryz.ntmps45
      go_wp2_with fail
      refine (none_any w H.out).mono ?_
      rintro e w' ⟨rfl, rfl⟩
      go_wp2_with fail
      refine wp_loop_rounds 5 ?_
      rw [rounds_succ]
      go_wp2_with fail
      refine (is_fault fb _ 1 _ hcf).mono ?_
      rintro e w' ⟨rfl, rfl⟩
      go_wp2_with fail
      rw [rounds_succ]
      go_wp2_with fail
      refine (is_fault fb _ 2 _ hcf).mono ?_
      rintro e w' ⟨rfl, rfl⟩
      go_wp2_with fail
      rw [rounds_succ]
      go_wp2_with fail
      refine (is_fault fb _ 3 _ hcf).mono ?_
      rintro e w' ⟨rfl, rfl⟩
      go_wp2_with fail
      rw [rounds_succ]
      go_wp2_with fail
      refine (is_fault fb _ 4 _ hcf).mono ?_
      rintro e w' ⟨rfl, rfl⟩
      go_wp2_with fail
      go_ret
      exact ⟨rfl, Below.refl _ _⟩
    have y1 : (b == 1) = false := beq_eq_false_iff_ne.2 h1
    have y2 : (b == 2) = false := beq_eq_false_iff_ne.2 h2
    have y3 : (b == 3) = false := beq_eq_false_iff_ne.2 h3
    have y4 : (b == 4) = false := beq_eq_false_iff_ne.2 h4
    have HC3 := Lib.hid hc3
    have HCF := Lib.hid hcf
    have HB := Lib.hid (Below.allocs w (.cells #[.pointer none] 101))
    have HEY : Hid (EType (w.alloc (.cells #[.pointer none] 101))) := hE.below HB.out hE.lt
    have HT0 : Hid ((w.alloc (.cells #[.pointer none] 101)).cell? ⟨w.heap.size, 0, none⟩ = some (.pointer none)) := cell_alloc_new _ _ _ _
    have HF0 : Hid ((w.alloc (.cells #[.pointer none] 101)).frozen? ⟨w.heap.size, 0, none⟩ = false) := frozen_of_row _ _ _ _ _ (heap_alloc_last _ _)
    have hc3' := cell_below hc3 HB.out
    go_enter Tryz.func45, Tryz.ntmps45
    go_wp2_with fail
    refine (none_any w H.out).mono ?_
    rintro e w' ⟨rfl, rfl⟩
    go_wp2_with fail
    refine wp_loop_rounds 5 ?_
    rw [rounds_succ]
    go_wp2_with fail
    refine (is_fault fb _ 1 _ hcf).mono ?_
    rintro e w' ⟨rfl, rfl⟩
    go_wp2_with fail
    rw [rounds_succ]
    go_wp2_with fail
    refine (is_fault fb _ 2 _ hcf).mono ?_
    rintro e w' ⟨rfl, rfl⟩
    go_wp2_with fail
    rw [rounds_succ]
    go_wp2_with fail
    refine (is_fault fb _ 3 _ hcf).mono ?_
    rintro e w' ⟨rfl, rfl⟩
    go_wp2_with fail
    rw [rounds_succ]
    go_wp2_with fail
    refine (is_fault fb _ 4 _ hcf).mono ?_
    rintro e w' ⟨rfl, rfl⟩
    go_wp2_with fail
    rw [rounds_succ]
    go_wp2_with fail
    refine (as_hit ⟨fb, 0, none⟩ ⟨w.heap.size, 0, none⟩ (.pointer none) _ HEY.out HT0.out HF0.out).mono ?_
    rintro e wz ⟨rfl, hw⟩
    have HBZ : Hid (Below w.heap.size w wz ∧ wz.cell? ⟨w.heap.size, 0, none⟩ = some (.pointer (some ⟨fb, 0, none⟩))) := by
      subst hw
      have b1 := HB.out
      have r1 : (w.alloc (.cells #[.pointer none] 101)).heap[w.heap.size]? = some (.cells #[.pointer none] 101 (0, 0)) := heap_alloc_last _ _
      generalize w.alloc (.cells #[.pointer none] 101) = v1 at *
      have b2 := b1.alloc b1.size (.cells #[.pointer (some ⟨w.heap.size, 0, none⟩)] 103)
      have r2 := block_old (.cells #[.pointer (some ⟨w.heap.size, 0, none⟩)] 103) r1
      generalize v1.alloc (.cells #[.pointer (some ⟨w.heap.size, 0, none⟩)] 103) = v2 at *
      have b3 := b2.alloc b2.size (.cells #[.pointer (some ⟨4, 103, none⟩), .pointer (some ⟨v1.heap.size, 0, none⟩), .int .u64 150] 117)
      have r3 := block_old (.cells #[.pointer (some ⟨4, 103, none⟩), .pointer (some ⟨v1.heap.size, 0, none⟩), .int .u64 150] 117) r2
      have b4 := b3.alloc b3.size (.cells #[.pointer (some ⟨4, 103, none⟩), .pointer (some ⟨v1.heap.size, 0, none⟩), .int .u64 150] 117)
      have r4 := block_old (.cells #[.pointer (some ⟨4, 103, none⟩), .pointer (some ⟨v1.heap.size, 0, none⟩), .int .u64 150] 117) r3
      have b5 := b4.alloc b4.size (.cells #[.pointer (some ⟨fb, 0, none⟩)] 101)
      have r5 := block_old (.cells #[.pointer (some ⟨fb, 0, none⟩)] 101) r4
      refine ⟨b5.setCell (Nat.le_refl _) _, ?_⟩
      rw [cell_of_row _ _ _ _ _ _ (heap_setCell_same _ _ _ _ _ _ r5)]
      rfl
    have hct := HBZ.out.2
    have hcz := cell_below HCF.out HBZ.out.1
    clear hw
    go_wp2_with fail
    go_ret
    exact ⟨rfl, HBZ.out.1⟩
def RD.done (s : RD) : Int := if s.err ≠ 0 then s.err else if s.l.length - s.pos = 0 then 0 else 3
theorem done_any {base rb : Nat} {s : RD} (w : World) (h : RAt w base rb s) (hE : EType w) :
    Calls Tryz.prog 28 #[.pointer (some ⟨rb, 0, none⟩)] w fun e w' => e = .returned (.int .i64 s.done) ∧ Below w.heap.size w w' := by
  have H := Lib.hid h
  have HE := Lib.hid (err_any w h hE)
  clear h hE
  by_cases h0 : s.err = 0
  · rw [h0] at HE
    by_cases hl : s.l.length - s.pos = 0
    · have hR : Hid (s.done = 0) := by show _ = _; unfold RD.done; rw [if_neg (by simp [h0]), if_pos hl]
      go_enter Tryz.func28, Tryz.ntmps28
      go_wp2_with fail
      refine HE.out.mono ?_
      rintro e w1 ⟨rfl, hb1⟩
      have HB1 := Lib.hid hb1
      have H1 := Lib.hid (H.out.below hb1)
      clear hb1
      go_wp2_with fail
      refine (left_any w1 H1.out).mono ?_
      rintro e w2 ⟨rfl, hb2⟩
      have HB2 := Lib.hid (HB1.out.trans (hb2.mono HB1.out.size))
      clear hb2
      rw [hl]
      go_wp2_with fail
      go_ret
      exact ⟨by rw [hR.out]; rfl, HB2.out⟩
    · have hR : Hid (s.done = 3) := by show _ = _; unfold RD.done; rw [if_neg (by simp [h0]), if_neg hl]
      generalize hq : s.l.length - s.pos = q at *
      have hb : ((q : Int) == 0) = false := by rw [beq_eq_false_iff_ne]; omega
      go_enter Tryz.func28, Tryz.ntmps28
      go_wp2_with fail
      refine HE.out.mono ?_
      rintro e w1 ⟨rfl, hb1⟩
      have HB1 := Lib.hid hb1
      have H1 := Lib.hid (H.out.below hb1)
      clear hb1
      go_wp2_with fail
      refine (left_any w1 H1.out).mono ?_
      rintro e w2 ⟨rfl, hb2⟩
      have HB2 := Lib.hid (HB1.out.trans (hb2.mono HB1.out.size))
      clear hb2
      rw [hq]
      go_wp2_with fail
      go_ret
      exact ⟨by rw [hR.out]; rfl, HB2.out⟩
  · have hR : Hid (s.done = s.err) := by show _ = _; unfold RD.done; rw [if_pos h0]
    have hb : (s.err == 0) = false := by rw [beq_eq_false_iff_ne]; exact h0
    have hb2 : (s.err != 0) = true := by simp [h0]
    generalize s.err = E at *
    go_enter Tryz.func28, Tryz.ntmps28
    go_wp2_with fail
    refine HE.out.mono ?_
    rintro e w1 ⟨rfl, hb1⟩
    have HB1 := Lib.hid hb1
    clear hb1
    go_wp2_with fail
    go_ret
    exact ⟨by rw [hR.out]; rfl, HB1.out⟩
end Go.Proofs.YtmphajilnkgcaaaGreatDoor.Rdr

namespace Go.Proofs.YtmphajilnkgcaaaGreatDoor.Rdr
open Go.ChangeShapes Go.WideShapes Go.RowKit Go.Mir

theorem own : ownKnob Tryz.prog.godebug = none := by kernel_rfl
theorem laidOut : laidOutB Tryz.prog = true := by kernel_rfl
theorem etNamed : Tryz.prog.globalNamed "errors.errorType" = some 0 := by kernel_rfl
theorem rtNamed : (Tryz.prog.cutTypes.find? (·.1 == "internal/reflectlite.rtype")).map (·.2) = some 129 := by kernel_rfl
theorem sizeNamed : Tryz.prog.types.size = Tryz.prog.types.size := rfl
theorem oneRow : ((List.range Tryz.prog.types.size).filter fun t => Tryz.prog.rowNamed t [101, 114, 114, 111, 114]) = [83] := by kernel_rfl
def laidE : List (String × DataW Unit) := [("errors.errorType", Rows.laid_errors_errorType)]
theorem etype_of_laid {W : World} (h : laidMetH Tryz.prog laidE W) : EType W := by
  have h' : laidMet Tryz.prog [] W ∧ handlesMet Tryz.prog laidE W := h
  obtain ⟨name, u, ty, e1, e2, e3, e4, e5⟩ := h'.2 _ (List.mem_singleton.2 rfl)
  have en : name = [101, 114, 114, 111, 114] := (Option.some.inj e1).symm
  subst en
  obtain rfl := Option.some.inj (rtNamed.symm.trans e2)
  have hm : ty ∈ (List.range Tryz.prog.types.size).filter fun t => Tryz.prog.rowNamed t [101, 114, 114, 111, 114] := List.mem_filter.2 ⟨List.mem_range.2 e3, e4⟩
  rw [oneRow] at hm
  obtain rfl := List.mem_singleton.1 hm
  have hh : typeHandle Tryz.prog 83 = .pointer (some ⟨4, 83, none⟩) := by kernel_rfl
  rw [hh] at e5
  show W.cell? ⟨0, 0, none⟩ = _
  simpa using World.var?_cell etNamed e5 0
/-- a world that meets the condition -/
noncomputable def laidWorld (os : Os) : World :=
  let w0 := World.holding Tryz.prog os ⟨#[], #[], []⟩
  { w0 with heap := w0.heap.modify 0 fun
      | .cells _ t frozen => .cells #[.iface 129 (.agg #[.pointer (some ⟨4, 83, none⟩)])] t frozen
      | o => o }
theorem laidWorld_met (os : Os) (args : Array Value) : laidMetH Tryz.prog laidE ((laidWorld os).forCall (fun _ _ => 0) ⟨#[], args, []⟩).memory :=
  laidMetH_of_parts (laidMet_nil _ _) (by kernel_rfl)
end Go.Proofs.YtmphajilnkgcaaaGreatDoor.Rdr

namespace Go.Proofs.YtmphajilnkgcaaaGreatDoor.Rpl
open Go.ChangeShapes Go.WideShapes Go.RowKit Go.Mir

def laidR : List (String × DataW Unit) := [("unicode/utf8.acceptRanges", Rows.laid_unicode_utf8_acceptRanges), ("errors.errorType", Rows.laid_errors_errorType), ("unicode/utf8.first", Rows.laid_unicode_utf8_first)]
theorem etype_of_laidR {W : World} (h : laidMetH Tryz.prog laidR W) : Rdr.EType W := by
  have h' : laidMet Tryz.prog laidU W ∧ handlesMet Tryz.prog Rdr.laidE W := h
  exact Rdr.etype_of_laid (show laidMetH Tryz.prog Rdr.laidE W from ⟨laidMet_nil _ _, h'.2⟩)
/-- a world that meets the condition -/
noncomputable def laidWorldR (os : Os) : World :=
  let w0 := World.laidAll Tryz.prog os laidU
  { w0 with heap := w0.heap.modify 0 fun
      | .cells _ t frozen => .cells #[.iface 129 (.agg #[.pointer (some ⟨4, 83, none⟩)])] t frozen
      | o => o }
theorem laidWorldR_met (os : Os) (args : Array Value) : laidMetH Tryz.prog laidR ((laidWorldR os).forCall (fun _ _ => 0) ⟨#[], args, []⟩).memory :=
  laidMetH_of_parts (laidMet_of_run' 8 (by kernel_rfl) (by kernel_rfl)) (by kernel_rfl)
end Go.Proofs.YtmphajilnkgcaaaGreatDoor.Rpl

namespace Go.Mir
open Go.RowKit

/-- which operation comes next: taken at once; the only one; one of two -/
inductive Tr where
  | nil
  | take (i : Nat) (r : Tr)
  | one (i : Nat) (r : Tr)
  | two (i j : Nat) (r s : Tr)
def Tr.deep : Tr → Nat
  | .nil => 0
  | .take _ r => r.deep + 1
  | .one _ r => r.deep + 1
  | .two _ _ r _ => r.deep + 1
def treeB (ops : Array Oper) : Tr → Array Bool → Bool
  | .nil, l => (Region.ready .any ops l).isEmpty
  | .take i r, l => (ops[i]?).isSome && Region.free .any ops l i && (Region.ready .any ops l).contains i && treeB ops r (l.setIfInBounds i true)
  | .one i r, l => (ops[i]?).isSome && Region.ready .any ops l == [i] && treeB ops r (l.setIfInBounds i true)
  | .two i j r s, l => (ops[i]?).isSome && (ops[j]?).isSome && Region.ready .any ops l == [i, j] && r.deep == s.deep && !(i == j) && treeB ops r (l.setIfInBounds i true) && treeB ops s (l.setIfInBounds j true)
section
variable {P : Program} {ops : Array Oper} {S : World → Prop} {Q : Exit → Act → World → Prop}
/-- one operation, in its turn -/
def wpTurn (P : Program) (ops : Array Oper) (o : Oper) (a : Act) (w : World) (K : Act → World → Prop) (Q : Exit → Act → World → Prop) : Prop :=
  if Region.wanted o (yielded ops a.tmps) then o.wp P a w K Q else K (a.put o.dst undef) w
def wpTree (P : Program) (ops : Array Oper) (S : World → Prop) (Q : Exit → Act → World → Prop) (l : List Oper) : Tr → Act → World → Prop
  | .nil, a, w => Q .normal a w
  | .take i r, a, w => match nthO l i with
    | some o => ∃ v, YieldsIf P ops S o v a ∧ wpTree P ops S Q l r (a.put o.dst v) w
    | none => False
  | .one i r, a, w => match nthO l i with
    | some o => wpTurn P ops o a w (fun a' w' => S w' ∧ wpTree P ops S Q l r a' w') Q
    | none => False
  | .two i j r s, a, w => (match nthO l i with
    | some o => wpTurn P ops o a w (fun a' w' => S w' ∧ wpTree P ops S Q l r a' w') Q
    | none => False) ∧ (match nthO l j with
    | some o => wpTurn P ops o a w (fun a' w' => S w' ∧ wpTree P ops S Q l s a' w') Q
    | none => False)
theorem wpOp_turn {i : Nat} {o : Oper} {K K' : Act → World → Prop} {a : Act} {w : World} (ho : ops[i]? = some o) (hK : ∀ a w, K a w → K' a w) (h : wpTurn P ops o a w K Q) : wpOp P ops Q i K' a w := by
  unfold wpOp
  simp only [ho]
  unfold wpTurn at h
  split at h
  · rename_i hw
    rw [if_pos hw]
    exact .inl (Oper.wp_mono (fun a' w' h5 => hK _ _ h5) h)
  · rename_i hw
    rw [if_neg hw]
    exact hK _ _ h
theorem wpAnyH_tree {l : List Oper} (hl : l.toArray = ops) (hs : Region.noSelect ops = true) (hQ : ∀ c a d v w, Q (.panic c) (a.put d v) w → Q (.panic c) a w) :
    ∀ (t : Tr) (listed : Array Bool) (a : Act) (w : World), treeB ops t listed = true → S w → wpTree P ops S Q l t a w → wpAnyH P .any ops Q S t.deep listed a w
  | .nil, listed, a, w, hp, _, h => by
    refine wpAnyH_done ?_ h _
    simpa [treeB, List.isEmpty_iff] using hp
  | .take i r, listed, a, w, hp, hS, h => by
    simp only [treeB, Bool.and_eq_true] at hp
    obtain ⟨⟨⟨h1, h2⟩, h3⟩, h4⟩ := hp
    obtain ⟨o, ho⟩ := Option.isSome_iff_exists.1 h1
    have hn : nthO l i = some o := by rw [← nthO_eq, hl]; exact ho
    simp only [wpTree, hn] at h
    obtain ⟨v, hy, h⟩ := h
    exact wpAnyH_take ho hs h2 h3 (fun c a w => hQ c a _ _ w) hy hS (wpAnyH_tree hl hs hQ r _ _ _ h4 hS h)
  | .one i r, listed, a, w, hp, hS, h => by
    simp only [treeB, Bool.and_eq_true, beq_iff_eq] at hp
    obtain ⟨⟨h1, h2⟩, h4⟩ := hp
    obtain ⟨o, ho⟩ := Option.isSome_iff_exists.1 h1
    have hn : nthO l i = some o := by rw [← nthO_eq, hl]; exact ho
    simp only [wpTree, hn] at h
    refine wpAnyH_all h2 (by simp) fun j hj => ?_
    rw [List.mem_singleton] at hj
    subst hj
    exact wpOp_turn ho (fun a' w' ⟨h5, h6⟩ => ⟨h5, wpAnyH_tree hl hs hQ r _ _ _ h4 h5 h6⟩) h
  | .two i j r s, listed, a, w, hp, hS, h => by
    simp only [treeB, Bool.and_eq_true, beq_iff_eq] at hp
    obtain ⟨⟨⟨⟨⟨⟨h1, h1'⟩, h2⟩, hd⟩, hne⟩, h4⟩, h4'⟩ := hp
    obtain ⟨o, ho⟩ := Option.isSome_iff_exists.1 h1
    obtain ⟨o', ho'⟩ := Option.isSome_iff_exists.1 h1'
    have hn : nthO l i = some o := by rw [← nthO_eq, hl]; exact ho
    have hn' : nthO l j = some o' := by rw [← nthO_eq, hl]; exact ho'
    simp only [wpTree, hn, hn'] at h
    refine wpAnyH_all h2 (by simp) fun k hk => ?_
    rcases List.mem_cons.1 hk with rfl | hk
    · exact wpOp_turn ho (fun a' w' ⟨h5, h6⟩ => ⟨h5, wpAnyH_tree hl hs hQ r _ _ _ h4 h5 h6⟩) h.1
    · rw [List.mem_singleton] at hk
      subst hk
      exact wpOp_turn ho' (fun a' w' ⟨h5, h6⟩ => ⟨h5, by rw [hd]; exact wpAnyH_tree hl hs hQ s _ _ _ h4' h5 h6⟩) h.2
/-- the beginning -/
theorem wp_region_tree {id : Nat} {a : Act} {w : World} {l : List Oper} (S : World → Prop) (t : Tr) (hm : P.follows .mixedOrders = true)
    (hp : (treeB l.toArray t (Array.replicate l.length false) && Region.noSelect l.toArray && t.deep == l.length) = true) (hS : S w.drew)
    (h : wpTree P l.toArray S (NoPanic Q) l t a w.drew) : (Code.region id l.toArray true).wp P Q a w := by
  refine wp_region_noPanic ?_
  simp only [Bool.and_eq_true, beq_iff_eq] at hp
  obtain ⟨⟨h1, h2⟩, h3⟩ := hp
  have := wpAnyH_tree (P := P) (Q := NoPanic Q) (S := S) (l := l) rfl h2 (fun _ _ _ _ _ h => h) t (Array.replicate l.length false) a w.drew h1 hS h
  refine wp_region_held hm (S := S) ?_
  rw [h3] at this
  have hz : l.toArray.size = l.length := List.size_toArray ..
  rw [hz]
  exact this
/-- its steps -/
theorem tree_take {l : List Oper} {i : Nat} {r : Tr} {a : Act} {w : World} {o : Oper} {v : Value} (hn : nthO l i = some o) (hw : Region.wanted o (yielded ops a.tmps) = true) (hy : ∀ w', S w' → (execOp a.eval o).run P w' = .ok (.value v) w')
    (h : wpTree P ops S Q l r (a.put o.dst v) w) : wpTree P ops S Q l (.take i r) a w := by
  simp only [wpTree, hn]; exact ⟨v, .inl ⟨hw, hy⟩, h⟩
theorem tree_load {l : List Oper} {i : Nat} {r : Tr} {a : Act} {w : World} {op : Oper} (hn : nthO l i = some op) (hw : Region.wanted op (yielded ops a.tmps) = true) (ty : TypeId) (x : Operand) (ho : op.op = .load ty x)
    (b o : Nat) (hx : a.eval x = .pointer (some ⟨b, o, none⟩)) (M : Array Value) (d : TypeDesc) (hc : ∀ w', S w' → w'.rangeAt b o M.toList)
    (hu : P.underlying ty = some d) (hd : d.isRow = true) (hi : (P.info? ty).map (·.size) = some M.size)
    (h : wpTree P ops S Q l r (a.put op.dst (.agg M)) w) : wpTree P ops S Q l (.take i r) a w := by
  refine tree_take hn hw (fun w' hb => ?_) h
  unfold execOp
  simp only [ho, hx, Instr.loadAt, Instr.sureAddr, Sem.run_bind, Sem.run_pure, Result.andThen_ok, run_loadVar_mid w' b o ty M.toList d (hc w' hb) hu hd (by simpa using hi)]
theorem tree_one {l : List Oper} {i : Nat} {r : Tr} {a : Act} {w : World} {o : Oper} (hn : nthO l i = some o) (hw : Region.wanted o (yielded ops a.tmps) = true)
    (h : ∀ K : Act → World → Prop, Shut (∀ a w, S w → wpTree P ops S Q l r a w → K a w) → Oper.wp P o a w K Q) : wpTree P ops S Q l (.one i r) a w := by
  simp only [wpTree, hn, wpTurn]; rw [if_pos hw]; exact h _ fun _ _ h1 h2 => ⟨h1, h2⟩
theorem tree_two {l : List Oper} {i j : Nat} {r s : Tr} {a : Act} {w : World} (h1 : wpTree P ops S Q l (.one i r) a w) (h2 : wpTree P ops S Q l (.one j s) a w) : wpTree P ops S Q l (.two i j r s) a w := by
  simp only [wpTree] at h1 h2 ⊢; exact ⟨h1, h2⟩
theorem tree_nil {l : List Oper} {a : Act} {w : World} (h : Q .normal a w) : wpTree P ops S (NoPanic Q) l .nil a w := h
end
end Go.Mir
