/- PARTS, JOINED: REPLIES: strings.Split at a blank, strings.Join with one (the shelf's contracts, laid at this translation). Conditions: texts of less than 2^32 bytes. WHAT THE ROWS OF REPLIES LIST, AND A WORLD THAT MEETS IT: two tables of unicode/utf8. From a walk to the statement, the shape of memory handed on. Conditions: none. A REGION THAT DRAWS ITS ORDER, WALKED IN ONE ORDER, WHOSE LAST OPERATIONS MAY TURN WHAT THE EARLIER ONES READ. No program is named. Conditions: none. A REGION THAT DRAWS ITS ORDER, WALKED BY A TREE: what reads only what stood at its start is taken at once; where two operations may come next, both ways are walked. No program is named. Conditions: none. A REGION THAT DRAWS ITS ORDER, WALKED IN ONE ORDER AS LONG AS WHAT IS READ EARLY STANDS, THEN BY A TREE. No program is named. Conditions: none. REPLIES: their value; Right; numbers, with. Conditions: none. REPLIES: Parse. Conditions: texts of less than 2^32 bytes; internal/bytealg.MaxLen holds an int. -/
import Derived.Test.YtmphajilnkgcaaaDoorRp1
import Derived.Test.YtmphajilnkgcaaaDoorRp2
import Derived.Shelf.Strings.OnBuilder
import Derived.Shelf.Strings.Split
import Derived.Shelf.Strings.SplitShaped
import Derived.Shelf.LaysM
import Derived.Test.YtmphajilnkgcaaaDoorRows
import Derived.Test.YtmphajilnkgcaaaDoorCards
import Derived.Test.YtmphajilnkgcaaaDoorTie
import Derived.Lay
import Derived.LaidLaws
import Derived.LaidHandle
namespace Go.Proofs
open Go.Shelf
def Tryd.lays156_ren : Go.Shelf.Ren := ⟨fun | 156 => 28 | 165 => 44 | 166 => 45 | 169 => 46 | 240 => 57 | 241 => 58 | 276 => 69 | 277 => 70 | n => n, fun | 31 => 35 | 9 => 9 | 3 => 3 | 4 => 4 | 0 => 0 | 20 => 20 | 72 => 82 | 76 => 86 | 70 => 80 | 37 => 44 | 75 => 85 | 127 => 102 | 164 => 116 | 5 => 5 | 80 => 88 | n => n, fun | n => n⟩
theorem Tryd.lays156 : Go.Proofs.Lays.n156 Tryd.prog Tryd.lays156_ren := {
  mixed := by kernel_rfl
  f156 := Tryd.func28.trans (congrArg some (by kernel_rfl))
  f165 := Tryd.func44.trans (congrArg some (by kernel_rfl))
  f166 := Tryd.func45.trans (congrArg some (by kernel_rfl))
  f169 := Tryd.func46.trans (congrArg some (by kernel_rfl))
  f240 := Tryd.func57.trans (congrArg some (by kernel_rfl))
  f241 := Tryd.func58.trans (congrArg some (by kernel_rfl))
  f276 := Tryd.func69.trans (congrArg some (by kernel_rfl))
  f277 := Tryd.func70.trans (congrArg some (by kernel_rfl))
  t0 := Tryd.underlying0
  a0 := Tryd.isAgg0
  z0 := Tryd.sizeOf0
  v0 := Tryd.zeroValue0
  t3 := Tryd.underlying3
  a3 := Tryd.isAgg3
  z3 := Tryd.sizeOf3
  v3 := Tryd.zeroValue3
  t4 := Tryd.underlying4
  a4 := Tryd.isAgg4
  z4 := Tryd.sizeOf4
  v4 := Tryd.zeroValue4
  t9 := Tryd.underlying9
  a9 := Tryd.isAgg9
  z9 := Tryd.sizeOf9
  v9 := Tryd.zeroValue9
  t20 := Tryd.underlying20
  a20 := Tryd.isAgg20
  z20 := Tryd.sizeOf20
  v20 := Tryd.zeroValue20
  t31 := Tryd.underlying35
  a31 := Tryd.isAgg35
  z31 := Tryd.sizeOf35
  v31 := Tryd.zeroValue35
  t37 := Tryd.underlying44
  a37 := Tryd.isAgg44
  z37 := Tryd.sizeOf44
  v37 := Tryd.zeroValue44
  t70 := Tryd.underlying80
  a70 := Tryd.isAgg80
  z70 := Tryd.sizeOf80
  v70 := Tryd.zeroValue80
  t72 := Tryd.underlying82
  a72 := Tryd.isAgg82
  z72 := Tryd.sizeOf82
  v72 := Tryd.zeroValue82
  t75 := Tryd.underlying85
  a75 := Tryd.isAgg85
  z75 := Tryd.sizeOf85
  v75 := Tryd.zeroValue85
  t76 := Tryd.underlying86
  a76 := Tryd.isAgg86
  z76 := Tryd.sizeOf86
  v76 := Tryd.zeroValue86
  t127 := Tryd.underlying102
  a127 := Tryd.isAgg102
  z127 := Tryd.sizeOf102
  v127 := Tryd.zeroValue102
  t164 := Tryd.underlying116
  a164 := Tryd.isAgg116
  z164 := Tryd.sizeOf116
  v164 := Tryd.zeroValue116 }
theorem Tryd.Builder_Extra_156 : Builder.Extra Tryd.prog Tryd.lays156_ren := {
  sizeBuilder := by kernel_rfl
  liesBuilder := by kernel_rfl
  t5 := Tryd.underlying5
  a5 := Tryd.isAgg5
  z5 := Tryd.sizeOf5
  v5 := Tryd.zeroValue5
  infoByte := by kernel_rfl
  cellsByte := by kernel_rfl
  sizeByte := by kernel_rfl
  neB5 := by decide }
open Go.RowKit in
/-- No element: the empty string; the world is as it was. (Whatever the slice's address and capacity: a nil slice too.) (LAID: no walk: one application.) -/
theorem Tryd.strings_Join_none (a : Option Addr) (c : Nat) (sep : ByteArray) (w : World) :
    Calls Tryd.prog 28 #[.slice a 0 c, .string sep] w fun e w' => e = .returned (.string ⟨#[]⟩) ∧ w' = w := Any.strings_Join_none Tryd.lays156 Tryd.Builder_Extra_156 a c sep w
open Go.RowKit in
/-- strings.Join: "Join concatenates the elements of its first argument to create a single string. The separator string sep is placed between elements in the resulting string.": HOWEVER MANY ELEMENTS. Below the heap's end the world is as it was. (LAID: no walk: one application.) -/
theorem Tryd.strings_Join (bk o c : Nat) (xs : List ByteArray) (sep : ByteArray) (w : World) (hcells : ∀ (j : Nat) x, xs[j]? = some x → w.cell? ⟨bk, o + j, none⟩ = some (.string x)) (hbk : bk < w.heap.size) (hN : xs.length ≤ 140737488355328) (hcap : xs.length ≤ c) (hlen : (Lib.join (xs.map (·.data.toList)) sep.data.toList).length ≤ 140737488355328) :
    Calls Tryd.prog 28 #[.slice (some ⟨bk, o, none⟩) xs.length c, .string sep] w fun e w' => e = .returned (.string ⟨(Lib.join (xs.map (·.data.toList)) sep.data.toList).toArray⟩) ∧ Below w.heap.size w w' := Any.strings_Join Tryd.lays156 Tryd.Builder_Extra_156 bk o c xs sep w hcells hbk hN hcap hlen
def Tryd.lays146_ren : Go.Shelf.Ren := ⟨fun | 146 => 21 | 221 => 42 | 268 => 53 | 138 => 54 | 143 => 55 | 195 => 65 | 197 => 66 | 218 => 67 | 219 => 68 | 260 => 77 | 217 => 78 | 225 => 79 | 224 => 80 | 267 => 81 | 266 => 84 | 314 => 85 | n => n, fun | 9 => 9 | 31 => 35 | 3 => 3 | 4 => 4 | 0 => 0 | 105 => 113 | 21 => 21 | 5 => 5 | 46 => 92 | 119 => 149 | 139 => 152 | 138 => 151 | 146 => 153 | 51 => 25 | n => n, fun | 1 => 1 | 3 => 2 | 4 => 3 | n => n⟩
theorem Tryd.lays146 : Go.Proofs.Lays.n146 Tryd.prog Tryd.lays146_ren := {
  mixed := by kernel_rfl
  f138 := Tryd.func54.trans (congrArg some (by kernel_rfl))
  f143 := Tryd.func55.trans (congrArg some (by kernel_rfl))
  f146 := Tryd.func21.trans (congrArg some (by kernel_rfl))
  f195 := Tryd.func65.trans (congrArg some (by kernel_rfl))
  f197 := Tryd.func66.trans (congrArg some (by kernel_rfl))
  f217 := Tryd.func78.trans (congrArg some (by kernel_rfl))
  f218 := Tryd.func67.trans (congrArg some (by kernel_rfl))
  f219 := Tryd.func68.trans (congrArg some (by kernel_rfl))
  f221 := Tryd.func42.trans (congrArg some (by kernel_rfl))
  f224 := Tryd.func80.trans (congrArg some (by kernel_rfl))
  f225 := Tryd.func79.trans (congrArg some (by kernel_rfl))
  f260 := Tryd.func77.trans (congrArg some (by kernel_rfl))
  f266 := Tryd.func84.trans (congrArg some (by kernel_rfl))
  f267 := Tryd.func81.trans (congrArg some (by kernel_rfl))
  f268 := Tryd.func53.trans (congrArg some (by kernel_rfl))
  f314 := Tryd.func85.trans (congrArg some (by kernel_rfl))
  t0 := Tryd.underlying0
  a0 := Tryd.isAgg0
  z0 := Tryd.sizeOf0
  v0 := Tryd.zeroValue0
  t3 := Tryd.underlying3
  a3 := Tryd.isAgg3
  z3 := Tryd.sizeOf3
  v3 := Tryd.zeroValue3
  t4 := Tryd.underlying4
  a4 := Tryd.isAgg4
  z4 := Tryd.sizeOf4
  v4 := Tryd.zeroValue4
  t5 := Tryd.underlying5
  a5 := Tryd.isAgg5
  z5 := Tryd.sizeOf5
  v5 := Tryd.zeroValue5
  t9 := Tryd.underlying9
  a9 := Tryd.isAgg9
  z9 := Tryd.sizeOf9
  v9 := Tryd.zeroValue9
  t21 := Tryd.underlying21
  a21 := Tryd.isAgg21
  z21 := Tryd.sizeOf21
  v21 := Tryd.zeroValue21
  t31 := Tryd.underlying35
  a31 := Tryd.isAgg35
  z31 := Tryd.sizeOf35
  v31 := Tryd.zeroValue35
  t46 := Tryd.underlying92
  a46 := Tryd.isAgg92
  z46 := Tryd.sizeOf92
  v46 := Tryd.zeroValue92
  t51 := Tryd.underlying25
  a51 := Tryd.isAgg25
  z51 := Tryd.sizeOf25
  v51 := Tryd.zeroValue25
  t105 := Tryd.underlying113
  a105 := Tryd.isAgg113
  z105 := Tryd.sizeOf113
  v105 := Tryd.zeroValue113
  t119 := Tryd.underlying149
  a119 := Tryd.isAgg149
  z119 := Tryd.sizeOf149
  t138 := Tryd.underlying151
  a138 := Tryd.isAgg151
  z138 := Tryd.sizeOf151
  v138 := Tryd.zeroValue151
  t139 := Tryd.underlying152
  a139 := Tryd.isAgg152
  z139 := Tryd.sizeOf152
  v139 := Tryd.zeroValue152
  t146 := Tryd.underlying153
  a146 := Tryd.isAgg153
  z146 := Tryd.sizeOf153
  v146 := Tryd.zeroValue153
  g1 := by kernel_rfl
  g3 := by kernel_rfl
  g4 := by kernel_rfl }
open Go.RowKit Go.Lib in
/-- strings.Split. (LAID: no walk: one application.) -/
theorem Tryd.strings_Split (s sep : ByteArray) (m : Int) (w : World) (hs : s.size < 4294967281) (hm : w.cell? ⟨1, 0, none⟩ = some (.int .i64 m)) (h1 : 1 ≤ sep.size) :
    Calls Tryd.prog 21 #[.string s, .string sep] w fun e w' =>
      e = .returned (.slice (some ⟨w.heap.size, 0, none⟩) (Lib.countB s sep + 1) (Lib.countB s sep + 1)) ∧ w' = w.alloc (.cells ((Lib.splitB sep 0 (Lib.countB s sep) s).map Value.string).toArray 9) := Any.strings_Split Tryd.lays146 (by kernel_rfl) s sep m w hs hm h1
def Tryd.laysM146_ren : Go.Shelf.Ren := ⟨fun | 146 => 21 | 221 => 42 | 268 => 53 | 138 => 54 | 143 => 55 | 195 => 65 | 197 => 66 | 218 => 67 | 219 => 68 | 260 => 77 | 217 => 78 | 225 => 79 | 224 => 80 | 267 => 81 | 266 => 84 | 314 => 85 | n => n, fun | 9 => 9 | 31 => 35 | 3 => 3 | 4 => 4 | 0 => 0 | 105 => 113 | 21 => 21 | 5 => 5 | 46 => 92 | 119 => 149 | 139 => 152 | 138 => 151 | 146 => 153 | 51 => 25 | n => n, fun | 1 => 1 | 3 => 2 | 4 => 3 | n => n⟩
theorem Tryd.laysM146 : Go.Proofs.LaysM.n146 Tryd.prog Tryd.laysM146_ren := {
  mixed := by kernel_rfl
  f138 := Tryd.func54.trans (congrArg some (by kernel_rfl))
  f143 := Tryd.func55.trans (congrArg some (by kernel_rfl))
  f146 := Tryd.func21.trans (congrArg some (by kernel_rfl))
  f195 := Tryd.func65.trans (congrArg some (by kernel_rfl))
  f197 := Tryd.func66.trans (congrArg some (by kernel_rfl))
  f217 := Tryd.func78.trans (congrArg some (by kernel_rfl))
  f218 := Tryd.func67.trans (congrArg some (by kernel_rfl))
  f219 := Tryd.func68.trans (congrArg some (by kernel_rfl))
  f221 := Tryd.func42.trans (congrArg some (by kernel_rfl))
  f224 := Tryd.func80.trans (congrArg some (by kernel_rfl))
  f225 := Tryd.func79.trans (congrArg some (by kernel_rfl))
  f260 := Tryd.func77.trans (congrArg some (by kernel_rfl))
  f266 := Tryd.func84.trans (congrArg some (by kernel_rfl))
  f267 := Tryd.func81.trans (congrArg some (by kernel_rfl))
  f268 := Tryd.func53.trans (congrArg some (by kernel_rfl))
  f314 := Tryd.func85.trans (congrArg some (by kernel_rfl))
  t0 := Tryd.underlying0
  a0 := Tryd.isAgg0
  z0 := Tryd.sizeOf0
  v0 := Tryd.zeroValue0
  t3 := Tryd.underlying3
  a3 := Tryd.isAgg3
  z3 := Tryd.sizeOf3
  v3 := Tryd.zeroValue3
  t4 := Tryd.underlying4
  a4 := Tryd.isAgg4
  z4 := Tryd.sizeOf4
  v4 := Tryd.zeroValue4
  t5 := Tryd.underlying5
  a5 := Tryd.isAgg5
  z5 := Tryd.sizeOf5
  v5 := Tryd.zeroValue5
  t9 := Tryd.underlying9
  a9 := Tryd.isAgg9
  z9 := Tryd.sizeOf9
  v9 := Tryd.zeroValue9
  t21 := Tryd.underlying21
  a21 := Tryd.isAgg21
  z21 := Tryd.sizeOf21
  v21 := Tryd.zeroValue21
  t31 := Tryd.underlying35
  a31 := Tryd.isAgg35
  z31 := Tryd.sizeOf35
  v31 := Tryd.zeroValue35
  t46 := Tryd.underlying92
  a46 := Tryd.isAgg92
  z46 := Tryd.sizeOf92
  v46 := Tryd.zeroValue92
  t51 := Tryd.underlying25
  a51 := Tryd.isAgg25
  z51 := Tryd.sizeOf25
  v51 := Tryd.zeroValue25
  t105 := Tryd.underlying113
  a105 := Tryd.isAgg113
  z105 := Tryd.sizeOf113
  v105 := Tryd.zeroValue113
  t119 := Tryd.underlying149
  a119 := Tryd.isAgg149
  z119 := Tryd.sizeOf149
  t138 := Tryd.underlying151
  a138 := Tryd.isAgg151
  z138 := Tryd.sizeOf151
  v138 := Tryd.zeroValue151
  t139 := Tryd.underlying152
  a139 := Tryd.isAgg152
  z139 := Tryd.sizeOf152
  v139 := Tryd.zeroValue152
  t146 := Tryd.underlying153
  a146 := Tryd.isAgg153
  z146 := Tryd.sizeOf153
  v146 := Tryd.zeroValue153
  g1 := by kernel_rfl
  g3 := by kernel_rfl
  g4 := by kernel_rfl
  i0 := by kernel_rfl
  i3 := by kernel_rfl
  i4 := by kernel_rfl
  i5 := by kernel_rfl
  i9 := by kernel_rfl
  i21 := by kernel_rfl
  i31 := by kernel_rfl
  i46 := by kernel_rfl
  i51 := by kernel_rfl
  i105 := by kernel_rfl
  i138 := by kernel_rfl
  i139 := by kernel_rfl
  i146 := by kernel_rfl
  m1 := by kernel_rfl
  s1_3 := fun w h => Go.Proofs.cell_of_shapedOpen_int (zero := #[.int .i64 0]) (t := 3) h (of_decide_eq_true (by kernel_rfl)) (by kernel_rfl) rfl (by kernel_rfl) (by kernel_rfl) Tryd.underlying3
  m3 := by kernel_rfl
  m4 := by kernel_rfl }
open Go.RowKit Go.Lib in
/-- strings.Split, sep not empty. (LAID: no walk: one application.) -/
theorem Tryd.strings_Split_shaped (s sep : ByteArray) (w : World) (h : w.ShapedOpen Tryd.prog) (hs : s.size < 4294967281) (h1 : 1 ≤ sep.size) :
    Calls Tryd.prog 21 #[.string s, .string sep] w fun e w' =>
      e = .returned (.slice (some ⟨w.heap.size, 0, none⟩) (Lib.countB s sep + 1) (Lib.countB s sep + 1)) ∧ w' = w.alloc (.cells ((Lib.splitB sep 0 (Lib.countB s sep) s).map Value.string).toArray 9) := Any.strings_Split_shaped Tryd.laysM146 s sep w h hs h1
end Go.Proofs

namespace Go.Proofs.YtmphajilnkgcaaaDoor.Rpl
open Go.RowKit Go.Mir Go.Mir.Hx Go.Mir.Parts
open Go.Lib (join)

/-- internal/bytealg.MaxLen holds an int -/
def MaxL (w : World) : Prop := ∃ m, w.cell? ⟨Tryd.lays146_ren.g 1, 0, none⟩ = some (.int .i64 m)
theorem MaxL.below {w w' : World} (h : MaxL w) (hb : Below w.heap.size w w') : MaxL w' := by
  obtain ⟨m, h⟩ := h
  exact ⟨m, cell_below h hb⟩
theorem maxL_shaped {w : World} (h : w.ShapedOpen Tryd.prog) : MaxL w := Tryd.laysM146.s1_3 w h
theorem strV_of (xs : List ByteArray) : xs.map Value.string = strV (xs.map (·.data.toList)) := by
  unfold strV
  rw [List.map_map]
  refine List.map_congr_left fun x _ => ?_
  show Value.string x = .string (S x.data.toList)
  rw [← S_of x]
set_option maxRecDepth 100000 in
theorem split_any (s : List UInt8) (w : World) (hs : s.length < 4294967281) (hm : MaxL w) :
    Calls Tryd.prog 21 #[.string (S s), .string ⟨#[32]⟩] w fun e w' => e = .returned (.slice (some ⟨w.heap.size, 0, none⟩) (sp s).length (sp s).length) ∧ Ws w' (some ⟨w.heap.size, 0, none⟩) (sp s).length (sp s).length (sp s) ∧ Below w.heap.size w w' := by
  obtain ⟨m, hm⟩ := hm
  have hd : (Go.Lib.splitB ⟨#[32]⟩ 0 (Go.Lib.countB (S s) ⟨#[32]⟩) (S s)).map (·.data.toList) = sp s := by
    rw [Go.Lib.splitB_data]
    show Go.Lib.splitK [32] 0 (Go.Lib.count (S s).data.toList [32]) (S s).data.toList = _
    rw [S_data]
    exact split_sp s
  have hl : Go.Lib.countB (S s) ⟨#[32]⟩ + 1 = (sp s).length := by
    rw [← hd, List.length_map, Go.Lib.splitB_all ⟨#[32]⟩ (by decide) 0 _ (S s) rfl]
  refine (Tryd.strings_Split (S s) ⟨#[32]⟩ m w (by rw [S_size]; exact hs) hm (by decide)).mono ?_
  rintro e w' ⟨rfl, rfl⟩
  rw [hl]
  refine ⟨rfl, Ws.row (ls := sp s) (heap_alloc_last w _) ?_ ?_, Below.allocs _ _⟩
  · rw [strV_of, hd]
  · have : (sp s).length ≤ s.length + 1 := by
      rw [← hl]
      have := Go.Lib.countB_le ⟨#[32]⟩ (by decide) (S s).size (S s) (Nat.le_refl _)
      rw [S_size] at this
      omega
    omega
theorem join_any (g o n c : Nat) (ws : List (List UInt8)) (w : World) (h : Ws w (some ⟨g, o, none⟩) n c ws) (hg : g < w.heap.size) (hn : n ≤ 140737488355328) (hl : (join ws [32]).length ≤ 140737488355328) :
    Calls Tryd.prog 28 #[.slice (some ⟨g, o, none⟩) n c, .string ⟨#[32]⟩] w fun e w' => e = .returned (.string (S (join ws [32]))) ∧ Below w.heap.size w w' := by
  have hm : (ws.map S).map (·.data.toList) = ws := by
    rw [List.map_map]
    conv => rhs; rw [← List.map_id ws]
    exact List.map_congr_left fun x _ => S_data x
  have hlen := h.length
  have hln : (ws.map S).length = n := by rw [List.length_map]; exact hlen
  have := Tryd.strings_Join g o c (ws.map S) ⟨#[32]⟩ w (fun j x hx => by
    rw [List.getElem?_map] at hx
    obtain ⟨y, hy, rfl⟩ := Option.map_eq_some_iff.1 hx
    obtain ⟨hj, rfl⟩ := List.getElem?_eq_some_iff.1 hy
    exact h.str hj) hg (by rw [hln]; exact hn) (by rw [hln]; exact h.le) (by rw [hm]; exact hl)
  rw [hm, hln] at this
  exact this
end Go.Proofs.YtmphajilnkgcaaaDoor.Rpl

namespace Go.Mir
open Go.ChangeShapes Go.WideShapes Go.ChangeAt Go.RowKit
variable {H : Type} {enc : TypeId × Value → H}
theorem law_row_m {C : Checked} {os : Os} {f : FuncId} {fn : Func} {s : ChangeSpec} {F : Stop.Interp} {tb : TypeId} {conds : List PathCond} {laid : List (String × DataW Unit)}
    (own : ownKnob C.prog.godebug = none) (started : os.Started) (noInit : C.prog.inits.idxOf? f = none) (hfn : C.prog.funcs[f]? = some fn)
    (witness : ∃ (w : World) (tape : Tape) (i : Input), w.os = os ∧ (w.forCall tape i).Shaped C.prog ∧ i.vars = [] ∧ Input.okWide C.prog (w.forCall tape i) .any w.heap.size f i ∧
      (OpenSpec.ofChange s).preRow enc C.prog fn conds false laid (w.forCall tape i).memory i.args ∧ Assume.holds {} C.prog (lone (Frame.enter C.prog f i.args .normal) [] (w.forCall tape i)))
    (hl : laidOutB C.prog = true) (hr : fn.params.toList.all (fun t => C.prog.readableRec t && decide (t < C.prog.types.size)) = true) (hres : fn.resultTypes = #[tb]) (hb : C.prog.underlying tb = some .bool) (hv : s.vars = [])
    (walk : ∀ (W : World) (base : Nat) (args : Array Value) (ds : List (DataW H)) (p : List MemPlace),
      (∀ (j : Nat) t v, fn.params[j]? = some t → args[j]? = some v → Value.okWide C.prog W .any base t v) →
      DataW.TrodAll enc C.prog W 0 (fun _ => true) true fn.params.toList args.toList ds p → laidMetH C.prog laid W → W.ShapedOpen C.prog →
      s.fn H (ds ++ []) = { results := [.lit (.bool true)], args := ds } ∧ Calls C.prog f args W fun e W' => e = .returned (.bool true) ∧ Below W.heap.size W W') :
    ReturnsInHanded {} C os f .any ((OpenSpec.ofChange s).preRow enc C.prog fn conds false laid) (((OpenSpec.ofChange s).at F).post enc C.prog fn false true false false) := by
  refine returnsInHanded_of_row (C := C) (s := OpenSpec.ofChange s) own started noInit hfn witness ?_
  intro W base args ds gs before hval hW _ _ _ hL hS _
  have hr' : ∀ t ∈ fn.params.toList, C.prog.readableRec t = true ∧ t < C.prog.types.size := fun t ht => by
    have := List.all_eq_true.1 hr t ht; simpa using this
  have hW1 : DataW.Whole enc C.prog fn.params.toList s.vars false W args.toList ds gs before := hW
  obtain ⟨p, q, hA, hV, rfl, hfz, hnd⟩ := id hW1
  rw [hv] at hV
  obtain ⟨rfl, rfl⟩ : gs = [] ∧ q = [] := by
    cases gs with
    | nil => exact ⟨rfl, hV⟩
    | cons g gs => exact hV.elim
  obtain ⟨hs, hc⟩ := walk W base args ds p hval hA hL hS
  refine hc.mono fun e W' ⟨he, bel⟩ => ?_
  subst he
  exact ⟨_, rfl, law_post hl hr' hres hb hv hs hW1 bel⟩
end Go.Mir
namespace Go.Proofs.YtmphajilnkgcaaaDoor.Rpl
open Go.ChangeShapes Go.WideShapes Go.RowKit Go.Mir

theorem own : ownKnob Tryd.prog.godebug = none := by kernel_rfl
theorem laidOut : laidOutB Tryd.prog = true := by kernel_rfl
def laidU : List (String × DataW Unit) := [("unicode/utf8.acceptRanges", Rows.laid_unicode_utf8_acceptRanges), ("unicode/utf8.first", Rows.laid_unicode_utf8_first)]
/-- a world that meets the condition -/
noncomputable def laidWorld (os : Os) : World := World.laidAll Tryd.prog os laidU
theorem laidWorld_met (os : Os) (args : Array Value) : laidMetH Tryd.prog laidU ((laidWorld os).forCall (fun _ _ => 0) ⟨#[], args, []⟩).memory :=
  laidMetH_of_parts (laidMet_laidAll (laid := laidU) args (by kernel_rfl) (by kernel_rfl)) (by kernel_rfl)
end Go.Proofs.YtmphajilnkgcaaaDoor.Rpl

namespace Go.Mir
open Go.RowKit

section
variable {P : Program} {ops : Array Oper} {S : World → Prop} {Q : Exit → Act → World → Prop} {marks : List Nat}
/-- it waits for i, by a path of edges -/
def waitsB (ops : Array Oper) : Nat → Nat → Nat → Bool
  | 0, _, _ => false
  | n + 1, j, i => match ops[j]? with
    | some o => o.after.any fun e => Region.binds .any e && (e.on == i || waitsB ops n e.on i)
    | none => false
/-- it waits for every marked operation -/
def lateB (ops : Array Oper) (marks : List Nat) (j : Nat) : Bool := marks.all fun i => waitsB ops 16 j i
/-- what is listed had all that it waits for listed -/
def closedL (ops : Array Oper) (listed : Array Bool) : Prop := ∀ (j : Nat) (o : Oper), ops[j]? = some o → listed.getD j false = true → ∀ e ∈ o.after, Region.binds .any e = true → listed.getD e.on false = true
theorem waits_listed {listed : Array Bool} (hc : closedL ops listed) {i : Nat} : ∀ (n j : Nat) (o : Oper), ops[j]? = some o → (∀ e ∈ o.after, Region.binds .any e = true → listed.getD e.on false = true) → waitsB ops n j i = true → listed.getD i false = true
  | 0, _, _, _, _, h => by cases h
  | n + 1, j, o, ho, hall, h => by
    simp only [waitsB, ho] at h
    rw [Array.any_eq_true] at h
    obtain ⟨k, hk, h4⟩ := h
    simp only [Bool.and_eq_true, Bool.or_eq_true, beq_iff_eq] at h4
    have hl := hall _ (Array.getElem_mem hk) h4.1
    rcases h4.2 with h5 | h5
    · rw [h5] at hl; exact hl
    · cases ho2 : ops[o.after[k].on]? with
      | none => cases n with
        | zero => cases h5
        | succ m => simp [waitsB, ho2] at h5
      | some o2 => exact waits_listed hc n _ o2 ho2 (hc _ o2 ho2 hl) h5
theorem closedL.set {listed : Array Bool} (hc : closedL ops listed) {j : Nat} (hj : j ∈ Region.ready .any ops listed) : closedL ops (listed.setIfInBounds j true) := fun k o ho hk e he hb => by
  obtain ⟨_, oj, hoj, hall⟩ := mem_ready.1 hj
  by_cases hjk : j = k
  · subst hjk
    rw [hoj] at ho
    cases ho
    exact getD_set_true (hall e he hb)
  · rw [getD_set_ne false hjk] at hk
    exact getD_set_true (hc k o ho hk e he hb)
/-- whichever comes up: S is asked only behind what can come ahead of a marked operation -/
def wpAnyG (P : Program) (ops : Array Oper) (Q : Exit → Act → World → Prop) (S : World → Prop) (marks : List Nat) : Nat → Array Bool → Act → World → Prop
  | 0, listed, a, w => Region.ready .any ops listed = [] ∧ Q .normal a w
  | n + 1, listed, a, w => (Region.ready .any ops listed = [] → Q .normal a w) ∧
    ∀ i ∈ Region.ready .any ops listed, wpOp P ops Q i (fun a' w' => (lateB ops marks i = false → S w') ∧ wpAnyG P ops Q S marks n (listed.setIfInBounds i true) a' w') a w
theorem wpAny_of_G : ∀ (n : Nat) (listed : Array Bool) (a : Act) (w : World), wpAnyG P ops Q S marks n listed a w → wpAny P .any ops Q n listed a w
  | 0, _, _, _, h => h
  | n + 1, _, _, _, h => ⟨h.1, fun i hi => wpOp_mono (fun a' w' h' => wpAny_of_G n _ a' w' h'.2) (h.2 i hi)⟩
theorem wpAnyG_take {i : Nat} {oi : Oper} {v : Value} (hi : ops[i]? = some oi) (hmk : i ∈ marks) (hsel : ∀ (j : Nat) (o : Oper) cs b, ops[j]? = some o → o.op ≠ .select cs b)
    (hQ : ∀ c a w, Q (.panic c) (a.put oi.dst v) w → Q (.panic c) a w) :
    ∀ (n : Nat) (listed : Array Bool) (a : Act) (w : World),
      (∀ j oj, ops[j]? = some oj → j ≠ i → listed.getD j true = false → (∀ e ∈ oj.after, Region.binds .any e = true → e.on ≠ i) → oi.apart ops oj = true) →
      i ∈ Region.ready .any ops listed → closedL ops listed → YieldsIf P ops S oi v a → S w →
      wpAnyG P ops Q S marks n (listed.setIfInBounds i true) (a.put oi.dst v) w → wpAnyG P ops Q S marks (n + 1) listed a w := by
  intro n
  induction n with
  | zero =>
    intro listed a w _ hr hcl hy hS H
    refine ⟨fun h => absurd (h ▸ hr) List.not_mem_nil, fun j hj => ?_⟩
    by_cases hji : j = i
    · subst hji; exact hy.wpOp hi hS ⟨fun _ => hS, H⟩
    · exact absurd (H.1 ▸ ready_mono hj hji) List.not_mem_nil
  | succ n ih =>
    intro listed a w hfree hr hcl hy hS H
    refine ⟨fun h => absurd (h ▸ hr) List.not_mem_nil, fun j hj => ?_⟩
    by_cases hji : j = i
    · subst hji; exact hy.wpOp hi hS ⟨fun _ => hS, H⟩
    obtain ⟨hjun, oj, hoj, hall⟩ := mem_ready.1 hj
    have hiun := (mem_ready.1 hr).1
    have hno : ∀ e ∈ oj.after, Region.binds .any e = true → e.on ≠ i := fun e he hb heq => by
      have h1 := hall e he hb
      rw [heq] at h1
      rcases Nat.lt_or_ge i listed.size with h' | h'
      · simp [h'] at hiun h1; rw [hiun] at h1; cases h1
      · simp [Array.getElem?_eq_none h'] at h1
    have hlate : lateB ops marks j = false := by
      cases hl : lateB ops marks j with
      | false => rfl
      | true =>
        simp only [lateB, List.all_eq_true] at hl
        have h3 := waits_listed hcl 16 j oj hoj hall (hl i hmk)
        rcases Nat.lt_or_ge i listed.size with h' | h'
        · simp [h'] at hiun h3; rw [hiun] at h3; cases h3
        · simp [Array.getElem?_eq_none h'] at h3
    have h2 := wpOp_putIf hoj (hfree j oj hoj hji hjun hno) (fun cs b => hsel i oi cs b hi) (fun cs b => hsel j oj cs b hoj) hQ hy (H.2 j (ready_mono hj hji))
    refine wpOp_mono (fun a' w' h3 => ⟨h3.2.1, ih (listed.setIfInBounds j true) a' w' ?_ (ready_mono hr (Ne.symm hji)) (hcl.set hj) h3.1 (h3.2.1 hlate) ?_⟩) h2
    · intro k ok hk hki hun hn'
      refine hfree k ok hk hki ?_ hn'
      by_cases hjk : j = k
      · subst hjk; exact hjun
      · rw [getD_set_ne true hjk] at hun; exact hun
    · rw [Array.setIfInBounds_comm _ _ hji]
      exact h3.2.2
/-- the plan: what is taken or called while S stands; then what is late -/
def planT (ops : Array Oper) (marks : List Nat) : List Nat → Array Bool → Bool
  | j :: t, l => (ops[j]?).isSome && Region.ready .any ops l == [j] && lateB ops marks j && planT ops marks t (l.setIfInBounds j true)
  | [], l => (Region.ready .any ops l).isEmpty
def planG (ops : Array Oper) (marks : List Nat) (t : List Nat) : List (Nat × Bool) → Array Bool → Bool
  | (i, true) :: r, l => (ops[i]?).isSome && marks.contains i && Region.free .any ops l i && (Region.ready .any ops l).contains i && planG ops marks t r (l.setIfInBounds i true)
  | (i, false) :: r, l => (ops[i]?).isSome && Region.ready .any ops l == [i] && planG ops marks t r (l.setIfInBounds i true)
  | [], l => planT ops marks t l
def tailOps (l : List Oper) : List Nat → List Oper
  | [] => []
  | j :: t => match nthO l j with
    | some o => o :: tailOps l t
    | none => tailOps l t
/-- the walk: while S stands, and on -/
def wpEagerT (P : Program) (ops : Array Oper) (S : World → Prop) (Q : Exit → Act → World → Prop) (T : List Oper) : List (Oper × Bool) → Act → World → Prop
  | [], a, w => wpList P ops Q T a w
  | (o, true) :: r, a, w => ∃ v, YieldsIf P ops S o v a ∧ wpEagerT P ops S Q T r (a.put o.dst v) w
  | (o, false) :: r, a, w => if Region.wanted o (yielded ops a.tmps) then o.wp P a w (fun a' w' => S w' ∧ wpEagerT P ops S Q T r a' w') Q else wpEagerT P ops S Q T r (a.put o.dst undef) w
theorem wpAnyG_late {l : List Oper} (hl : l.toArray = ops) (hs : Region.noSelect ops = true) : ∀ (t : List Nat) (listed : Array Bool) (a : Act) (w : World), planT ops marks t listed = true → wpList P ops Q (tailOps l t) a w → wpAnyG P ops Q S marks t.length listed a w
  | [], listed, a, w, hp, h => by
    simp only [planT, List.isEmpty_iff] at hp
    exact ⟨hp, h⟩
  | j :: t, listed, a, w, hp, h => by
    simp only [planT, Bool.and_eq_true, beq_iff_eq] at hp
    obtain ⟨⟨⟨h1, h2⟩, h3⟩, h4⟩ := hp
    obtain ⟨o, ho⟩ := Option.isSome_iff_exists.1 h1
    have hn : nthO l j = some o := by rw [← nthO_eq, hl]; exact ho
    simp only [tailOps, hn] at h
    refine ⟨fun e => (by rw [h2] at e; cases e), fun i hi => ?_⟩
    rw [h2, List.mem_singleton] at hi
    subst hi
    unfold wpOp
    simp only [ho]
    unfold wpList at h
    split at h
    · rename_i hw
      rw [if_pos hw]
      exact h.imp (fun h => Oper.wp_mono (fun a' w' h5 => ⟨fun e => (by rw [h3] at e; cases e), wpAnyG_late hl hs t _ _ _ h4 h5⟩) h) id
    · rename_i hw
      rw [if_neg hw]
      exact ⟨fun e => (by rw [h3] at e; cases e), wpAnyG_late hl hs t _ _ _ h4 h⟩
theorem wpAnyG_plan {l : List Oper} (hl : l.toArray = ops) (hs : Region.noSelect ops = true) (hQ : ∀ c a d v w, Q (.panic c) (a.put d v) w → Q (.panic c) a w) (t : List Nat) :
    ∀ (π : List (Nat × Bool)) (listed : Array Bool) (a : Act) (w : World), planG ops marks t π listed = true → closedL ops listed → S w → wpEagerT P ops S Q (tailOps l t) (planOps l π) a w → wpAnyG P ops Q S marks (π.length + t.length) listed a w
  | [], listed, a, w, hp, _, _, h => by
    rw [List.length_nil, Nat.zero_add]
    exact wpAnyG_late hl hs t _ _ _ hp h
  | (i, true) :: r, listed, a, w, hp, hcl, hS, h => by
    simp only [planG, Bool.and_eq_true] at hp
    obtain ⟨⟨⟨⟨h1, hmk⟩, h2⟩, h3⟩, h4⟩ := hp
    obtain ⟨o, ho⟩ := Option.isSome_iff_exists.1 h1
    have hn : nthO l i = some o := by rw [← nthO_eq, hl]; exact ho
    simp only [planOps, hn, wpEagerT] at h
    obtain ⟨v, hy, h⟩ := h
    rw [List.length_cons, Nat.add_right_comm]
    exact wpAnyG_take ho (by simpa using hmk) (Region.noSelect_spec hs) (fun c a w => hQ c a _ _ w) _ _ _ _ (Region.free_spec ho h2) (by simpa using h3) hcl hy hS (wpAnyG_plan hl hs hQ t r _ _ _ h4 (hcl.set (by simpa using h3)) hS h)
  | (i, false) :: r, listed, a, w, hp, hcl, hS, h => by
    simp only [planG, Bool.and_eq_true, beq_iff_eq] at hp
    obtain ⟨⟨h1, h2⟩, h4⟩ := hp
    obtain ⟨o, ho⟩ := Option.isSome_iff_exists.1 h1
    have hn : nthO l i = some o := by rw [← nthO_eq, hl]; exact ho
    simp only [planOps, hn, wpEagerT] at h
    rw [List.length_cons, Nat.add_right_comm]
    refine ⟨fun e => (by rw [h2] at e; cases e), fun j hj => ?_⟩
    rw [h2, List.mem_singleton] at hj
    subst hj
    unfold wpOp
    simp only [ho]
    split at h
    · rename_i hw
      rw [if_pos hw]
      exact .inl (Oper.wp_mono (fun a' w' ⟨h5, h6⟩ => ⟨fun _ => h5, wpAnyG_plan hl hs hQ t r _ _ _ h4 (hcl.set (by rw [h2]; exact List.mem_singleton.2 rfl)) h5 h6⟩) h)
    · rename_i hw
      rw [if_neg hw]
      exact ⟨fun _ => hS, wpAnyG_plan hl hs hQ t r _ _ _ h4 (hcl.set (by rw [h2]; exact List.mem_singleton.2 rfl)) hS h⟩
/-- the beginning -/
theorem wp_region_eager_t {id : Nat} {a : Act} {w : World} {l : List Oper} (S : World → Prop) (marks : List Nat) (π : List (Nat × Bool)) (t : List Nat) (hm : P.follows .mixedOrders = true)
    (hp : (planG l.toArray marks t π (Array.replicate l.length false) && Region.noSelect l.toArray && π.length + t.length == l.length) = true) (hS : S w.drew)
    (h : wpEagerT P l.toArray S (NoPanic Q) (tailOps l t) (planOps l π) a w.drew) : (Code.region id l.toArray true).wp P Q a w := by
  refine wp_region_noPanic ?_
  simp only [Bool.and_eq_true, beq_iff_eq] at hp
  obtain ⟨⟨h1, h2⟩, h3⟩ := hp
  have := wpAny_of_G _ _ _ _ (wpAnyG_plan (P := P) (Q := NoPanic Q) (S := S) (marks := marks) (l := l) rfl h2 (fun _ _ _ _ _ h => h) t π (Array.replicate l.length false) a w.drew h1 (fun j o _ hj => by rw [Array.getD_eq_getD_getElem?, Array.getElem?_replicate] at hj; split at hj <;> cases hj) hS h)
  refine wp_region_any hm ?_
  rw [h3] at this
  have hz : l.toArray.size = l.length := List.size_toArray ..
  rw [hz]
  exact this
/-- the next operation, written out -/
theorem eagerTOpen {l : List Oper} {T : List Oper} {i : Nat} {b : Bool} {r : List (Nat × Bool)} {a : Act} {w : World} {o : Oper} (ho : nthO l i = some o)
    (h : wpEagerT P ops S Q T ((o, b) :: planOps l r) a w) : wpEagerT P ops S Q T (planOps l ((i, b) :: r)) a w := by
  unfold planOps; rw [ho]; exact h
theorem eagerTEnd {l : List Oper} {T : List Oper} {a : Act} {w : World} (h : wpList P ops Q T a w) : wpEagerT P ops S Q T (planOps l []) a w := h
theorem tail1 {l : List Oper} {j : Nat} {a : Act} {w : World} {o : Oper} (ho : nthO l j = some o) (h : wpList P ops Q [o] a w) : wpList P ops Q (tailOps l [j]) a w := by
  simp only [tailOps, ho]; exact h
theorem tail2 {l : List Oper} {j k : Nat} {a : Act} {w : World} {o o' : Oper} (ho : nthO l j = some o) (ho' : nthO l k = some o') (h : wpList P ops Q [o, o'] a w) : wpList P ops Q (tailOps l [j, k]) a w := by
  simp only [tailOps, ho, ho']; exact h
theorem wpEagerT_tail {T : List Oper} {a : Act} {w : World} (h : wpList P ops Q T a w) : wpEagerT P ops S Q T [] a w := h
theorem wpEagerT_take {T : List Oper} {o : Oper} {r : List (Oper × Bool)} {a : Act} {w : World} {v : Value} (hw : Region.wanted o (yielded ops a.tmps) = true)
    (hy : ∀ w', S w' → (execOp a.eval o).run P w' = .ok (.value v) w') (h : wpEagerT P ops S Q T r (a.put o.dst v) w) : wpEagerT P ops S Q T ((o, true) :: r) a w := ⟨v, .inl ⟨hw, hy⟩, h⟩
theorem wpEagerT_skip {T : List Oper} {o : Oper} {r : List (Oper × Bool)} {a : Act} {w : World} (hw : Region.wanted o (yielded ops a.tmps) = false)
    (h : wpEagerT P ops S Q T r (a.put o.dst undef) w) : wpEagerT P ops S Q T ((o, true) :: r) a w := ⟨undef, .inr ⟨hw, rfl⟩, h⟩
theorem wpEagerT_load {T : List Oper} {op : Oper} {r : List (Oper × Bool)} {a : Act} {w : World} (hw : Region.wanted op (yielded ops a.tmps) = true) (ty : TypeId) (x : Operand) (ho : op.op = .load ty x)
    (b o : Nat) (hx : a.eval x = .pointer (some ⟨b, o, none⟩)) (M : Array Value) (d : TypeDesc) (hc : ∀ w', S w' → w'.rangeAt b o M.toList)
    (hu : P.underlying ty = some d) (hd : d.isRow = true) (hi : (P.info? ty).map (·.size) = some M.size)
    (h : wpEagerT P ops S Q T r (a.put op.dst (.agg M)) w) : wpEagerT P ops S Q T ((op, true) :: r) a w := by
  refine wpEagerT_take hw (fun w' hb => ?_) h
  unfold execOp
  simp only [ho, hx, Instr.loadAt, Instr.sureAddr, Sem.run_bind, Sem.run_pure, Result.andThen_ok, run_loadVar_mid w' b o ty M.toList d (hc w' hb) hu hd (by simpa using hi)]
theorem wpEagerT_op {T : List Oper} {o : Oper} {r : List (Oper × Bool)} {a : Act} {w : World} (hw : Region.wanted o (yielded ops a.tmps) = true)
    (h : ∀ K : Act → World → Prop, Shut (∀ a w, S w → wpEagerT P ops S Q T r a w → K a w) → Oper.wp P o a w K Q) : wpEagerT P ops S Q T ((o, false) :: r) a w := by
  unfold wpEagerT; rw [if_pos hw]; exact h _ fun _ _ h1 h2 => ⟨h1, h2⟩
theorem eagerTLoadAt {T : List Oper} {r : List (Oper × Bool)} {a : Act} {w : World} (n : Nat) {d : Option Nat} {ty : TypeId} {t : TypeId} {p : String} {af : Array Edge} {g : Option (Nat × Bool)} {b : Bool}
    (h : wpEagerT P ops S Q T ((⟨d, .load ty (.tmp n), t, p, af, g⟩, b) :: r) a w) : wpEagerT P ops S Q T ((⟨d, .load ty (.tmp n), t, p, af, g⟩, b) :: r) a w := h
end
/-- where an operation alone ends -/
def OnlyQ (K : Act → World → Prop) (Q : Exit → Act → World → Prop) : Exit → Act → World → Prop
  | .normal, a, w => K a w
  | .panic c, a, w => Q (.panic c) a w
  | _, _, _ => False
/-- an operation by its law for a list -/
theorem oper_of_list {P : Program} {o : Oper} {a : Act} {w : World} {K : Act → World → Prop} {Q : Exit → Act → World → Prop} (hg : o.guard = none)
    (h : wpList P #[] (OnlyQ K Q) [o] a w) : Oper.wp P o a w K Q := by
  have hno : ¬ LetsOut (OnlyQ K Q) := fun ⟨_, _, h⟩ => h
  unfold wpList at h
  rw [if_pos (by simp [Region.wanted, hg])] at h
  rcases h with h | ⟨_, h⟩
  · replace h : Oper.wp P o a w K (OnlyQ K Q) := h
    unfold Oper.wp at h ⊢
    unfold Oper.upon at h ⊢
    split at h
    · exact h
    · exact h
    · exact h
    · refine Calls.mono h ?_
      intro e w' he
      cases e with
      | returned v => exact he
      | panicked c => exact he
      | outgrown => exact absurd he hno
    · exact h
    · exact h
    · exact h.elim
  · exact absurd h hno
theorem only_end {P : Program} {ops : Array Oper} {K : Act → World → Prop} {Q : Exit → Act → World → Prop} {a : Act} {w : World} (h : K a w) : wpList P ops (OnlyQ K Q) [] a w := h
theorem noPanic_end {Q : Exit → Act → World → Prop} {a : Act} {w : World} (h : Q .normal a w) : NoPanic Q .normal a w := h
end Go.Mir

namespace Go.Mir
open Go.RowKit

/-- which operation comes next: taken at once; the only one; one of two -/
inductive Tr where
  | nil
  | take (i : Nat) (r : Tr)
  | one (i : Nat) (r : Tr)
  | two (i j : Nat) (r s : Tr)
def Tr.deep : Tr → Nat
  | .nil => 0
  | .take _ r => r.deep + 1
  | .one _ r => r.deep + 1
  | .two _ _ r _ => r.deep + 1
def treeB (ops : Array Oper) : Tr → Array Bool → Bool
  | .nil, l => (Region.ready .any ops l).isEmpty
  | .take i r, l => (ops[i]?).isSome && Region.free .any ops l i && (Region.ready .any ops l).contains i && treeB ops r (l.setIfInBounds i true)
  | .one i r, l => (ops[i]?).isSome && Region.ready .any ops l == [i] && treeB ops r (l.setIfInBounds i true)
  | .two i j r s, l => (ops[i]?).isSome && (ops[j]?).isSome && Region.ready .any ops l == [i, j] && r.deep == s.deep && !(i == j) && treeB ops r (l.setIfInBounds i true) && treeB ops s (l.setIfInBounds j true)
section
variable {P : Program} {ops : Array Oper} {S : World → Prop} {Q : Exit → Act → World → Prop}
/-- one operation, in its turn -/
def wpTurn (P : Program) (ops : Array Oper) (o : Oper) (a : Act) (w : World) (K : Act → World → Prop) (Q : Exit → Act → World → Prop) : Prop :=
  if Region.wanted o (yielded ops a.tmps) then o.wp P a w K Q else K (a.put o.dst undef) w
def wpTree (P : Program) (ops : Array Oper) (S : World → Prop) (Q : Exit → Act → World → Prop) (l : List Oper) : Tr → Act → World → Prop
  | .nil, a, w => Q .normal a w
  | .take i r, a, w => match nthO l i with
    | some o => ∃ v, YieldsIf P ops S o v a ∧ wpTree P ops S Q l r (a.put o.dst v) w
    | none => False
  | .one i r, a, w => match nthO l i with
    | some o => wpTurn P ops o a w (fun a' w' => S w' ∧ wpTree P ops S Q l r a' w') Q
    | none => False
  | .two i j r s, a, w => (match nthO l i with
    | some o => wpTurn P ops o a w (fun a' w' => S w' ∧ wpTree P ops S Q l r a' w') Q
    | none => False) ∧ (match nthO l j with
    | some o => wpTurn P ops o a w (fun a' w' => S w' ∧ wpTree P ops S Q l s a' w') Q
    | none => False)
theorem wpOp_turn {i : Nat} {o : Oper} {K K' : Act → World → Prop} {a : Act} {w : World} (ho : ops[i]? = some o) (hK : ∀ a w, K a w → K' a w) (h : wpTurn P ops o a w K Q) : wpOp P ops Q i K' a w := by
  unfold wpOp
  simp only [ho]
  unfold wpTurn at h
  split at h
  · rename_i hw
    rw [if_pos hw]
    exact .inl (Oper.wp_mono (fun a' w' h5 => hK _ _ h5) h)
  · rename_i hw
    rw [if_neg hw]
    exact hK _ _ h
theorem wpAnyH_tree {l : List Oper} (hl : l.toArray = ops) (hs : Region.noSelect ops = true) (hQ : ∀ c a d v w, Q (.panic c) (a.put d v) w → Q (.panic c) a w) :
    ∀ (t : Tr) (listed : Array Bool) (a : Act) (w : World), treeB ops t listed = true → S w → wpTree P ops S Q l t a w → wpAnyH P .any ops Q S t.deep listed a w
  | .nil, listed, a, w, hp, _, h => by
    refine wpAnyH_done ?_ h _
    simpa [treeB, List.isEmpty_iff] using hp
  | .take i r, listed, a, w, hp, hS, h => by
    simp only [treeB, Bool.and_eq_true] at hp
    obtain ⟨⟨⟨h1, h2⟩, h3⟩, h4⟩ := hp
    obtain ⟨o, ho⟩ := Option.isSome_iff_exists.1 h1
    have hn : nthO l i = some o := by rw [← nthO_eq, hl]; exact ho
    simp only [wpTree, hn] at h
    obtain ⟨v, hy, h⟩ := h
    exact wpAnyH_take ho hs h2 h3 (fun c a w => hQ c a _ _ w) hy hS (wpAnyH_tree hl hs hQ r _ _ _ h4 hS h)
  | .one i r, listed, a, w, hp, hS, h => by
    simp only [treeB, Bool.and_eq_true, beq_iff_eq] at hp
    obtain ⟨⟨h1, h2⟩, h4⟩ := hp
    obtain ⟨o, ho⟩ := Option.isSome_iff_exists.1 h1
    have hn : nthO l i = some o := by rw [← nthO_eq, hl]; exact ho
    simp only [wpTree, hn] at h
    refine wpAnyH_all h2 (by simp) fun j hj => ?_
    rw [List.mem_singleton] at hj
    subst hj
    exact wpOp_turn ho (fun a' w' ⟨h5, h6⟩ => ⟨h5, wpAnyH_tree hl hs hQ r _ _ _ h4 h5 h6⟩) h
  | .two i j r s, listed, a, w, hp, hS, h => by
    simp only [treeB, Bool.and_eq_true, beq_iff_eq] at hp
    obtain ⟨⟨⟨⟨⟨⟨h1, h1'⟩, h2⟩, hd⟩, hne⟩, h4⟩, h4'⟩ := hp
    obtain ⟨o, ho⟩ := Option.isSome_iff_exists.1 h1
    obtain ⟨o', ho'⟩ := Option.isSome_iff_exists.1 h1'
    have hn : nthO l i = some o := by rw [← nthO_eq, hl]; exact ho
    have hn' : nthO l j = some o' := by rw [← nthO_eq, hl]; exact ho'
    simp only [wpTree, hn, hn'] at h
    refine wpAnyH_all h2 (by simp) fun k hk => ?_
    rcases List.mem_cons.1 hk with rfl | hk
    · exact wpOp_turn ho (fun a' w' ⟨h5, h6⟩ => ⟨h5, wpAnyH_tree hl hs hQ r _ _ _ h4 h5 h6⟩) h.1
    · rw [List.mem_singleton] at hk
      subst hk
      exact wpOp_turn ho' (fun a' w' ⟨h5, h6⟩ => ⟨h5, by rw [hd]; exact wpAnyH_tree hl hs hQ s _ _ _ h4' h5 h6⟩) h.2
/-- the beginning -/
theorem wp_region_tree {id : Nat} {a : Act} {w : World} {l : List Oper} (S : World → Prop) (t : Tr) (hm : P.follows .mixedOrders = true)
    (hp : (treeB l.toArray t (Array.replicate l.length false) && Region.noSelect l.toArray && t.deep == l.length) = true) (hS : S w.drew)
    (h : wpTree P l.toArray S (NoPanic Q) l t a w.drew) : (Code.region id l.toArray true).wp P Q a w := by
  refine wp_region_noPanic ?_
  simp only [Bool.and_eq_true, beq_iff_eq] at hp
  obtain ⟨⟨h1, h2⟩, h3⟩ := hp
  have := wpAnyH_tree (P := P) (Q := NoPanic Q) (S := S) (l := l) rfl h2 (fun _ _ _ _ _ h => h) t (Array.replicate l.length false) a w.drew h1 hS h
  refine wp_region_held hm (S := S) ?_
  rw [h3] at this
  have hz : l.toArray.size = l.length := List.size_toArray ..
  rw [hz]
  exact this
/-- its steps -/
theorem tree_take {l : List Oper} {i : Nat} {r : Tr} {a : Act} {w : World} {o : Oper} {v : Value} (hn : nthO l i = some o) (hw : Region.wanted o (yielded ops a.tmps) = true) (hy : ∀ w', S w' → (execOp a.eval o).run P w' = .ok (.value v) w')
    (h : wpTree P ops S Q l r (a.put o.dst v) w) : wpTree P ops S Q l (.take i r) a w := by
  simp only [wpTree, hn]; exact ⟨v, .inl ⟨hw, hy⟩, h⟩
theorem tree_load {l : List Oper} {i : Nat} {r : Tr} {a : Act} {w : World} {op : Oper} (hn : nthO l i = some op) (hw : Region.wanted op (yielded ops a.tmps) = true) (ty : TypeId) (x : Operand) (ho : op.op = .load ty x)
    (b o : Nat) (hx : a.eval x = .pointer (some ⟨b, o, none⟩)) (M : Array Value) (d : TypeDesc) (hc : ∀ w', S w' → w'.rangeAt b o M.toList)
    (hu : P.underlying ty = some d) (hd : d.isRow = true) (hi : (P.info? ty).map (·.size) = some M.size)
    (h : wpTree P ops S Q l r (a.put op.dst (.agg M)) w) : wpTree P ops S Q l (.take i r) a w := by
  refine tree_take hn hw (fun w' hb => ?_) h
  unfold execOp
  simp only [ho, hx, Instr.loadAt, Instr.sureAddr, Sem.run_bind, Sem.run_pure, Result.andThen_ok, run_loadVar_mid w' b o ty M.toList d (hc w' hb) hu hd (by simpa using hi)]
theorem tree_one {l : List Oper} {i : Nat} {r : Tr} {a : Act} {w : World} {o : Oper} (hn : nthO l i = some o) (hw : Region.wanted o (yielded ops a.tmps) = true)
    (h : ∀ K : Act → World → Prop, Shut (∀ a w, S w → wpTree P ops S Q l r a w → K a w) → Oper.wp P o a w K Q) : wpTree P ops S Q l (.one i r) a w := by
  simp only [wpTree, hn, wpTurn]; rw [if_pos hw]; exact h _ fun _ _ h1 h2 => ⟨h1, h2⟩
theorem tree_two {l : List Oper} {i j : Nat} {r s : Tr} {a : Act} {w : World} (h1 : wpTree P ops S Q l (.one i r) a w) (h2 : wpTree P ops S Q l (.one j s) a w) : wpTree P ops S Q l (.two i j r s) a w := by
  simp only [wpTree] at h1 h2 ⊢; exact ⟨h1, h2⟩
theorem tree_nil {l : List Oper} {a : Act} {w : World} (h : Q .normal a w) : wpTree P ops S (NoPanic Q) l .nil a w := h
end
end Go.Mir

namespace Go.Mir
open Go.RowKit

section
variable {P : Program} {ops : Array Oper} {S : World → Prop} {Q : Exit → Act → World → Prop} {marks : List Nat}
/-- all that is not listed waits for every marked operation -/
def allLate (ops : Array Oper) (marks : List Nat) (l : Array Bool) : Bool := (List.range ops.size).all fun j => l.getD j false || lateB ops marks j
theorem allLate_spec {l : Array Bool} (h : allLate ops marks l = true) {j : Nat} {o : Oper} (ho : ops[j]? = some o) (hl : l.getD j false = false) : lateB ops marks j = true := by
  have hj : j < ops.size := (Array.getElem?_eq_some_iff.1 ho).1
  have := (List.all_eq_true.1 h) j (List.mem_range.2 hj)
  rw [hl, Bool.false_or] at this
  exact this
theorem wpAnyG_of_late : ∀ (n : Nat) (listed : Array Bool) (a : Act) (w : World), (∀ (j : Nat) (o : Oper), ops[j]? = some o → listed.getD j false = false → lateB ops marks j = true) →
    wpAnyH P .any ops Q (fun _ => True) n listed a w → wpAnyG P ops Q S marks n listed a w
  | 0, _, _, _, _, h => h
  | n + 1, listed, a, w, hl, h => by
    refine ⟨h.1, fun i hi => ?_⟩
    obtain ⟨hun, o, ho, _⟩ := mem_ready.1 hi
    have hlate : lateB ops marks i = true := hl i o ho (by
      cases hg : listed.getD i false with
      | false => rfl
      | true =>
        exfalso
        rcases Nat.lt_or_ge i listed.size with h' | h'
        · simp [h'] at hun hg; rw [hun] at hg; cases hg
        · simp [Array.getElem?_eq_none h'] at hg)
    refine wpOp_mono (fun a' w' h3 => ⟨fun e => (by rw [hlate] at e; cases e), wpAnyG_of_late n _ a' w' (fun j oj hoj hj => ?_) h3.2⟩) (h.2 i hi)
    refine hl j oj hoj ?_
    by_cases hij : i = j
    · subst hij
      cases hg : listed.getD i false with
      | false => rfl
      | true =>
        exfalso
        rcases Nat.lt_or_ge i listed.size with h' | h'
        · simp [h'] at hun hg; rw [hun] at hg; cases hg
        · simp [Array.getElem?_eq_none h'] at hg
    · rw [getD_set_ne false hij] at hj; exact hj
/-- the plan: what is taken or called while S stands; then a tree -/
def planU (ops : Array Oper) (marks : List Nat) (t : Tr) : List (Nat × Bool) → Array Bool → Bool
  | (i, true) :: r, l => (ops[i]?).isSome && marks.contains i && Region.free .any ops l i && (Region.ready .any ops l).contains i && planU ops marks t r (l.setIfInBounds i true)
  | (i, false) :: r, l => (ops[i]?).isSome && Region.ready .any ops l == [i] && planU ops marks t r (l.setIfInBounds i true)
  | [], l => allLate ops marks l && treeB ops t l
/-- the walk: while S stands, and on -/
def wpEagerU (P : Program) (ops : Array Oper) (S : World → Prop) (Q : Exit → Act → World → Prop) (l : List Oper) (t : Tr) : List (Oper × Bool) → Act → World → Prop
  | [], a, w => wpTree P ops (fun _ => True) Q l t a w
  | (o, true) :: r, a, w => ∃ v, YieldsIf P ops S o v a ∧ wpEagerU P ops S Q l t r (a.put o.dst v) w
  | (o, false) :: r, a, w => if Region.wanted o (yielded ops a.tmps) then o.wp P a w (fun a' w' => S w' ∧ wpEagerU P ops S Q l t r a' w') Q else wpEagerU P ops S Q l t r (a.put o.dst undef) w
theorem wpAnyG_planU {l : List Oper} (hl : l.toArray = ops) (hs : Region.noSelect ops = true) (hQ : ∀ c a d v w, Q (.panic c) (a.put d v) w → Q (.panic c) a w) (t : Tr) :
    ∀ (π : List (Nat × Bool)) (listed : Array Bool) (a : Act) (w : World), planU ops marks t π listed = true → closedL ops listed → S w → wpEagerU P ops S Q l t (planOps l π) a w → wpAnyG P ops Q S marks (π.length + t.deep) listed a w
  | [], listed, a, w, hp, _, _, h => by
    rw [List.length_nil, Nat.zero_add]
    simp only [planU, Bool.and_eq_true] at hp
    exact wpAnyG_of_late _ _ _ _ (fun j o ho hj => allLate_spec hp.1 ho hj) (wpAnyH_tree hl hs hQ t listed a w hp.2 trivial h)
  | (i, true) :: r, listed, a, w, hp, hcl, hS, h => by
    simp only [planU, Bool.and_eq_true] at hp
    obtain ⟨⟨⟨⟨h1, hmk⟩, h2⟩, h3⟩, h4⟩ := hp
    obtain ⟨o, ho⟩ := Option.isSome_iff_exists.1 h1
    have hn : nthO l i = some o := by rw [← nthO_eq, hl]; exact ho
    simp only [planOps, hn, wpEagerU] at h
    obtain ⟨v, hy, h⟩ := h
    rw [List.length_cons, Nat.add_right_comm]
    exact wpAnyG_take ho (by simpa using hmk) (Region.noSelect_spec hs) (fun c a w => hQ c a _ _ w) _ _ _ _ (Region.free_spec ho h2) (by simpa using h3) hcl hy hS (wpAnyG_planU hl hs hQ t r _ _ _ h4 (hcl.set (by simpa using h3)) hS h)
  | (i, false) :: r, listed, a, w, hp, hcl, hS, h => by
    simp only [planU, Bool.and_eq_true, beq_iff_eq] at hp
    obtain ⟨⟨h1, h2⟩, h4⟩ := hp
    obtain ⟨o, ho⟩ := Option.isSome_iff_exists.1 h1
    have hn : nthO l i = some o := by rw [← nthO_eq, hl]; exact ho
    simp only [planOps, hn, wpEagerU] at h
    rw [List.length_cons, Nat.add_right_comm]
    refine ⟨fun e => (by rw [h2] at e; cases e), fun j hj => ?_⟩
    rw [h2, List.mem_singleton] at hj
    subst hj
    unfold wpOp
    simp only [ho]
    split at h
    · rename_i hw
      rw [if_pos hw]
      exact .inl (Oper.wp_mono (fun a' w' ⟨h5, h6⟩ => ⟨fun _ => h5, wpAnyG_planU hl hs hQ t r _ _ _ h4 (hcl.set (by rw [h2]; exact List.mem_singleton.2 rfl)) h5 h6⟩) h)
    · rename_i hw
      rw [if_neg hw]
      exact ⟨fun _ => hS, wpAnyG_planU hl hs hQ t r _ _ _ h4 (hcl.set (by rw [h2]; exact List.mem_singleton.2 rfl)) hS h⟩
/-- the beginning -/
theorem wp_region_eager_u {id : Nat} {a : Act} {w : World} {l : List Oper} (S : World → Prop) (marks : List Nat) (π : List (Nat × Bool)) (t : Tr) (hm : P.follows .mixedOrders = true)
    (hp : (planU l.toArray marks t π (Array.replicate l.length false) && Region.noSelect l.toArray && π.length + t.deep == l.length) = true) (hS : S w.drew)
    (h : wpEagerU P l.toArray S (NoPanic Q) l t (planOps l π) a w.drew) : (Code.region id l.toArray true).wp P Q a w := by
  refine wp_region_noPanic ?_
  simp only [Bool.and_eq_true, beq_iff_eq] at hp
  obtain ⟨⟨h1, h2⟩, h3⟩ := hp
  have := wpAny_of_G _ _ _ _ (wpAnyG_planU (P := P) (Q := NoPanic Q) (S := S) (marks := marks) (l := l) rfl h2 (fun _ _ _ _ _ h => h) t π (Array.replicate l.length false) a w.drew h1 (fun j o _ hj => by rw [Array.getD_eq_getD_getElem?, Array.getElem?_replicate] at hj; split at hj <;> cases hj) hS h)
  refine wp_region_any hm ?_
  rw [h3] at this
  have hz : l.toArray.size = l.length := List.size_toArray ..
  rw [hz]
  exact this
/-- the next operation, written out -/
theorem eagerUOpen {l : List Oper} {t : Tr} {i : Nat} {b : Bool} {r : List (Nat × Bool)} {a : Act} {w : World} {o : Oper} (ho : nthO l i = some o)
    (h : wpEagerU P ops S Q l t ((o, b) :: planOps l r) a w) : wpEagerU P ops S Q l t (planOps l ((i, b) :: r)) a w := by
  unfold planOps; rw [ho]; exact h
theorem eagerUEnd {l : List Oper} {t : Tr} {a : Act} {w : World} (h : wpTree P ops (fun _ => True) Q l t a w) : wpEagerU P ops S Q l t (planOps l []) a w := h
theorem wpEagerU_take {l : List Oper} {t : Tr} {o : Oper} {r : List (Oper × Bool)} {a : Act} {w : World} {v : Value} (hw : Region.wanted o (yielded ops a.tmps) = true)
    (hy : ∀ w', S w' → (execOp a.eval o).run P w' = .ok (.value v) w') (h : wpEagerU P ops S Q l t r (a.put o.dst v) w) : wpEagerU P ops S Q l t ((o, true) :: r) a w := ⟨v, .inl ⟨hw, hy⟩, h⟩
theorem wpEagerU_skip {l : List Oper} {t : Tr} {o : Oper} {r : List (Oper × Bool)} {a : Act} {w : World} (hw : Region.wanted o (yielded ops a.tmps) = false)
    (h : wpEagerU P ops S Q l t r (a.put o.dst undef) w) : wpEagerU P ops S Q l t ((o, true) :: r) a w := ⟨undef, .inr ⟨hw, rfl⟩, h⟩
theorem wpEagerU_load {l : List Oper} {t : Tr} {op : Oper} {r : List (Oper × Bool)} {a : Act} {w : World} (hw : Region.wanted op (yielded ops a.tmps) = true) (ty : TypeId) (x : Operand) (ho : op.op = .load ty x)
    (b o : Nat) (hx : a.eval x = .pointer (some ⟨b, o, none⟩)) (M : Array Value) (d : TypeDesc) (hc : ∀ w', S w' → w'.rangeAt b o M.toList)
    (hu : P.underlying ty = some d) (hd : d.isRow = true) (hi : (P.info? ty).map (·.size) = some M.size)
    (h : wpEagerU P ops S Q l t r (a.put op.dst (.agg M)) w) : wpEagerU P ops S Q l t ((op, true) :: r) a w := by
  refine wpEagerU_take hw (fun w' hb => ?_) h
  unfold execOp
  simp only [ho, hx, Instr.loadAt, Instr.sureAddr, Sem.run_bind, Sem.run_pure, Result.andThen_ok, run_loadVar_mid w' b o ty M.toList d (hc w' hb) hu hd (by simpa using hi)]
theorem wpEagerU_op {l : List Oper} {t : Tr} {o : Oper} {r : List (Oper × Bool)} {a : Act} {w : World} (hw : Region.wanted o (yielded ops a.tmps) = true)
    (h : ∀ K : Act → World → Prop, Shut (∀ a w, S w → wpEagerU P ops S Q l t r a w → K a w) → Oper.wp P o a w K Q) : wpEagerU P ops S Q l t ((o, false) :: r) a w := by
  unfold wpEagerU; rw [if_pos hw]; exact h _ fun _ _ h1 h2 => ⟨h1, h2⟩
theorem eagerULoadAt {l : List Oper} {t : Tr} {r : List (Oper × Bool)} {a : Act} {w : World} (n : Nat) {d : Option Nat} {ty : TypeId} {t' : TypeId} {p : String} {af : Array Edge} {g : Option (Nat × Bool)} {b : Bool}
    (h : wpEagerU P ops S Q l t ((⟨d, .load ty (.tmp n), t', p, af, g⟩, b) :: r) a w) : wpEagerU P ops S Q l t ((⟨d, .load ty (.tmp n), t', p, af, g⟩, b) :: r) a w := h
end
end Go.Mir

namespace Go.Proofs.YtmphajilnkgcaaaDoor.Rpl
open Go.RowKit Go.Mir Go.Mir.Hx Go.Mir.Parts

def rpA (r : RP) : Array Value := #[.int .i64 r.kind, .int .i64 r.err, .int .u32 (r.se : Int), .int .u32 (r.sq : Int), .int .u32 (r.qu : Int), .int .u32 (r.us : Int), .int .u32 (r.ex : Int)]
def zR : Array Value := rpA RP.zero
theorem zeroR (w : World) : (zeroValue 27).run Tryd.prog w = .ok (.agg zR) w := by kernel_rfl
theorem infoR (n : Nat) (h : n = 7) : (Tryd.prog.info? 27).map (·.size) = some n := by subst h; kernel_rfl
theorem rpA_one (r : RP) : (rpA r).all (·.oneCell') = true := by simp [rpA, Value.oneCell']
theorem built_r0 : Tryd.prog.built 27 [] = some zR := by kernel_rfl
theorem built_r2 (k e : Int) : Tryd.prog.built 27 [(0, .int .i64 k), (1, .int .i64 e)] = some (rpA ⟨k, e, 0, 0, 0, 0, 0⟩) := by kernel_rfl
theorem rp_cells {w : World} {g : Nat} {r : RP} {t : TypeId} {fr : Nat × Nat} (h : w.heap[g]? = some (.cells (rpA r) t fr)) :
    w.cell? ⟨g, 0, none⟩ = some (.int .i64 r.kind) ∧ w.cell? ⟨g, 1, none⟩ = some (.int .i64 r.err) ∧ w.cell? ⟨g, 2, none⟩ = some (.int .u32 (r.se : Int)) ∧ w.cell? ⟨g, 3, none⟩ = some (.int .u32 (r.sq : Int)) ∧ w.cell? ⟨g, 4, none⟩ = some (.int .u32 (r.qu : Int)) ∧ w.cell? ⟨g, 5, none⟩ = some (.int .u32 (r.us : Int)) ∧ w.cell? ⟨g, 6, none⟩ = some (.int .u32 (r.ex : Int)) := by
  refine ⟨?_, ?_, ?_, ?_, ?_, ?_, ?_⟩ <;> (rw [cell_of_row _ _ _ _ _ _ h]; rfl)
theorem built_r3 (k e : Int) : Tryd.prog.built 27 [(0, .int .i64 k), (1, .int .i64 e)] = some #[.int .i64 k, .int .i64 e, .int .u32 0, .int .u32 0, .int .u32 0, .int .u32 0, .int .u32 0] := by kernel_rfl
theorem wpList_build_g {P : Program} {w : World} {ops : Array Oper} {rest : List Oper} {o : Oper} {a : Act} {Q : Exit → Act → World → Prop} (hw : Region.wanted o (yielded ops a.tmps) = true) (t : TypeId) (parts : Array (Nat × Operand)) (ho : o.op = .build t parts)
    (vals : List (Nat × Value)) (hv : (parts.toList.map fun p => (p.1, a.eval p.2)) = vals) (cells : Array Value) (h : P.built t vals = some cells) (k : wpList P ops Q rest (a.put o.dst (.agg cells)) w) : wpList P ops Q (o :: rest) a w :=
  wpList_unguard hw (Rdr.wpList_build rfl t parts ho vals hv cells h k)
/-- the pointers to a reply's numbers -/
def ptrs (g : Nat) : Array Value := #[.pointer (some ⟨g, 2, none⟩), .pointer (some ⟨g, 3, none⟩), .pointer (some ⟨g, 4, none⟩), .pointer (some ⟨g, 5, none⟩), .pointer (some ⟨g, 6, none⟩)]
def zP : Array Value := (List.replicate 5 (Value.pointer none)).toArray
theorem zeroP (w : World) : (zeroValue 51).run Tryd.prog w = .ok (.agg zP) w := by kernel_rfl
theorem infoP (n : Nat) (h : n = 5) : (Tryd.prog.info? 51).map (·.size) = some n := by subst h; kernel_rfl
theorem ptrs_one (g : Nat) : (ptrs g).all (·.oneCell') = true := by simp [ptrs, Value.oneCell']
theorem built_ptrs (g : Nat) : Tryd.prog.built 51 [(0, .pointer (some ⟨g, 2, none⟩)), (1, .pointer (some ⟨g, 3, none⟩)), (2, .pointer (some ⟨g, 4, none⟩)), (3, .pointer (some ⟨g, 5, none⟩)), (4, .pointer (some ⟨g, 6, none⟩))] = some (ptrs g) := by kernel_rfl
set_option maxRecDepth 100000 in
set_option maxHeartbeats 1600000 in
theorem numbers_any (g : Nat) (w : World) : Calls Tryd.prog 22 #[.pointer (some ⟨g, 0, none⟩)] w fun e w' => e = .returned (.agg (ptrs g)) ∧ Below w.heap.size w w' := by
  have hz := zeroP
  have hb := Below.allocs w (.cells zP 51)
  have HR := Lib.hid (heap_alloc_last w (.cells zP 51))
  have HB := Lib.hid hb
  clear hb
  go_enter Tryd.func22, Tryd.ntmps22
  go_upto_region 1 with fail
  generalize w.alloc (.cells zP 51) = w1 at *
  refine wp_region_tree (fun _ => True) (.take 0 (.take 1 (.take 2 (.take 3 (.take 4 (.take 5 (.take 6 (.take 7 (.take 8 (.take 9 (.take 10 (.take 11 (.take 12 (.take 13 (.take 14 (.one 15 (.one 16 .nil))))))))))))))))) (by kernel_rfl) (by kernel_rfl) trivial ?_
  have hy0 : Below w1.heap.size w1 w1.drew := below_drew1 _ _
  have HR1 := Lib.hid (Below.keepOld hy0 HR.out)
  have HB1 := Lib.hid (HB.out.trans (hy0.mono HB.out.size))
  clear hy0 HR HB
  generalize w1.drew = w2 at *
  repeat (apply tree_take; (· rfl); (· rfl); (· (intro w' hb'; go_simp; try with_reducible rfl)); try simp only [Act.put, List.setIfInBounds_toArray, List.set_cons_zero, List.set_cons_succ])
  refine tree_one rfl (by rfl) (fun K hK => oper_of_list rfl ?_)
  refine Rdr.wpList_build rfl 51 _ rfl [(0, .pointer (some ⟨g, 2, none⟩)), (1, .pointer (some ⟨g, 3, none⟩)), (2, .pointer (some ⟨g, 4, none⟩)), (3, .pointer (some ⟨g, 5, none⟩)), (4, .pointer (some ⟨g, 6, none⟩))] rfl _ (built_ptrs g) ?_
  refine only_end (Shut.out hK _ _ trivial ?_)
  clear hK K
  try simp only [Act.put]
  refine tree_one rfl (by rfl) (fun K hK => oper_of_list rfl ?_)
  refine wpList_store_row rfl 51 _ _ rfl w.heap.size (ptrs g) rfl rfl 51 zP HR1.out (infoP _ rfl) rfl (ptrs_one g) ?_
  refine only_end (Shut.out hK _ _ trivial ?_)
  clear hK K
  try simp only [Act.put]
  refine tree_nil ?_
  go_wp2_with fail
  have HS := Lib.hid (setRow_heap _ _ _ (ptrs g) _ _ HR1.out)
  refine bodyPost_ret (results_cell_row rfl _ _ _ _ _ _ _ rfl HS.out Tryd.underlying51 rfl (infoP _ rfl)) rfl ?_
  exact ⟨rfl, below_setRow HB1.out (Nat.le_refl _) _⟩
set_option maxRecDepth 100000 in
set_option maxHeartbeats 1600000 in
theorem right_any (r : RP) (w : World) : Calls Tryd.prog 26 #[.agg (rpA r)] w fun e w' => e = .returned (.bool (decide r.right)) ∧ Below w.heap.size w w' := by
  have HB1 := Lib.hid (Below.allocs w (.cells (rpA r) 27))
  have HR := Lib.hid (heap_alloc_last w (.cells (rpA r) 27))
  obtain ⟨c0, c1, _⟩ := rp_cells HR.out
  by_cases k0 : r.kind < 0
  · have d0 : decide (r.kind < 0) = true := decide_eq_true k0
    have HQ : Hid (decide r.right = false) := decide_eq_false (fun h => by have := h.1.1; omega)
    clear k0
    go_enter Tryd.func26, Tryd.ntmps26
    go_wp2_with fail
    go_ret
    exact ⟨by rw [HQ.out]; rfl, HB1.out⟩
  have d0 : decide (r.kind < 0) = false := decide_eq_false k0
  by_cases k1 : 6 < r.kind
  · have d1 : decide ((6 : Int) < r.kind) = true := decide_eq_true k1
    have HQ : Hid (decide r.right = false) := decide_eq_false (fun h => by have := h.1.2.1; omega)
    clear k0 k1
    go_enter Tryd.func26, Tryd.ntmps26
    go_wp2_with fail
    go_ret
    exact ⟨by rw [HQ.out]; rfl, HB1.out⟩
  have d1 : decide ((6 : Int) < r.kind) = false := decide_eq_false k1
  by_cases e0 : r.err < 0
  · have d2 : decide (r.err < 0) = true := decide_eq_true e0
    have HQ : Hid (decide r.right = false) := decide_eq_false (fun h => by have := h.1.2.2.1; omega)
    clear k0 k1 e0
    go_enter Tryd.func26, Tryd.ntmps26
    go_wp2_with fail
    go_ret
    exact ⟨by rw [HQ.out]; rfl, HB1.out⟩
  have d2 : decide (r.err < 0) = false := decide_eq_false e0
  by_cases e1 : 20 < r.err
  · have d3 : decide ((20 : Int) < r.err) = true := decide_eq_true e1
    have HQ : Hid (decide r.right = false) := decide_eq_false (fun h => by have := h.1.2.2.2; omega)
    clear k0 k1 e0 e1
    go_enter Tryd.func26, Tryd.ntmps26
    go_wp2_with fail
    go_ret
    exact ⟨by rw [HQ.out]; rfl, HB1.out⟩
  have d3 : decide ((20 : Int) < r.err) = false := decide_eq_false e1
  have hk : r.kinds := ⟨by omega, by omega, by omega, by omega⟩
  by_cases z : r.err = 0
  · have d4 : (r.err == 0) = true := beq_iff_eq.2 z
    have HQ : Hid (decide r.right = true) := decide_eq_true ⟨hk, .inl z⟩
    clear k0 k1 e0 e1 z hk
    go_enter Tryd.func26, Tryd.ntmps26
    go_wp2_with fail
    go_ret
    exact ⟨by rw [HQ.out]; rfl, HB1.out⟩
  have d4 : (r.err == 0) = false := beq_eq_false_iff_ne.2 z
  obtain ⟨kind, err, se, sq, qu, us, ex⟩ := r
  dsimp only at c0 c1 k0 k1 e0 e1 d0 d1 d2 d3 d4 z
  have hz5 : ∀ (s q u v x : Nat), (⟨kind, err, s, q, u, v, x⟩ : RP).right ↔ (s = 0 ∧ q = 0 ∧ u = 0 ∧ v = 0 ∧ x = 0) := fun s q u v x => ⟨fun h => h.2.resolve_left z, fun h => ⟨⟨by show 0 ≤ kind; omega, by show kind ≤ 6; omega, by show 0 ≤ err; omega, by show err ≤ 20; omega⟩, .inr h⟩⟩
  have HZ5 := Lib.hid hz5
  unfold rpA at HB1 HR ⊢
  dsimp only at HB1 HR ⊢
  clear k0 k1 e0 e1 z hk hz5
  by_cases zse : se = 0
  rotate_left
  · have g2 : (se == 0) = false := beq_eq_false_iff_ne.2 zse
    have g3 : ((se : Int) == 0) = false := by rw [beq_eq_false_iff_ne]; omega
    have HQ : Hid (decide (⟨kind, err, se, sq, qu, us, ex⟩ : RP).right = false) := decide_eq_false (fun h => zse ((HZ5.out _ _ _ _ _).1 h).1)
    have CROW := HR
    clear zse HR
    skip
    go_enter Tryd.func26, Tryd.ntmps26
    go_upto_region 3 with fail
    go_wp2_with (first
      | refine wpList_load_row_g rfl 27 _ rfl w.heap.size rfl 27 _ (0, 0) _ CROW.out Tryd.underlying27 rfl (infoR _ rfl) ?_
      | refine wpList_build_g rfl 27 _ rfl [(0, .int .i64 kind), (1, .int .i64 err)] rfl _ (built_r3 kind err) ?_)
    go_ret
    exact ⟨by rw [HQ.out]; rfl, HB1.out⟩
  subst zse
  by_cases zsq : sq = 0
  rotate_left
  · have g2 : (sq == 0) = false := beq_eq_false_iff_ne.2 zsq
    have g3 : ((sq : Int) == 0) = false := by rw [beq_eq_false_iff_ne]; omega
    have HQ : Hid (decide (⟨kind, err, 0, sq, qu, us, ex⟩ : RP).right = false) := decide_eq_false (fun h => zsq ((HZ5.out _ _ _ _ _).1 h).2.1)
    have CROW := HR
    clear zsq HR
    skip
    go_enter Tryd.func26, Tryd.ntmps26
    go_upto_region 3 with fail
    go_wp2_with (first
      | refine wpList_load_row_g rfl 27 _ rfl w.heap.size rfl 27 _ (0, 0) _ CROW.out Tryd.underlying27 rfl (infoR _ rfl) ?_
      | refine wpList_build_g rfl 27 _ rfl [(0, .int .i64 kind), (1, .int .i64 err)] rfl _ (built_r3 kind err) ?_)
    go_ret
    exact ⟨by rw [HQ.out]; rfl, HB1.out⟩
  subst zsq
  by_cases zqu : qu = 0
  rotate_left
  · have g2 : (qu == 0) = false := beq_eq_false_iff_ne.2 zqu
    have g3 : ((qu : Int) == 0) = false := by rw [beq_eq_false_iff_ne]; omega
    have HQ : Hid (decide (⟨kind, err, 0, 0, qu, us, ex⟩ : RP).right = false) := decide_eq_false (fun h => zqu ((HZ5.out _ _ _ _ _).1 h).2.2.1)
    have CROW := HR
    clear zqu HR
    skip
    go_enter Tryd.func26, Tryd.ntmps26
    go_upto_region 3 with fail
    go_wp2_with (first
      | refine wpList_load_row_g rfl 27 _ rfl w.heap.size rfl 27 _ (0, 0) _ CROW.out Tryd.underlying27 rfl (infoR _ rfl) ?_
      | refine wpList_build_g rfl 27 _ rfl [(0, .int .i64 kind), (1, .int .i64 err)] rfl _ (built_r3 kind err) ?_)
    go_ret
    exact ⟨by rw [HQ.out]; rfl, HB1.out⟩
  subst zqu
  by_cases zus : us = 0
  rotate_left
  · have g2 : (us == 0) = false := beq_eq_false_iff_ne.2 zus
    have g3 : ((us : Int) == 0) = false := by rw [beq_eq_false_iff_ne]; omega
    have HQ : Hid (decide (⟨kind, err, 0, 0, 0, us, ex⟩ : RP).right = false) := decide_eq_false (fun h => zus ((HZ5.out _ _ _ _ _).1 h).2.2.2.1)
    have CROW := HR
    clear zus HR
    skip
    go_enter Tryd.func26, Tryd.ntmps26
    go_upto_region 3 with fail
    go_wp2_with (first
      | refine wpList_load_row_g rfl 27 _ rfl w.heap.size rfl 27 _ (0, 0) _ CROW.out Tryd.underlying27 rfl (infoR _ rfl) ?_
      | refine wpList_build_g rfl 27 _ rfl [(0, .int .i64 kind), (1, .int .i64 err)] rfl _ (built_r3 kind err) ?_)
    go_ret
    exact ⟨by rw [HQ.out]; rfl, HB1.out⟩
  subst zus
  by_cases zex : ex = 0
  rotate_left
  · have g2 : (ex == 0) = false := beq_eq_false_iff_ne.2 zex
    have g3 : ((ex : Int) == 0) = false := by rw [beq_eq_false_iff_ne]; omega
    have HQ : Hid (decide (⟨kind, err, 0, 0, 0, 0, ex⟩ : RP).right = false) := decide_eq_false (fun h => zex ((HZ5.out _ _ _ _ _).1 h).2.2.2.2)
    have CROW := HR
    clear zex HR
    skip
    go_enter Tryd.func26, Tryd.ntmps26
    go_upto_region 3 with fail
    go_wp2_with (first
      | refine wpList_load_row_g rfl 27 _ rfl w.heap.size rfl 27 _ (0, 0) _ CROW.out Tryd.underlying27 rfl (infoR _ rfl) ?_
      | refine wpList_build_g rfl 27 _ rfl [(0, .int .i64 kind), (1, .int .i64 err)] rfl _ (built_r3 kind err) ?_)
    go_ret
    exact ⟨by rw [HQ.out]; rfl, HB1.out⟩
  subst zex
  have HQ : Hid (decide (⟨kind, err, 0, 0, 0, 0, 0⟩ : RP).right = true) := decide_eq_true ((HZ5.out _ _ _ _ _).2 ⟨rfl, rfl, rfl, rfl, rfl⟩)
  have CROW := HR
  clear HR
  skip
  go_enter Tryd.func26, Tryd.ntmps26
  go_upto_region 3 with fail
  go_wp2_with (first
    | refine wpList_load_row_g rfl 27 _ rfl w.heap.size rfl 27 _ (0, 0) _ CROW.out Tryd.underlying27 rfl (infoR _ rfl) ?_
    | refine wpList_build_g rfl 27 _ rfl [(0, .int .i64 kind), (1, .int .i64 err)] rfl _ (built_r3 kind err) ?_)
  go_ret
  exact ⟨by rw [HQ.out]; rfl, HB1.out⟩
end Go.Proofs.YtmphajilnkgcaaaDoor.Rpl

namespace Go.Proofs.YtmphajilnkgcaaaDoor.Rpl
open Go.RowKit Go.Mir Go.Mir.Hx Go.Mir.Parts HexW

def cutS (p : Option Addr) (c k : Nat) : Option Addr := if c = k then p else p.map (·.add k)
theorem ws_drop {w : World} {p : Option Addr} {L c : Nat} {ls : List (List UInt8)} (h : Ws w p L c ls) (k : Nat) (hk : k ≤ L) : Ws w (cutS p c k) (L - k) (c - k) (ls.drop k) := by
  have hle := h.le
  have hmax := h.max
  have hl := h.length
  unfold cutS
  by_cases hc : c = k
  · have hm : L - k = 0 := by omega
    rw [if_pos hc, hm, hc, Nat.sub_self, List.drop_of_length_le (by omega)]
    exact ⟨by simp [strV], Nat.le_refl _, by omega, fun _ => rfl, fun a ha j u hu => by simp [strV] at hu⟩
  · rw [if_neg hc]
    refine ⟨by rw [strV_length, List.length_drop, Nat.mul_one]; omega, by omega, by omega, fun hq => ?_, fun a ha j u hu => ?_⟩
    · cases p with
      | none => have := h.nil0 rfl; omega
      | some a => cases hq
    · cases p with
      | none => cases ha
      | some a0 =>
        obtain rfl := Option.some.inj ha
        have h1 : (strV ls)[k + j]? = some u := by
          rw [strV, List.getElem?_map] at hu ⊢
          rw [List.getElem?_drop] at hu
          exact hu
        have hj : k + j < ls.length := by
          have := (List.getElem?_eq_some_iff.1 h1).1
          rwa [strV_length] at this
        obtain ⟨b, o, hbo⟩ := h.addr (by omega) (by omega)
        obtain rfl := Option.some.inj hbo
        have h2 := h.cell _ rfl (k + j) u h1
        rw [add_none] at h2
        show w.cell? (((⟨b, o, none⟩ : Addr).add k).add j) = some u
        rw [add_none, add_none, Nat.add_assoc]
        exact h2
theorem cutSR {w : World} {p : Option Addr} {L c : Nat} {ls : List (List UInt8)} (h : Ws w p L c ls) (k : Nat) (lo : Int) (hlo : lo = (k : Int)) (hk : k ≤ L) :
    ∀ w0, (Instr.sliceAt 35 (.slice p L c) (some (.int .i64 lo)) none none).run Tryd.prog w0 = .ok (.slice (cutS p c k) (L - k) (c - k)) w0 := by
  subst hlo
  have hle := h.le
  have hmax := h.max
  have hsz : (Tryd.prog.info? 9).map (·.size) = some 1 := by kernel_rfl
  obtain ⟨i, hi, hi1⟩ := Option.map_eq_some_iff.1 hsz
  intro w0
  have hb1 : (0 : Int) ≤ (L : Int) ∧ (L : Int) ≤ (c : Int) := by omega
  have hb3 : (0 : Int) ≤ (k : Int) ∧ (k : Int) ≤ (L : Int) := by omega
  simp [Instr.sliceAt, Instr.slice, cutS, run_underlying Tryd.underlying35, Instr.sliceBounds, Instr.sliceBound, asIntOf, sizeOf, typeInfo, hi, hi1, hb3]
  try omega
/-- one number more -/
theorem rp_push (k e : Int) (l : List Nat) (h : l.length < 5) (v : Nat) : (rpA (mkR k e l)).setIfInBounds (2 + l.length) (.int .u32 (v : Int)) = rpA (mkR k e (l ++ [v])) := by
  match l, h with
  | [], _ => rfl
  | [_], _ => rfl
  | [_, _], _ => rfl
  | [_, _, _], _ => rfl
  | [_, _, _, _], _ => rfl
theorem ptrs_get (g i : Nat) (h : i < 5) : (ptrs g)[i]? = some (.pointer (some ⟨g, 2 + i, none⟩)) := by
  match i, h with
  | 0, _ => rfl
  | 1, _ => rfl
  | 2, _ => rfl
  | 3, _ => rfl
  | 4, _ => rfl
theorem rp_num (r : RP) (i : Nat) (h : i < 5) : (rpA r)[2 + i]? = some (.int .u32 ((r.nums.getD i 0 : Nat) : Int)) := by
  match i, h with
  | 0, _ => rfl
  | 1, _ => rfl
  | 2, _ => rfl
  | 3, _ => rfl
  | 4, _ => rfl
/-- the numbers of the first words -/
def fst (ws : List (List UInt8)) (i : Nat) : List Nat := ((ws.drop 2).take i).map fun x => (numOf x 4294967295).1
theorem fst_succ (ws : List (List UInt8)) (i : Nat) (h : i < (ws.drop 2).length) : fst ws (i + 1) = fst ws i ++ [(numOf ((ws.drop 2)[i]) 4294967295).1] := by
  unfold fst
  rw [List.take_succ_eq_append_getElem h, List.map_append]
  rfl
theorem fst_len (ws : List (List UInt8)) (i : Nat) (h : i ≤ (ws.drop 2).length) : (fst ws i).length = i := by
  unfold fst
  rw [List.length_map, List.length_take]; omega
/-- the boxes of Parse -/
structure PS (w : World) (r : RP) (X : World) : Prop where
  r2 : X.heap[w.heap.size]? = some (.cells zR 27 (0, 0))
  r4 : X.heap[w.heap.size + 1]? = some (.cells (rpA r) 27 (0, 0))
  low : Below w.heap.size w X
theorem PS.next {w X Y : World} {r : RP} (h : PS w r X) (hb : Below X.heap.size X Y) : PS w r Y := ⟨Below.keepOld hb h.r2, Below.keepOld hb h.r4, h.low.trans (hb.mono h.low.size)⟩
def ParP (s : List UInt8) (w : World) (e : Ending) (w' : World) : Prop := e = .returned (.tuple #[.agg (rpA (parseB s).1), .int .i64 (parseB s).2]) ∧ Below w.heap.size w w'
set_option maxRecDepth 100000 in
set_option maxHeartbeats 6400000 in
theorem parse_any (s : List UInt8) (w : World) (hs : s.length < 4294967281) (hm : MaxL w) :
    Calls Tryd.prog 7 #[.string (S s)] w (ParP s w) := by
  have hz := zeroR
  obtain ⟨q1, q2, q3, q4⟩ := Go.Mir.two_allocs w (.cells zR 27) (.cells zR 27)
  have HPS0 : Hid (PS w RP.zero ((w.alloc (.cells zR 27)).alloc (.cells zR 27))) := ⟨q1, q2, q4⟩
  have HSZ := Lib.hid q3
  have HSP := Lib.hid (split_any s _ hs (hm.below q4))
  have hwl : ∀ x ∈ sp s, x.length ≤ s.length := fun x hx => sp_len s x hx
  clear q1 q2 q3 q4 hm
  go_enter Tryd.func7, Tryd.ntmps7
  go_upto_region 2 with fail
  generalize (w.alloc (.cells zR 27)).alloc (.cells zR 27) = w2 at *
  go_wp2_with fail
  refine HSP.out.mono ?_
  rintro e w3 ⟨rfl, hws, hb3⟩
  have HPS3 := Lib.hid (HPS0.out.next hb3)
  have HW3 := Lib.hid hws
  have HGW : Hid (w.heap.size + 2 ≤ w2.heap.size) := by show _ ≤ _; rw [HSZ.out]; exact Nat.le_refl _
  have HPAR : Hid (parseB s = parseW (sp s)) := rfl
  have hpos := sp_pos s
  have HWL : Hid (∀ x ∈ sp s, x.length ≤ 1099511627776) := fun x hx => by have := hwl x hx; omega
  clear hws hb3 HSP HPS0 hs HSZ hwl
  generalize sp s = ws at *
  generalize w2.heap.size = gw at *
  obtain ⟨n, hn⟩ : ∃ n, ws.length = n := ⟨_, rfl⟩
  rw [hn] at HW3 hpos ⊢
  have HN := Lib.hid hn
  have hn47 : n ≤ 9223372036854775807 := HW3.out.max
  have h0l : 0 < ws.length := by omega
  have HA : Hid (ws.getD 0 [] = ws[0]'h0l) := by show _ = _; rw [List.getD_eq_getElem?_getD, List.getElem?_eq_getElem h0l]; rfl
  have hc0 : w3.cell? ⟨gw, 0, none⟩ = some (.string (S (ws[0]'h0l))) := by have := Ws.str HW3.out h0l; rwa [Nat.zero_add] at this
  generalize ws[0]'h0l = a0 at *
  have HK := Lib.hid (kindOf_any a0 w3)
  have HNF : Hid (∀ (h : ¬ Fits ws), parseW ws = (RP.zero, 4)) := fun h => parse_not h
  clear hn
  generalize hO : ofB a0 K7 = O at *
  obtain ⟨kk, kok⟩ := O
  have HKO := Lib.hid hO
  go_wp2_with fail
  refine HK.out.mono ?_
  rintro e w4 ⟨rfl, hb4⟩
  have HPS4 := Lib.hid (HPS3.out.next hb4)
  have HW4 := Lib.hid (HW3.out.below hb4)
  clear hb4 HK HPS3 HW3 hc0 hO
  cases kok with
  | false =>
    have HBADQ : Hid (parseW ws = (RP.zero, 4)) := HNF.out (fun h => by have := h.k; rw [HA.out, HKO.out] at this; cases this)
    have HPS := HPS4
    go_upto_region 5 with fail
    skip
    -- the zero reply and the error 4 are told: world WX, HPS : Hid (PS w RP.zero WX) (x is as it was), HBADQ
    go_wp2_with (first
      | refine wpList_load_row rfl 27 _ rfl (w.heap.size + 1) rfl 27 zR (0, 0) _ HPS.out.r4 Tryd.underlying27 rfl (infoR _ rfl) ?_
      | refine Rdr.wpList_build rfl 27 _ rfl [] rfl _ built_r0 ?_
      | refine wpList_store_row rfl 27 _ _ rfl w.heap.size zR rfl rfl 27 zR HPS.out.r2 (infoR _ rfl) rfl (rpA_one _) ?_)
    have HS := Lib.hid (setRow_heap _ _ _ zR _ _ HPS.out.r2)
    refine bodyPost_ret (results_row_tmp rfl _ _ _ _ _ _ _ rfl HS.out Tryd.underlying27 rfl (infoR _ rfl)) rfl ?_
    unfold ParP
    rw [HPAR.out, HBADQ.out]
    exact ⟨rfl, below_setRow HPS.out.low (Nat.le_refl _) _⟩
  | true =>
    by_cases h2 : n < 2
    · have d1 : decide ((n : Int) < 2) = true := decide_eq_true (by omega)
      have d2 : decide (n < 2) = true := decide_eq_true h2
      have HBADQ : Hid (parseW ws = (RP.zero, 4)) := HNF.out (fun h => by have := h.two; rw [HN.out] at this; omega)
      have HPS := HPS4
      go_upto_region 5 with fail
      skip
      -- the zero reply and the error 4 are told: world WX, HPS : Hid (PS w RP.zero WX) (x is as it was), HBADQ
      go_wp2_with (first
        | refine wpList_load_row rfl 27 _ rfl (w.heap.size + 1) rfl 27 zR (0, 0) _ HPS.out.r4 Tryd.underlying27 rfl (infoR _ rfl) ?_
        | refine Rdr.wpList_build rfl 27 _ rfl [] rfl _ built_r0 ?_
        | refine wpList_store_row rfl 27 _ _ rfl w.heap.size zR rfl rfl 27 zR HPS.out.r2 (infoR _ rfl) rfl (rpA_one _) ?_)
      have HS := Lib.hid (setRow_heap _ _ _ zR _ _ HPS.out.r2)
      refine bodyPost_ret (results_row_tmp rfl _ _ _ _ _ _ _ rfl HS.out Tryd.underlying27 rfl (infoR _ rfl)) rfl ?_
      unfold ParP
      rw [HPAR.out, HBADQ.out]
      exact ⟨rfl, below_setRow HPS.out.low (Nat.le_refl _) _⟩
    have d1 : decide ((n : Int) < 2) = false := decide_eq_false (by omega)
    have d2 : decide (n < 2) = false := decide_eq_false h2
    have h1l : 1 < ws.length := by rw [HN.out]; omega
    have HA1 : Hid (ws.getD 1 [] = ws[1]'h1l) := by show _ = _; rw [List.getD_eq_getElem?_getD, List.getElem?_eq_getElem h1l]; rfl
    have hc1 : w4.cell? ⟨gw, 1, none⟩ = some (.string (S (ws[1]'h1l))) := by have := Ws.str HW4.out h1l; rwa [Nat.zero_add] at this
    generalize ws[1]'h1l = a1 at *
    have HK := Lib.hid (errOf_any a1 w4)
    generalize hO : ofB a1 E21 = O at *
    obtain ⟨ee, eok⟩ := O
    have HEO := Lib.hid hO
    have h1n : 1 < n := by omega
    go_upto_region 6 with fail
    go_wp2_with fail
    refine HK.out.mono ?_
    rintro e w5 ⟨rfl, hb5⟩
    have HPS5 := Lib.hid (HPS4.out.next hb5)
    have HW5 := Lib.hid (HW4.out.below hb5)
    clear hb5 HK HPS4 HW4 hc1 hO d1 d2
    cases eok with
    | false =>
      have HBADQ : Hid (parseW ws = (RP.zero, 4)) := HNF.out (fun h => by have := h.e; rw [HA1.out, HEO.out] at this; cases this)
      have HPS := HPS5
      go_upto_region 11 with fail
      skip
      -- the zero reply and the error 4 are told: world WX, HPS : Hid (PS w RP.zero WX) (x is as it was), HBADQ
      go_wp2_with (first
        | refine wpList_load_row rfl 27 _ rfl (w.heap.size + 1) rfl 27 zR (0, 0) _ HPS.out.r4 Tryd.underlying27 rfl (infoR _ rfl) ?_
        | refine Rdr.wpList_build rfl 27 _ rfl [] rfl _ built_r0 ?_
        | refine wpList_store_row rfl 27 _ _ rfl w.heap.size zR rfl rfl 27 zR HPS.out.r2 (infoR _ rfl) rfl (rpA_one _) ?_)
      have HS := Lib.hid (setRow_heap _ _ _ zR _ _ HPS.out.r2)
      refine bodyPost_ret (results_row_tmp rfl _ _ _ _ _ _ _ rfl HS.out Tryd.underlying27 rfl (infoR _ rfl)) rfl ?_
      unfold ParP
      rw [HPAR.out, HBADQ.out]
      exact ⟨rfl, below_setRow HPS.out.low (Nat.le_refl _) _⟩
    | true =>
      obtain ⟨wn, hwn⟩ : ∃ wn : Nat, (if ee = 0 then 7 else 2) = wn := ⟨_, rfl⟩
      have HWN : Hid (n = wn → Fits ws) := fun h => ⟨by rw [HA.out, HKO.out], by rw [HN.out]; omega, by rw [HA1.out, HEO.out], by rw [HN.out, HA1.out, HEO.out, hwn]; exact h⟩
      have HNF2 : Hid (¬ n = wn → parseW ws = (RP.zero, 4)) := fun h => HNF.out (fun hf => by have := hf.len; rw [HN.out, HA1.out, HEO.out, hwn] at this; exact h this)
      have HPF : Hid (n = wn → parseW ws = finR (kk : Int) (ee : Int) (numsB (ws.drop 2))) := fun h => by
        rw [parse_fits (HWN.out h), HA.out, HKO.out, HA1.out, HEO.out]
      have HEL : Hid (ee < 21) := by have := ofB_lt (s := a1) (ls := E21) (by rw [HEO.out]); rw [HEO.out] at this; exact this
      have HW27 : Hid (wn = 2 ∨ wn = 7) := by show _ ∨ _; rw [← hwn]; split; exact .inr rfl; exact .inl rfl
      clear HNF HA HA1 HKO
      by_cases he0 : ee = 0
      · have e1 : ((ee : Int) == 0) = true := by rw [he0]; rfl
        rw [if_pos he0] at hwn
        subst hwn
        clear he0
        go_upto_region 10 with fail
        skip
        -- from region 10 on: world w5, HPS5, HW5; want = 7
        by_cases hnw : n = 7
        rotate_left
        · have q1 : ((n : Int) != 7) = true := by rw [bne_iff_ne]; omega
          have q2 : (n != 7) = true := bne_iff_ne.2 hnw
          have HBADQ : Hid (parseW ws = (RP.zero, 4)) := HNF2.out hnw
          have HPS := HPS5
          clear hnw e1
          go_upto_region 11 with fail
          skip
          -- the zero reply and the error 4 are told: world WX, HPS : Hid (PS w RP.zero WX) (x is as it was), HBADQ
          go_wp2_with (first
            | refine wpList_load_row rfl 27 _ rfl (w.heap.size + 1) rfl 27 zR (0, 0) _ HPS.out.r4 Tryd.underlying27 rfl (infoR _ rfl) ?_
            | refine Rdr.wpList_build rfl 27 _ rfl [] rfl _ built_r0 ?_
            | refine wpList_store_row rfl 27 _ _ rfl w.heap.size zR rfl rfl 27 zR HPS.out.r2 (infoR _ rfl) rfl (rpA_one _) ?_)
          have HS := Lib.hid (setRow_heap _ _ _ zR _ _ HPS.out.r2)
          refine bodyPost_ret (results_row_tmp rfl _ _ _ _ _ _ _ rfl HS.out Tryd.underlying27 rfl (infoR _ rfl)) rfl ?_
          unfold ParP
          rw [HPAR.out, HBADQ.out]
          exact ⟨rfl, below_setRow HPS.out.low (Nat.le_refl _) _⟩
        have q1 : ((n : Int) != 7) = false := by rw [bne_eq_false_iff_eq]; omega
        have q2 : (n != 7) = false := by rw [bne_eq_false_iff_eq]; exact hnw
        have HPW := Lib.hid (HPF.out hnw)
        have HNE : Hid (n = 7) := hnw
        clear hnw e1 HNF2 HPF HWN
        obtain ⟨c0, c1, _⟩ := rp_cells HPS5.out.r4
        have hfz : ∀ j, w5.frozen? ⟨w.heap.size + 1, j, none⟩ = false := fun j => frozen_of_row _ _ j _ _ HPS5.out.r4
        go_upto_region 13 with fail
        clear c0 c1 hfz q1 q2
        have hT1 : Turns (fun k => k = w.heap.size + 1) w5 ((w5.setCell ⟨w.heap.size + 1, 0, none⟩ (.int .i64 (kk : Int))).setCell ⟨w.heap.size + 1, 1, none⟩ (.int .i64 (ee : Int))) := ((Turns.refl (fun k => k = w.heap.size + 1) w5).setCell (p := ⟨w.heap.size + 1, 0, none⟩) (fun _ => rfl) _).setCell (p := ⟨w.heap.size + 1, 1, none⟩) (fun _ => rfl) _
        have hr4 : ((w5.setCell ⟨w.heap.size + 1, 0, none⟩ (.int .i64 (kk : Int))).setCell ⟨w.heap.size + 1, 1, none⟩ (.int .i64 (ee : Int))).heap[w.heap.size + 1]? = some (.cells (rpA (mkR (kk : Int) (ee : Int) [])) 27 (0, 0)) := by
          rw [heap_setCell_same _ _ _ _ _ _ (heap_setCell_same _ _ _ _ _ _ HPS5.out.r4)]
          rfl
        have HPS6 : Hid (PS w (mkR (kk : Int) (ee : Int) []) ((w5.setCell ⟨w.heap.size + 1, 0, none⟩ (.int .i64 (kk : Int))).setCell ⟨w.heap.size + 1, 1, none⟩ (.int .i64 (ee : Int)))) := ⟨hT1.keep HPS5.out.r2 (by omega), hr4, HPS5.out.low.trans (hT1.below HPS5.out.low.size (fun k hk => by have hk : k = w.heap.size + 1 := hk; omega))⟩
        have HW6 : Hid (Ws ((w5.setCell ⟨w.heap.size + 1, 0, none⟩ (.int .i64 (kk : Int))).setCell ⟨w.heap.size + 1, 1, none⟩ (.int .i64 (ee : Int))) (some ⟨gw, 0, none⟩) n n ws) := Sl.touch HW5.out hT1 (fun a ha _ hk => by
          obtain rfl := Option.some.inj ha
          have hk : gw = w.heap.size + 1 := hk
          have := HGW.out
          omega)
        clear hT1 hr4 HPS5 HW5
        generalize (w5.setCell ⟨w.heap.size + 1, 0, none⟩ (.int .i64 (kk : Int))).setCell ⟨w.heap.size + 1, 1, none⟩ (.int .i64 (ee : Int)) = w6 at *
        have hz5 := zeroP
        go_wp2_with fail
        refine (numbers_any (w.heap.size + 1) w6).mono ?_
        rintro e w7 ⟨rfl, hb7⟩
        have hps7 := HPS6.out.next hb7
        have hw7 := HW6.out.below hb7
        clear HPS6 HW6 hb7
        go_upto_region 14 with (refine wpList_store_row rfl 51 _ _ rfl w7.heap.size (ptrs (w.heap.size + 1)) rfl rfl 51 zP (heap_alloc_last _ _) (infoP _ rfl) rfl (ptrs_one _) ?_)
        try simp only [Act.put]
        have hb8 : Below w7.heap.size w7 ((w7.alloc (.cells zP 51)).setRow w7.heap.size (ptrs (w.heap.size + 1))) := below_setRow (Below.allocs w7 _) (Nat.le_refl _) _
        have HRP := Lib.hid (setRow_heap _ _ _ (ptrs (w.heap.size + 1)) _ _ (heap_alloc_last w7 (.cells zP 51)))
        have HPS8 := Lib.hid (hps7.next hb8)
        have HW8 := Lib.hid (hw7.below hb8)
        have HG10 : Hid (w.heap.size + 2 ≤ w7.heap.size) := by
          have h1 : w.heap.size + 1 < w7.heap.size := (Array.getElem?_eq_some_iff.1 hps7.r4).1
          exact h1
        clear hps7 hw7 hb8 hz5
        generalize (w7.alloc (.cells zP 51)).setRow w7.heap.size (ptrs (w.heap.size + 1)) = w8 at *
        generalize w7.heap.size = g10 at *
        have hcut := cutSR HW8.out 2 2 rfl (by omega)
        have HD8 := Lib.hid (ws_drop HW8.out 2 (by omega))
        have hdl : (ws.drop 2).length = n - 2 := by rw [List.length_drop, HN.out]
        have HDL := Lib.hid hdl
        have HDM : Hid (∀ x ∈ ws.drop 2, x.length ≤ 1099511627776) := fun x hx => HWL.out x (List.mem_of_mem_drop hx)
        have hn2 : n - 2 ≤ 5 := by have := HNE.out; omega
        have hn22 : 2 ≤ n := by omega
        obtain ⟨m, hm⟩ : ∃ m, n - 2 = m := ⟨_, rfl⟩
        rw [hm] at hcut HD8 hn2 HDL
        have HM := Lib.hid hm
        clear hdl hm HW8
        have HGB : Hid (∀ b o, cutS (some ⟨gw, 0, none⟩) n 2 = some ⟨b, o, none⟩ → w.heap.size + 2 ≤ b) := fun b o h => by
          have h1 := HGW.out
          unfold cutS at h
          split at h
          · cases h; exact h1
          · rw [Option.map_some, add_none] at h
            cases h; exact h1
        generalize cutS (some ⟨gw, 0, none⟩) n 2 = pd at *
        have hmax8 := HD8.out.max
        have hle8 := HD8.out.le
        go_wp2_with fail
        clear hcut
        go_loopw [63] (fun j wr => ∃ i : Nat, i ≤ m ∧ j = .int .i64 i ∧ PS w (mkR (kk : Int) (ee : Int) (fst ws i)) wr ∧ Ws wr pd m (n - 2) (ws.drop 2) ∧ wr.heap[g10]? = some (.cells (ptrs (w.heap.size + 1)) 51 (0, 0)) ∧ (∀ q x, q < i → (ws.drop 2)[q]? = some x → (numOf x 4294967295).2 = 0)) (fun j _ => m - (intOf j).toNat)
        case atStart => exact ⟨0, by omega, rfl, HPS8.out, by (have := HD8.out; rwa [HM.out] at *), HRP.out, fun q x hq _ => absurd hq (Nat.not_lt_zero _)⟩
        case round =>
          clear HPS8 HD8 HRP
          obtain ⟨i, hi, rfl, hps, hwd, hrp, hok⟩ := hrel
          have HPX := Lib.hid hps
          have HWD := Lib.hid hwd
          have HRP := Lib.hid hrp
          have HOK := Lib.hid hok
          clear hps hwd hrp hok
          by_cases hlt : i < m
          · have hdi : decide ((i : Int) < (m : Int)) = true := decide_eq_true (by omega)
            have hdi2 : decide (i < m) = true := decide_eq_true hlt
            have hil : i < (ws.drop 2).length := by rw [HDL.out]; exact hlt
            obtain ⟨b, o, hbo⟩ := HWD.out.addr (by omega) (by omega)
            subst hbo
            have hcx := Ws.str HWD.out hil
            have HGE : Hid ((ws.drop 2)[i]? = some ((ws.drop 2)[i]'hil)) := List.getElem?_eq_getElem hil
            have HMEM : Hid ((ws.drop 2)[i]'hil ∈ ws.drop 2) := List.getElem_mem hil
            have HFS := Lib.hid (fst_succ ws i hil)
            have HFL := Lib.hid (fst_len ws i (by omega))
            generalize (ws.drop 2)[i]'hil = x at *
            have hnum := numOf_any x 4294967295 wr (HDM.out x HMEM.out) (by omega)
            unfold NumP at hnum
            have HLT : Hid ((numOf x 4294967295).2 = 0 → (numOf x 4294967295).1 < 4294967296) := fun h => by have := (numOf_back h).2; omega
            generalize hNO : numOf x 4294967295 = NO at *
            obtain ⟨v, er⟩ := NO
            have HNO := Lib.hid hNO
            have HNUM := Lib.hid hnum
            clear hnum hNO hil
            go_wp2_with fail
            refine HNUM.out.mono ?_
            rintro e w9 ⟨rfl, hb9⟩
            have HP9 := Lib.hid (HPX.out.next hb9)
            have HW9 := Lib.hid (HWD.out.below hb9)
            have HR9 := Lib.hid (Below.keepOld hb9 HRP.out)
            clear hb9 HNUM HPX HWD HRP hcx
            by_cases her : er = 0
            · have q1 : (er != 0) = false := by rw [bne_eq_false_iff_eq]; exact her
              have hv := HLT.out her
              have hv : v < 4294967296 := hv
              have hwrap : IntKind.u32.wrap (v : Int) = (v : Int) := by rw [IntKind.wrap_u32]; omega
              have hi5 : i < 5 := by omega
              have hcp : w9.cell? ⟨g10, i, none⟩ = some (.pointer (some ⟨w.heap.size + 1, 2 + i, none⟩)) := by rw [cell_of_row _ _ _ _ _ _ HR9.out]; exact ptrs_get _ i hi5
              have hco : w9.cell? ⟨w.heap.size + 1, 2 + i, none⟩ = some (.int .u32 (((mkR (kk : Int) (ee : Int) (fst ws i)).nums.getD i 0 : Nat) : Int)) := by rw [cell_of_row _ _ _ _ _ _ HP9.out.r4]; exact rp_num _ i hi5
              have hfz : ∀ j, w9.frozen? ⟨w.heap.size + 1, j, none⟩ = false := fun j => frozen_of_row _ _ j _ _ HP9.out.r4
              generalize (mkR (kk : Int) (ee : Int) (fst ws i)).nums.getD i 0 = old at *
              have hT1 : Turns (fun k => k = w.heap.size + 1) w9 (w9.setCell ⟨w.heap.size + 1, 2 + i, none⟩ (.int .u32 (v : Int))) := (Turns.refl (fun k => k = w.heap.size + 1) w9).setCell (p := ⟨w.heap.size + 1, 2 + i, none⟩) (fun _ => rfl) _
              have hr4 : (w9.setCell ⟨w.heap.size + 1, 2 + i, none⟩ (.int .u32 (v : Int))).heap[w.heap.size + 1]? = some (.cells (rpA (mkR (kk : Int) (ee : Int) (fst ws (i + 1)))) 27 (0, 0)) := by
                rw [heap_setCell_same _ _ _ _ _ _ HP9.out.r4, HFS.out]
                have := rp_push (kk : Int) (ee : Int) (fst ws i) (by rw [HFL.out]; exact hi5) v
                rw [HFL.out] at this
                rw [this]
              have HP10 : Hid (PS w (mkR (kk : Int) (ee : Int) (fst ws (i + 1))) (w9.setCell ⟨w.heap.size + 1, 2 + i, none⟩ (.int .u32 (v : Int)))) := ⟨hT1.keep HP9.out.r2 (by omega), hr4, HP9.out.low.trans (hT1.below HP9.out.low.size (fun k hk => by have hk : k = w.heap.size + 1 := hk; omega))⟩
              have HW10 : Hid (Ws (w9.setCell ⟨w.heap.size + 1, 2 + i, none⟩ (.int .u32 (v : Int))) (some ⟨b, o, none⟩) m (n - 2) (ws.drop 2)) := Sl.touch HW9.out hT1 (fun a ha _ hk => by
                obtain rfl := Option.some.inj ha
                have hk : b = w.heap.size + 1 := hk
                have := HGB.out b o rfl
                omega)
              have HR10 := Lib.hid (hT1.keep HR9.out (by have := HG10.out; omega))
              have HOK2 : Hid (∀ q y, q < i + 1 → (ws.drop 2)[q]? = some y → (numOf y 4294967295).2 = 0) := fun q y hq hy => by
                by_cases hqi : q = i
                · subst hqi
                  rw [HGE.out] at hy
                  obtain rfl := Option.some.inj hy
                  rw [HNO.out]; exact her
                · exact HOK.out q y (by omega) hy
              clear hv hT1 hr4 HP9 HW9 HR9 her HLT
              go_wp2_with fail
              go_roundw
              case rel => exact ⟨i + 1, by omega, by go_num, HP10.out, HW10.out, HR10.out, HOK2.out⟩
              case measure => simp [intOf]; omega
            · have q1 : (er != 0) = true := bne_iff_ne.2 her
              have HBADQ : Hid (parseW ws = (RP.zero, 4)) := by
                show _ = _
                rw [HPW.out]
                have hnone : numsB (ws.drop 2) = none := if_neg (fun h => her (by have := h x HMEM.out; rw [HNO.out] at this; exact this))
                rw [hnone]; rfl
              have HPS := HP9
              clear her HLT HW9 HR9
              go_upto_region 19 with fail
              skip
              -- the zero reply and the error 4 are told: world WX, HPS : Hid (PS w RP.zero WX) (x is as it was), HBADQ
              go_wp2_with (first
                | refine wpList_load_row rfl 27 _ rfl (w.heap.size + 1) rfl 27 zR (0, 0) _ HPS.out.r4 Tryd.underlying27 rfl (infoR _ rfl) ?_
                | refine Rdr.wpList_build rfl 27 _ rfl [] rfl _ built_r0 ?_
                | refine wpList_store_row rfl 27 _ _ rfl w.heap.size zR rfl rfl 27 zR HPS.out.r2 (infoR _ rfl) rfl (rpA_one _) ?_)
              have HS := Lib.hid (setRow_heap _ _ _ zR _ _ HPS.out.r2)
              refine bodyPost_ret (results_row_tmp rfl _ _ _ _ _ _ _ rfl HS.out Tryd.underlying27 rfl (infoR _ rfl)) rfl ?_
              unfold ParP
              rw [HPAR.out, HBADQ.out]
              exact ⟨rfl, below_setRow HPS.out.low (Nat.le_refl _) _⟩
          · obtain rfl : i = m := by omega
            have hdi : decide ((i : Int) < (i : Int)) = false := decide_eq_false (by omega)
            have hdi2 : decide (i < i) = false := decide_eq_false hlt
            have HEND : Hid (parseW ws = (mkR (kk : Int) (ee : Int) (fst ws i), 0)) := by
              show _ = _
              have htk : (ws.drop 2).take i = ws.drop 2 := List.take_of_length_le (by rw [HDL.out]; exact Nat.le_refl _)
              have hsome : numsB (ws.drop 2) = some (fst ws i) := by
                unfold numsB fst
                rw [if_pos (fun x hx => by
                  obtain ⟨q, hq, hqx⟩ := List.mem_iff_getElem.1 hx
                  exact HOK.out q x (by rw [HDL.out] at hq; exact hq) (by rw [← hqx]; exact List.getElem?_eq_getElem hq)), htk]
              rw [HPW.out, hsome]; rfl
            generalize mkR (kk : Int) (ee : Int) (fst ws i) = R at *
            go_upto_region 22 with fail
            go_wp2_with (first
              | refine wpList_load_row rfl 27 _ rfl (w.heap.size + 1) rfl 27 (rpA R) (0, 0) _ HPX.out.r4 Tryd.underlying27 rfl (infoR _ rfl) ?_
              | refine wpList_store_row rfl 27 _ _ rfl w.heap.size (rpA R) rfl rfl 27 zR HPX.out.r2 (infoR _ rfl) rfl (rpA_one _) ?_)
            have HS := Lib.hid (setRow_heap _ _ _ (rpA R) _ _ HPX.out.r2)
            refine bodyPost_ret (results_row_tmp rfl _ _ _ _ _ _ _ rfl HS.out Tryd.underlying27 rfl (infoR _ rfl)) rfl ?_
            unfold ParP
            rw [HPAR.out, HEND.out]
            exact ⟨rfl, below_setRow HPX.out.low (Nat.le_refl _) _⟩
      · have e1 : ((ee : Int) == 0) = false := by rw [beq_eq_false_iff_ne]; omega
        rw [if_neg he0] at hwn
        subst hwn
        clear he0
        go_upto_region 10 with fail
        skip
        -- from region 10 on: world w5, HPS5, HW5; want = 2
        by_cases hnw : n = 2
        rotate_left
        · have q1 : ((n : Int) != 2) = true := by rw [bne_iff_ne]; omega
          have q2 : (n != 2) = true := bne_iff_ne.2 hnw
          have HBADQ : Hid (parseW ws = (RP.zero, 4)) := HNF2.out hnw
          have HPS := HPS5
          clear hnw e1
          go_upto_region 11 with fail
          skip
          -- the zero reply and the error 4 are told: world WX, HPS : Hid (PS w RP.zero WX) (x is as it was), HBADQ
          go_wp2_with (first
            | refine wpList_load_row rfl 27 _ rfl (w.heap.size + 1) rfl 27 zR (0, 0) _ HPS.out.r4 Tryd.underlying27 rfl (infoR _ rfl) ?_
            | refine Rdr.wpList_build rfl 27 _ rfl [] rfl _ built_r0 ?_
            | refine wpList_store_row rfl 27 _ _ rfl w.heap.size zR rfl rfl 27 zR HPS.out.r2 (infoR _ rfl) rfl (rpA_one _) ?_)
          have HS := Lib.hid (setRow_heap _ _ _ zR _ _ HPS.out.r2)
          refine bodyPost_ret (results_row_tmp rfl _ _ _ _ _ _ _ rfl HS.out Tryd.underlying27 rfl (infoR _ rfl)) rfl ?_
          unfold ParP
          rw [HPAR.out, HBADQ.out]
          exact ⟨rfl, below_setRow HPS.out.low (Nat.le_refl _) _⟩
        have q1 : ((n : Int) != 2) = false := by rw [bne_eq_false_iff_eq]; omega
        have q2 : (n != 2) = false := by rw [bne_eq_false_iff_eq]; exact hnw
        have HPW := Lib.hid (HPF.out hnw)
        have HNE : Hid (n = 2) := hnw
        clear hnw e1 HNF2 HPF HWN
        obtain ⟨c0, c1, _⟩ := rp_cells HPS5.out.r4
        have hfz : ∀ j, w5.frozen? ⟨w.heap.size + 1, j, none⟩ = false := fun j => frozen_of_row _ _ j _ _ HPS5.out.r4
        go_upto_region 13 with fail
        clear c0 c1 hfz q1 q2
        have hT1 : Turns (fun k => k = w.heap.size + 1) w5 ((w5.setCell ⟨w.heap.size + 1, 0, none⟩ (.int .i64 (kk : Int))).setCell ⟨w.heap.size + 1, 1, none⟩ (.int .i64 (ee : Int))) := ((Turns.refl (fun k => k = w.heap.size + 1) w5).setCell (p := ⟨w.heap.size + 1, 0, none⟩) (fun _ => rfl) _).setCell (p := ⟨w.heap.size + 1, 1, none⟩) (fun _ => rfl) _
        have hr4 : ((w5.setCell ⟨w.heap.size + 1, 0, none⟩ (.int .i64 (kk : Int))).setCell ⟨w.heap.size + 1, 1, none⟩ (.int .i64 (ee : Int))).heap[w.heap.size + 1]? = some (.cells (rpA (mkR (kk : Int) (ee : Int) [])) 27 (0, 0)) := by
          rw [heap_setCell_same _ _ _ _ _ _ (heap_setCell_same _ _ _ _ _ _ HPS5.out.r4)]
          rfl
        have HPS6 : Hid (PS w (mkR (kk : Int) (ee : Int) []) ((w5.setCell ⟨w.heap.size + 1, 0, none⟩ (.int .i64 (kk : Int))).setCell ⟨w.heap.size + 1, 1, none⟩ (.int .i64 (ee : Int)))) := ⟨hT1.keep HPS5.out.r2 (by omega), hr4, HPS5.out.low.trans (hT1.below HPS5.out.low.size (fun k hk => by have hk : k = w.heap.size + 1 := hk; omega))⟩
        have HW6 : Hid (Ws ((w5.setCell ⟨w.heap.size + 1, 0, none⟩ (.int .i64 (kk : Int))).setCell ⟨w.heap.size + 1, 1, none⟩ (.int .i64 (ee : Int))) (some ⟨gw, 0, none⟩) n n ws) := Sl.touch HW5.out hT1 (fun a ha _ hk => by
          obtain rfl := Option.some.inj ha
          have hk : gw = w.heap.size + 1 := hk
          have := HGW.out
          omega)
        clear hT1 hr4 HPS5 HW5
        generalize (w5.setCell ⟨w.heap.size + 1, 0, none⟩ (.int .i64 (kk : Int))).setCell ⟨w.heap.size + 1, 1, none⟩ (.int .i64 (ee : Int)) = w6 at *
        have hz5 := zeroP
        go_wp2_with fail
        refine (numbers_any (w.heap.size + 1) w6).mono ?_
        rintro e w7 ⟨rfl, hb7⟩
        have hps7 := HPS6.out.next hb7
        have hw7 := HW6.out.below hb7
        clear HPS6 HW6 hb7
        go_upto_region 14 with (refine wpList_store_row rfl 51 _ _ rfl w7.heap.size (ptrs (w.heap.size + 1)) rfl rfl 51 zP (heap_alloc_last _ _) (infoP _ rfl) rfl (ptrs_one _) ?_)
        try simp only [Act.put]
        have hb8 : Below w7.heap.size w7 ((w7.alloc (.cells zP 51)).setRow w7.heap.size (ptrs (w.heap.size + 1))) := below_setRow (Below.allocs w7 _) (Nat.le_refl _) _
        have HRP := Lib.hid (setRow_heap _ _ _ (ptrs (w.heap.size + 1)) _ _ (heap_alloc_last w7 (.cells zP 51)))
        have HPS8 := Lib.hid (hps7.next hb8)
        have HW8 := Lib.hid (hw7.below hb8)
        have HG10 : Hid (w.heap.size + 2 ≤ w7.heap.size) := by
          have h1 : w.heap.size + 1 < w7.heap.size := (Array.getElem?_eq_some_iff.1 hps7.r4).1
          exact h1
        clear hps7 hw7 hb8 hz5
        generalize (w7.alloc (.cells zP 51)).setRow w7.heap.size (ptrs (w.heap.size + 1)) = w8 at *
        generalize w7.heap.size = g10 at *
        have hcut := cutSR HW8.out 2 2 rfl (by omega)
        have HD8 := Lib.hid (ws_drop HW8.out 2 (by omega))
        have hdl : (ws.drop 2).length = n - 2 := by rw [List.length_drop, HN.out]
        have HDL := Lib.hid hdl
        have HDM : Hid (∀ x ∈ ws.drop 2, x.length ≤ 1099511627776) := fun x hx => HWL.out x (List.mem_of_mem_drop hx)
        have hn2 : n - 2 ≤ 5 := by have := HNE.out; omega
        have hn22 : 2 ≤ n := by omega
        obtain ⟨m, hm⟩ : ∃ m, n - 2 = m := ⟨_, rfl⟩
        rw [hm] at hcut HD8 hn2 HDL
        have HM := Lib.hid hm
        clear hdl hm HW8
        have HGB : Hid (∀ b o, cutS (some ⟨gw, 0, none⟩) n 2 = some ⟨b, o, none⟩ → w.heap.size + 2 ≤ b) := fun b o h => by
          have h1 := HGW.out
          unfold cutS at h
          split at h
          · cases h; exact h1
          · rw [Option.map_some, add_none] at h
            cases h; exact h1
        generalize cutS (some ⟨gw, 0, none⟩) n 2 = pd at *
        have hmax8 := HD8.out.max
        have hle8 := HD8.out.le
        go_wp2_with fail
        clear hcut
        go_loopw [63] (fun j wr => ∃ i : Nat, i ≤ m ∧ j = .int .i64 i ∧ PS w (mkR (kk : Int) (ee : Int) (fst ws i)) wr ∧ Ws wr pd m (n - 2) (ws.drop 2) ∧ wr.heap[g10]? = some (.cells (ptrs (w.heap.size + 1)) 51 (0, 0)) ∧ (∀ q x, q < i → (ws.drop 2)[q]? = some x → (numOf x 4294967295).2 = 0)) (fun j _ => m - (intOf j).toNat)
        case atStart => exact ⟨0, by omega, rfl, HPS8.out, by (have := HD8.out; rwa [HM.out] at *), HRP.out, fun q x hq _ => absurd hq (Nat.not_lt_zero _)⟩
        case round =>
          clear HPS8 HD8 HRP
          obtain ⟨i, hi, rfl, hps, hwd, hrp, hok⟩ := hrel
          have HPX := Lib.hid hps
          have HWD := Lib.hid hwd
          have HRP := Lib.hid hrp
          have HOK := Lib.hid hok
          clear hps hwd hrp hok
          by_cases hlt : i < m
          · have hdi : decide ((i : Int) < (m : Int)) = true := decide_eq_true (by omega)
            have hdi2 : decide (i < m) = true := decide_eq_true hlt
            have hil : i < (ws.drop 2).length := by rw [HDL.out]; exact hlt
            obtain ⟨b, o, hbo⟩ := HWD.out.addr (by omega) (by omega)
            subst hbo
            have hcx := Ws.str HWD.out hil
            have HGE : Hid ((ws.drop 2)[i]? = some ((ws.drop 2)[i]'hil)) := List.getElem?_eq_getElem hil
            have HMEM : Hid ((ws.drop 2)[i]'hil ∈ ws.drop 2) := List.getElem_mem hil
            have HFS := Lib.hid (fst_succ ws i hil)
            have HFL := Lib.hid (fst_len ws i (by omega))
            generalize (ws.drop 2)[i]'hil = x at *
            have hnum := numOf_any x 4294967295 wr (HDM.out x HMEM.out) (by omega)
            unfold NumP at hnum
            have HLT : Hid ((numOf x 4294967295).2 = 0 → (numOf x 4294967295).1 < 4294967296) := fun h => by have := (numOf_back h).2; omega
            generalize hNO : numOf x 4294967295 = NO at *
            obtain ⟨v, er⟩ := NO
            have HNO := Lib.hid hNO
            have HNUM := Lib.hid hnum
            clear hnum hNO hil
            go_wp2_with fail
            refine HNUM.out.mono ?_
            rintro e w9 ⟨rfl, hb9⟩
            have HP9 := Lib.hid (HPX.out.next hb9)
            have HW9 := Lib.hid (HWD.out.below hb9)
            have HR9 := Lib.hid (Below.keepOld hb9 HRP.out)
            clear hb9 HNUM HPX HWD HRP hcx
            by_cases her : er = 0
            · have q1 : (er != 0) = false := by rw [bne_eq_false_iff_eq]; exact her
              have hv := HLT.out her
              have hv : v < 4294967296 := hv
              have hwrap : IntKind.u32.wrap (v : Int) = (v : Int) := by rw [IntKind.wrap_u32]; omega
              have hi5 : i < 5 := by omega
              have hcp : w9.cell? ⟨g10, i, none⟩ = some (.pointer (some ⟨w.heap.size + 1, 2 + i, none⟩)) := by rw [cell_of_row _ _ _ _ _ _ HR9.out]; exact ptrs_get _ i hi5
              have hco : w9.cell? ⟨w.heap.size + 1, 2 + i, none⟩ = some (.int .u32 (((mkR (kk : Int) (ee : Int) (fst ws i)).nums.getD i 0 : Nat) : Int)) := by rw [cell_of_row _ _ _ _ _ _ HP9.out.r4]; exact rp_num _ i hi5
              have hfz : ∀ j, w9.frozen? ⟨w.heap.size + 1, j, none⟩ = false := fun j => frozen_of_row _ _ j _ _ HP9.out.r4
              generalize (mkR (kk : Int) (ee : Int) (fst ws i)).nums.getD i 0 = old at *
              have hT1 : Turns (fun k => k = w.heap.size + 1) w9 (w9.setCell ⟨w.heap.size + 1, 2 + i, none⟩ (.int .u32 (v : Int))) := (Turns.refl (fun k => k = w.heap.size + 1) w9).setCell (p := ⟨w.heap.size + 1, 2 + i, none⟩) (fun _ => rfl) _
              have hr4 : (w9.setCell ⟨w.heap.size + 1, 2 + i, none⟩ (.int .u32 (v : Int))).heap[w.heap.size + 1]? = some (.cells (rpA (mkR (kk : Int) (ee : Int) (fst ws (i + 1)))) 27 (0, 0)) := by
                rw [heap_setCell_same _ _ _ _ _ _ HP9.out.r4, HFS.out]
                have := rp_push (kk : Int) (ee : Int) (fst ws i) (by rw [HFL.out]; exact hi5) v
                rw [HFL.out] at this
                rw [this]
              have HP10 : Hid (PS w (mkR (kk : Int) (ee : Int) (fst ws (i + 1))) (w9.setCell ⟨w.heap.size + 1, 2 + i, none⟩ (.int .u32 (v : Int)))) := ⟨hT1.keep HP9.out.r2 (by omega), hr4, HP9.out.low.trans (hT1.below HP9.out.low.size (fun k hk => by have hk : k = w.heap.size + 1 := hk; omega))⟩
              have HW10 : Hid (Ws (w9.setCell ⟨w.heap.size + 1, 2 + i, none⟩ (.int .u32 (v : Int))) (some ⟨b, o, none⟩) m (n - 2) (ws.drop 2)) := Sl.touch HW9.out hT1 (fun a ha _ hk => by
                obtain rfl := Option.some.inj ha
                have hk : b = w.heap.size + 1 := hk
                have := HGB.out b o rfl
                omega)
              have HR10 := Lib.hid (hT1.keep HR9.out (by have := HG10.out; omega))
              have HOK2 : Hid (∀ q y, q < i + 1 → (ws.drop 2)[q]? = some y → (numOf y 4294967295).2 = 0) := fun q y hq hy => by
                by_cases hqi : q = i
                · subst hqi
                  rw [HGE.out] at hy
                  obtain rfl := Option.some.inj hy
                  rw [HNO.out]; exact her
                · exact HOK.out q y (by omega) hy
              clear hv hT1 hr4 HP9 HW9 HR9 her HLT
              go_wp2_with fail
              go_roundw
              case rel => exact ⟨i + 1, by omega, by go_num, HP10.out, HW10.out, HR10.out, HOK2.out⟩
              case measure => simp [intOf]; omega
            · have q1 : (er != 0) = true := bne_iff_ne.2 her
              have HBADQ : Hid (parseW ws = (RP.zero, 4)) := by
                show _ = _
                rw [HPW.out]
                have hnone : numsB (ws.drop 2) = none := if_neg (fun h => her (by have := h x HMEM.out; rw [HNO.out] at this; exact this))
                rw [hnone]; rfl
              have HPS := HP9
              clear her HLT HW9 HR9
              go_upto_region 19 with fail
              skip
              -- the zero reply and the error 4 are told: world WX, HPS : Hid (PS w RP.zero WX) (x is as it was), HBADQ
              go_wp2_with (first
                | refine wpList_load_row rfl 27 _ rfl (w.heap.size + 1) rfl 27 zR (0, 0) _ HPS.out.r4 Tryd.underlying27 rfl (infoR _ rfl) ?_
                | refine Rdr.wpList_build rfl 27 _ rfl [] rfl _ built_r0 ?_
                | refine wpList_store_row rfl 27 _ _ rfl w.heap.size zR rfl rfl 27 zR HPS.out.r2 (infoR _ rfl) rfl (rpA_one _) ?_)
              have HS := Lib.hid (setRow_heap _ _ _ zR _ _ HPS.out.r2)
              refine bodyPost_ret (results_row_tmp rfl _ _ _ _ _ _ _ rfl HS.out Tryd.underlying27 rfl (infoR _ rfl)) rfl ?_
              unfold ParP
              rw [HPAR.out, HBADQ.out]
              exact ⟨rfl, below_setRow HPS.out.low (Nat.le_refl _) _⟩
          · obtain rfl : i = m := by omega
            have hdi : decide ((i : Int) < (i : Int)) = false := decide_eq_false (by omega)
            have hdi2 : decide (i < i) = false := decide_eq_false hlt
            have HEND : Hid (parseW ws = (mkR (kk : Int) (ee : Int) (fst ws i), 0)) := by
              show _ = _
              have htk : (ws.drop 2).take i = ws.drop 2 := List.take_of_length_le (by rw [HDL.out]; exact Nat.le_refl _)
              have hsome : numsB (ws.drop 2) = some (fst ws i) := by
                unfold numsB fst
                rw [if_pos (fun x hx => by
                  obtain ⟨q, hq, hqx⟩ := List.mem_iff_getElem.1 hx
                  exact HOK.out q x (by rw [HDL.out] at hq; exact hq) (by rw [← hqx]; exact List.getElem?_eq_getElem hq)), htk]
              rw [HPW.out, hsome]; rfl
            generalize mkR (kk : Int) (ee : Int) (fst ws i) = R at *
            go_upto_region 22 with fail
            go_wp2_with (first
              | refine wpList_load_row rfl 27 _ rfl (w.heap.size + 1) rfl 27 (rpA R) (0, 0) _ HPX.out.r4 Tryd.underlying27 rfl (infoR _ rfl) ?_
              | refine wpList_store_row rfl 27 _ _ rfl w.heap.size (rpA R) rfl rfl 27 zR HPX.out.r2 (infoR _ rfl) rfl (rpA_one _) ?_)
            have HS := Lib.hid (setRow_heap _ _ _ (rpA R) _ _ HPX.out.r2)
            refine bodyPost_ret (results_row_tmp rfl _ _ _ _ _ _ _ rfl HS.out Tryd.underlying27 rfl (infoR _ rfl)) rfl ?_
            unfold ParP
            rw [HPAR.out, HEND.out]
            exact ⟨rfl, below_setRow HPX.out.low (Nat.le_refl _) _⟩
end Go.Proofs.YtmphajilnkgcaaaDoor.Rpl
