/- PARTS, JOINED: A REGION THAT DRAWS ITS ORDER, WALKED IN ONE ORDER AS LONG AS WHAT IS READ EARLY STANDS, THEN BY A TREE. No program is named. Conditions: none. VAULTS: Records; plain: Put and Compact. Conditions: at most 65536 records. A REGION THAT DRAWS ITS ORDER: some operations that read no memory are taken first; then the eager walk with a tree behind it. No program is named. Conditions: none. VAULTS: Put. Conditions: at most 3000 bytes in a record; bytes that stay where a disk turns. VAULTS: Compact. Conditions: at most 2900 bytes in a snapshot. PLAIN PART OF SlotKeeps: snapshots put while a fuse burns, and what a crash leaves. Conditions: none. LAYER 21: the statement's own words: alive; a disk made, armed, crashed. Conditions: the laid cell of errors.errorType. LAYER 22: the statement's own words: alive. Conditions: the laid cell of errors.errorType. PLAIN PART OF THE VAULT LAWS: records put, snapshots taken and rolls opened while a fuse burns, and what a crash leaves. Conditions: none. -/
import Derived.Test.YtnejjfglkindjaaGreatDoorVb1
import Derived.Test.YtnejjfglkindjaaGreatDoorVb2
import Derived.Test.YtnejjfglkindjaaGreatDoorVb3
import Derived.Test.YtnejjfglkindjaaGreatDoorVb4
import Derived.Test.YtnejjfglkindjaaGreatDoorVb5
import Derived.Test.YtnejjfglkindjaaGreatDoorVb6
import Derived.Test.YtnejjfglkindjaaGreatDoorVb7
import Derived.Test.YtnejjfglkindjaaGreatDoorVb8
import Derived.Test.YtnejjfglkindjaaGreatDoorVb9
import Derived.Test.YtnejjfglkindjaaGreatDoorVb10
namespace Go.Mir
open Go.RowKit

section
variable {P : Program} {ops : Array Oper} {S : World → Prop} {Q : Exit → Act → World → Prop} {marks : List Nat}
/-- all that is not listed waits for every marked operation -/
def allLate (ops : Array Oper) (marks : List Nat) (l : Array Bool) : Bool := (List.range ops.size).all fun j => l.getD j false || lateB ops marks j
theorem allLate_spec {l : Array Bool} (h : allLate ops marks l = true) {j : Nat} {o : Oper} (ho : ops[j]? = some o) (hl : l.getD j false = false) : lateB ops marks j = true := by
  have hj : j < ops.size := (Array.getElem?_eq_some_iff.1 ho).1
  have := (List.all_eq_true.1 h) j (List.mem_range.2 hj)
  rw [hl, Bool.false_or] at this
  exact this
theorem wpAnyG_of_late : ∀ (n : Nat) (listed : Array Bool) (a : Act) (w : World), (∀ (j : Nat) (o : Oper), ops[j]? = some o → listed.getD j false = false → lateB ops marks j = true) →
    wpAnyH P .any ops Q (fun _ => True) n listed a w → wpAnyG P ops Q S marks n listed a w
  | 0, _, _, _, _, h => h
  | n + 1, listed, a, w, hl, h => by
    refine ⟨h.1, fun i hi => ?_⟩
    obtain ⟨hun, o, ho, _⟩ := mem_ready.1 hi
    have hlate : lateB ops marks i = true := hl i o ho (by
      cases hg : listed.getD i false with
      | false => rfl
      | true =>
        exfalso
        rcases Nat.lt_or_ge i listed.size with h' | h'
        · simp [h'] at hun hg; rw [hun] at hg; cases hg
        · simp [Array.getElem?_eq_none h'] at hg)
    refine wpOp_mono (fun a' w' h3 => ⟨fun e => (by rw [hlate] at e; cases e), wpAnyG_of_late n _ a' w' (fun j oj hoj hj => ?_) h3.2⟩) (h.2 i hi)
    refine hl j oj hoj ?_
    by_cases hij : i = j
    · subst hij
      cases hg : listed.getD i false with
      | false => rfl
      | true =>
        exfalso
        rcases Nat.lt_or_ge i listed.size with h' | h'
        · simp [h'] at hun hg; rw [hun] at hg; cases hg
        · simp [Array.getElem?_eq_none h'] at hg
    · rw [getD_set_ne false hij] at hj; exact hj
/-- the plan: what is taken or called while S stands; then a tree -/
def planU (ops : Array Oper) (marks : List Nat) (t : Tr) : List (Nat × Bool) → Array Bool → Bool
  | (i, true) :: r, l => (ops[i]?).isSome && marks.contains i && Region.free .any ops l i && (Region.ready .any ops l).contains i && planU ops marks t r (l.setIfInBounds i true)
  | (i, false) :: r, l => (ops[i]?).isSome && Region.ready .any ops l == [i] && planU ops marks t r (l.setIfInBounds i true)
  | [], l => allLate ops marks l && treeB ops t l
/-- the walk: while S stands, and on -/
def wpEagerU (P : Program) (ops : Array Oper) (S : World → Prop) (Q : Exit → Act → World → Prop) (l : List Oper) (t : Tr) : List (Oper × Bool) → Act → World → Prop
  | [], a, w => wpTree P ops (fun _ => True) Q l t a w
  | (o, true) :: r, a, w => ∃ v, YieldsIf P ops S o v a ∧ wpEagerU P ops S Q l t r (a.put o.dst v) w
  | (o, false) :: r, a, w => if Region.wanted o (yielded ops a.tmps) then o.wp P a w (fun a' w' => S w' ∧ wpEagerU P ops S Q l t r a' w') Q else wpEagerU P ops S Q l t r (a.put o.dst undef) w
theorem wpAnyG_planU {l : List Oper} (hl : l.toArray = ops) (hs : Region.noSelect ops = true) (hQ : ∀ c a d v w, Q (.panic c) (a.put d v) w → Q (.panic c) a w) (t : Tr) :
    ∀ (π : List (Nat × Bool)) (listed : Array Bool) (a : Act) (w : World), planU ops marks t π listed = true → closedL ops listed → S w → wpEagerU P ops S Q l t (planOps l π) a w → wpAnyG P ops Q S marks (π.length + t.deep) listed a w
  | [], listed, a, w, hp, _, _, h => by
    rw [List.length_nil, Nat.zero_add]
    simp only [planU, Bool.and_eq_true] at hp
    exact wpAnyG_of_late _ _ _ _ (fun j o ho hj => allLate_spec hp.1 ho hj) (wpAnyH_tree hl hs hQ t listed a w hp.2 trivial h)
  | (i, true) :: r, listed, a, w, hp, hcl, hS, h => by
    simp only [planU, Bool.and_eq_true] at hp
    obtain ⟨⟨⟨⟨h1, hmk⟩, h2⟩, h3⟩, h4⟩ := hp
    obtain ⟨o, ho⟩ := Option.isSome_iff_exists.1 h1
    have hn : nthO l i = some o := by rw [← nthO_eq, hl]; exact ho
    simp only [planOps, hn, wpEagerU] at h
    obtain ⟨v, hy, h⟩ := h
    rw [List.length_cons, Nat.add_right_comm]
    exact wpAnyG_take ho (by simpa using hmk) (Region.noSelect_spec hs) (fun c a w => hQ c a _ _ w) _ _ _ _ (Region.free_spec ho h2) (by simpa using h3) hcl hy hS (wpAnyG_planU hl hs hQ t r _ _ _ h4 (hcl.set (by simpa using h3)) hS h)
  | (i, false) :: r, listed, a, w, hp, hcl, hS, h => by
    simp only [planU, Bool.and_eq_true, beq_iff_eq] at hp
    obtain ⟨⟨h1, h2⟩, h4⟩ := hp
    obtain ⟨o, ho⟩ := Option.isSome_iff_exists.1 h1
    have hn : nthO l i = some o := by rw [← nthO_eq, hl]; exact ho
    simp only [planOps, hn, wpEagerU] at h
    rw [List.length_cons, Nat.add_right_comm]
    refine ⟨fun e => (by rw [h2] at e; cases e), fun j hj => ?_⟩
    rw [h2, List.mem_singleton] at hj
    subst hj
    unfold wpOp
    simp only [ho]
    split at h
    · rename_i hw
      rw [if_pos hw]
      exact .inl (Oper.wp_mono (fun a' w' ⟨h5, h6⟩ => ⟨fun _ => h5, wpAnyG_planU hl hs hQ t r _ _ _ h4 (hcl.set (by rw [h2]; exact List.mem_singleton.2 rfl)) h5 h6⟩) h)
    · rename_i hw
      rw [if_neg hw]
      exact ⟨fun _ => hS, wpAnyG_planU hl hs hQ t r _ _ _ h4 (hcl.set (by rw [h2]; exact List.mem_singleton.2 rfl)) hS h⟩
/-- the beginning -/
theorem wp_region_eager_u {id : Nat} {a : Act} {w : World} {l : List Oper} (S : World → Prop) (marks : List Nat) (π : List (Nat × Bool)) (t : Tr) (hm : P.follows .mixedOrders = true)
    (hp : (planU l.toArray marks t π (Array.replicate l.length false) && Region.noSelect l.toArray && π.length + t.deep == l.length) = true) (hS : S w.drew)
    (h : wpEagerU P l.toArray S (NoPanic Q) l t (planOps l π) a w.drew) : (Code.region id l.toArray true).wp P Q a w := by
  refine wp_region_noPanic ?_
  simp only [Bool.and_eq_true, beq_iff_eq] at hp
  obtain ⟨⟨h1, h2⟩, h3⟩ := hp
  have := wpAny_of_G _ _ _ _ (wpAnyG_planU (P := P) (Q := NoPanic Q) (S := S) (marks := marks) (l := l) rfl h2 (fun _ _ _ _ _ h => h) t π (Array.replicate l.length false) a w.drew h1 (fun j o _ hj => by rw [Array.getD_eq_getD_getElem?, Array.getElem?_replicate] at hj; split at hj <;> cases hj) hS h)
  refine wp_region_any hm ?_
  rw [h3] at this
  have hz : l.toArray.size = l.length := List.size_toArray ..
  rw [hz]
  exact this
/-- the next operation, written out -/
theorem eagerUOpen {l : List Oper} {t : Tr} {i : Nat} {b : Bool} {r : List (Nat × Bool)} {a : Act} {w : World} {o : Oper} (ho : nthO l i = some o)
    (h : wpEagerU P ops S Q l t ((o, b) :: planOps l r) a w) : wpEagerU P ops S Q l t (planOps l ((i, b) :: r)) a w := by
  unfold planOps; rw [ho]; exact h
theorem eagerUEnd {l : List Oper} {t : Tr} {a : Act} {w : World} (h : wpTree P ops (fun _ => True) Q l t a w) : wpEagerU P ops S Q l t (planOps l []) a w := h
theorem wpEagerU_take {l : List Oper} {t : Tr} {o : Oper} {r : List (Oper × Bool)} {a : Act} {w : World} {v : Value} (hw : Region.wanted o (yielded ops a.tmps) = true)
    (hy : ∀ w', S w' → (execOp a.eval o).run P w' = .ok (.value v) w') (h : wpEagerU P ops S Q l t r (a.put o.dst v) w) : wpEagerU P ops S Q l t ((o, true) :: r) a w := ⟨v, .inl ⟨hw, hy⟩, h⟩
theorem wpEagerU_skip {l : List Oper} {t : Tr} {o : Oper} {r : List (Oper × Bool)} {a : Act} {w : World} (hw : Region.wanted o (yielded ops a.tmps) = false)
    (h : wpEagerU P ops S Q l t r (a.put o.dst undef) w) : wpEagerU P ops S Q l t ((o, true) :: r) a w := ⟨undef, .inr ⟨hw, rfl⟩, h⟩
theorem wpEagerU_load {l : List Oper} {t : Tr} {op : Oper} {r : List (Oper × Bool)} {a : Act} {w : World} (hw : Region.wanted op (yielded ops a.tmps) = true) (ty : TypeId) (x : Operand) (ho : op.op = .load ty x)
    (b o : Nat) (hx : a.eval x = .pointer (some ⟨b, o, none⟩)) (M : Array Value) (d : TypeDesc) (hc : ∀ w', S w' → w'.rangeAt b o M.toList)
    (hu : P.underlying ty = some d) (hd : d.isRow = true) (hi : (P.info? ty).map (·.size) = some M.size)
    (h : wpEagerU P ops S Q l t r (a.put op.dst (.agg M)) w) : wpEagerU P ops S Q l t ((op, true) :: r) a w := by
  refine wpEagerU_take hw (fun w' hb => ?_) h
  unfold execOp
  simp only [ho, hx, Instr.loadAt, Instr.sureAddr, Sem.run_bind, Sem.run_pure, Result.andThen_ok, run_loadVar_mid w' b o ty M.toList d (hc w' hb) hu hd (by simpa using hi)]
theorem wpEagerU_op {l : List Oper} {t : Tr} {o : Oper} {r : List (Oper × Bool)} {a : Act} {w : World} (hw : Region.wanted o (yielded ops a.tmps) = true)
    (h : ∀ K : Act → World → Prop, Shut (∀ a w, S w → wpEagerU P ops S Q l t r a w → K a w) → Oper.wp P o a w K Q) : wpEagerU P ops S Q l t ((o, false) :: r) a w := by
  unfold wpEagerU; rw [if_pos hw]; exact h _ fun _ _ h1 h2 => ⟨h1, h2⟩
theorem eagerULoadAt {l : List Oper} {t : Tr} {r : List (Oper × Bool)} {a : Act} {w : World} (n : Nat) {d : Option Nat} {ty : TypeId} {t' : TypeId} {p : String} {af : Array Edge} {g : Option (Nat × Bool)} {b : Bool}
    (h : wpEagerU P ops S Q l t ((⟨d, .load ty (.tmp n), t', p, af, g⟩, b) :: r) a w) : wpEagerU P ops S Q l t ((⟨d, .load ty (.tmp n), t', p, af, g⟩, b) :: r) a w := h
end
end Go.Mir

namespace Go.Proofs.YtnejjfglkindjaaGreatDoor.Vlt
open Go.RowKit Go.Mir Go.Mir.Parts Dk Rol Wr Slt Cut
open Frm (frame scan)

def RecsP (v : VS) (w : World) (e : Ending) (w' : World) : Prop := ∃ p c, e = .returned (.slice p v.after.length c) ∧ LsO w' w.heap.size (.slice p v.after.length c) v.after ∧ Below w.heap.size w w'
set_option maxRecDepth 100000 in
set_option maxHeartbeats 1600000 in
theorem vrecs_any {base rb sb db vb : Nat} {d : DD} {s : SS} {v : VS} (w : World) (h : XV base rb sb db vb d s v w) (hl : v.after.length ≤ 100000) (hx : ∀ x ∈ v.after, x.length ≤ 1000000) :
    Calls Tryz.prog 9 #[.pointer (some ⟨vb, 0, none⟩)] w (RecsP v w) := by
  have HN := Lib.hid (vnone_any w h)
  obtain ⟨pb, cb, pa, ca, h⟩ := h
  obtain ⟨-, -, -, -, -, hc5⟩ := vA_cells h.row
  have HLS := Lib.hid h.ls
  have HRP : Hid (∀ p c w', LsO w' w.heap.size (.slice p v.after.length c) v.after → Below w.heap.size w w' → RecsP v w (.returned (.slice p v.after.length c)) w') := fun p c w' h1 h2 => ⟨p, c, rfl, h1, h2⟩
  have HXX := Lib.hid hx
  clear h hx
  generalize v.after = L at *
  have hlc : L.length ≤ ca := by
    obtain ⟨hs9, g1, _⟩ := HLS.out.all
    obtain ⟨p1, c1, he, hs⟩ := own_sl g1
    cases he
    exact hs.le
  go_enter Tryz.func9, Tryz.ntmps9
  go_wp2_with fail
  refine HN.out.mono ?_
  rintro e w' ⟨rfl, rfl⟩
  go_wp2_with fail
  clear hc5
  go_loopw [3, 5, 13] (fun o _ j wr => ∃ (i : Nat) (p9 : Option Addr) (c9 : Nat), i ≤ L.length ∧ j = .int .i64 i ∧ o = .slice p9 i c9 ∧ LsO wr w.heap.size (.slice p9 i c9) (L.take i) ∧ Below w.heap.size w wr) (fun _ _ j _ => L.length - (intOf j).toNat)
  case atStart => exact ⟨0, none, 0, Nat.zero_le _, rfl, rfl, LsO.nil _ _, Below.refl _ _⟩
  case round =>
    obtain ⟨i, p9, c9, hi, rfl, rfl, ho, hb⟩ := hrel
    have HO := Lib.hid ho
    have HB := Lib.hid hb
    clear ho hb
    by_cases hlt : i < L.length
    · have hd1 : decide ((i : Int) < (L.length : Int)) = true := decide_eq_true (by omega)
      have hd2 : decide (i < L.length) = true := decide_eq_true hlt
      have hi1 : (i : Int) < (L.length : Int) := by omega
      obtain ⟨pq, cq, hv, hpt⟩ := (HLS.out.below HB.out).ls.sl
      cases hv
      obtain ⟨b, o, rfl⟩ := hpt.addr (by omega)
      obtain ⟨q, m, k, hcl, hbs⟩ := hpt.cell _ rfl i hlt
      rw [add_none] at hcl
      obtain rfl := hbs.length
      have HXL := Lib.hid (HXX.out _ (List.getElem_mem hlt))
      have HTK : Hid (L.take (i + 1) = L.take i ++ [L[i]]) := List.take_succ_eq_append_getElem hlt
      have hkl := hbs.le
      have hkm := hbs.max
      have HBS := Lib.hid hbs
      clear hbs hpt
      generalize L[i] = X at *
      have hxm : X.length ≤ 1000000 := HXL.out
      have htl : (L.take i).length = i := by rw [List.length_take]; omega
      obtain ⟨hs', hl1, hl2⟩ := HO.out.all
      rw [htl] at hl1
      have HL1 := Lib.hid hl1
      have HL2 := Lib.hid hl2
      have HTL := Lib.hid htl
      clear hl1 hl2 htl
      have HB' := HB
      go_wp2_with (at_builtin; refine wpList_append_nx rfl _ _ 22 rfl (base := w.heap.size) Tryz.underlying22 info8 rfl (by omega) rfl (World.ownsRow_nil _ _ _ _) rfl HBS.out (bytesV_one _) ⟨by omega, by omega⟩ HB'.out.size ?_)
      intro p8 c8 w8 ho8 hg8 _ _
      have hb8 : Below w.heap.size w w8 := HB'.out.grown hg8 HB'.out.size (fun k hk => by simp [Value.ownBlock] at hk)
      have hbr : Below wr.heap.size wr w8 := (Below.refl _ wr).grown hg8 (Nat.le_refl _) (fun k hk => by simp [Value.ownBlock] at hk)
      have HX8 : Hid (w8.ownsRow w.heap.size 5 1 (.slice p8 X.length c8) X.length (bytesV X)) := by show World.ownsRow _ _ _ _ _ _ _; simpa using ho8
      have HL18 := Lib.hid (own_touch HL1.out (Turns.of_below (S := fun _ => False) hbr) (fun _ _ h => h))
      have HL28 : Hid (∀ j (h : j < (L.take i).length), ∃ q k, hs'[j]? = some (.slice q (L.take i)[j].length k) ∧ w8.ownsRow w.heap.size 5 1 (.slice q (L.take i)[j].length k) (L.take i)[j].length (bytesV (L.take i)[j])) := fun j hj => by
        obtain ⟨q, k, e1, e2⟩ := HL2.out j hj
        exact ⟨q, k, e1, own_touch e2 (Turns.of_below (S := fun _ => False) hbr) (fun _ _ h => h)⟩
      have hal := Below.allocs w8 (.cells #[.slice p8 X.length c8] 22)
      have HOA := Lib.hid (own_touch HL18.out (Turns.of_below (S := fun _ => False) hal) (fun _ _ h => h))
      have HXA := Lib.hid (hdr_sl w8 (.slice p8 X.length c8) 22 w8.heap.size rfl)
      have HBA := Lib.hid (hb8.trans (hal.mono hb8.size))
      have HB8 := Lib.hid hb8
      clear ho8 hg8 hb8 hbr hal HB' HO HL1 HL2
      go_wp2_with (first
        | (at_builtin; refine wpList_append_nx rfl _ _ 31 rfl (base := w.heap.size) Tryz.underlying31 infoS rfl (by omega) rfl HOA.out rfl HXA.out (fun u hu => by rw [List.mem_singleton] at hu; subst hu; rfl) ⟨by omega, by omega⟩ HBA.out.size ?_))
      intro p7 c7 w7 ho7 hg7 _ _
      have hpu : LsO w7 w.heap.size (.slice p7 (i + 1) c7) (L.take (i + 1)) := by
        rw [HTK.out]
        exact LsO.push (by rw [HTL.out]; exact HL18.out) HL28.out HX8.out (by rw [HTL.out]; exact ho7) hg7
      have HPU := Lib.hid hpu
      have HBZ := Lib.hid (HBA.out.trans (own_below HOA.out hg7 HBA.out.size))
      clear hpu ho7 hg7 HL18 HL28 HX8 HOA HXA HBA HB8
      go_wp2_with fail
      go_roundw
      case rel => exact ⟨i + 1, p7, c7, by omega, by go_num, rfl, HPU.out, HBZ.out⟩
      case measure => simp [intOf]; omega
    · have hd1 : decide ((i : Int) < (L.length : Int)) = false := decide_eq_false (by omega)
      have hd2 : decide (i < L.length) = false := decide_eq_false hlt
      obtain rfl : i = L.length := by omega
      have hot := HO.out
      rw [List.take_length] at hot
      have HEND := Lib.hid (HRP.out p9 c9 wr hot HB.out)
      clear hot hlt
      go_wp2_with fail
      go_ret
      exact HEND.out
end Go.Proofs.YtnejjfglkindjaaGreatDoor.Vlt

namespace Go.Mir
open Go.RowKit

section
variable {P : Program} {ops : Array Oper} {S : World → Prop} {Q : Exit → Act → World → Prop} {marks : List Nat}
theorem wpAnyH_of_any {md : Region.Mode} : ∀ (n : Nat) (listed : Array Bool) (a : Act) (w : World), wpAny P md ops Q n listed a w → wpAnyH P md ops Q (fun _ => True) n listed a w
  | 0, _, _, _, h => h
  | n + 1, _, _, _, h => ⟨h.1, fun i hi => wpOp_mono (fun a' w' h' => ⟨trivial, wpAnyH_of_any n _ a' w' h'⟩) (h.2 i hi)⟩
def planV (ops : Array Oper) (marks : List Nat) (t : Tr) (π : List (Nat × Bool)) : List Nat → Array Bool → Bool
  | i :: r, l => (ops[i]?).isSome && Region.free .any ops l i && (Region.ready .any ops l).contains i && planV ops marks t π r (l.setIfInBounds i true)
  | [], l => planU ops marks t π l
def wpEagerV (P : Program) (ops : Array Oper) (S : World → Prop) (Q : Exit → Act → World → Prop) (l : List Oper) (t : Tr) (π : List (Nat × Bool)) : List Oper → Act → World → Prop
  | [], a, w => wpEagerU P ops S Q l t (planOps l π) a w
  | o :: r, a, w => ∃ v, YieldsIf P ops (fun _ => True) o v a ∧ wpEagerV P ops S Q l t π r (a.put o.dst v) w
theorem wpAnyH_planV {l : List Oper} (hl : l.toArray = ops) (hs : Region.noSelect ops = true) (hQ : ∀ c a d v w, Q (.panic c) (a.put d v) w → Q (.panic c) a w) (t : Tr) (π : List (Nat × Bool)) :
    ∀ (fr : List Nat) (listed : Array Bool) (a : Act) (w : World), planV ops marks t π fr listed = true → closedL ops listed → S w → wpEagerV P ops S Q l t π (tailOps l fr) a w → wpAnyH P .any ops Q (fun _ => True) (fr.length + (π.length + t.deep)) listed a w
  | [], listed, a, w, hp, hcl, hS, h => by
    rw [List.length_nil, Nat.zero_add]
    exact wpAnyH_of_any _ _ _ _ (wpAny_of_G _ _ _ _ (wpAnyG_planU hl hs hQ t π listed a w hp hcl hS h))
  | i :: r, listed, a, w, hp, hcl, hS, h => by
    simp only [planV, Bool.and_eq_true] at hp
    obtain ⟨⟨⟨h1, h2⟩, h3⟩, h4⟩ := hp
    obtain ⟨o, ho⟩ := Option.isSome_iff_exists.1 h1
    have hn : nthO l i = some o := by rw [← nthO_eq, hl]; exact ho
    simp only [tailOps, hn, wpEagerV] at h
    obtain ⟨v, hy, h⟩ := h
    rw [List.length_cons, Nat.add_right_comm]
    exact wpAnyH_take ho hs h2 h3 (fun c a w => hQ c a _ _ w) hy trivial (wpAnyH_planV hl hs hQ t π r _ _ _ h4 (hcl.set (by simpa using h3)) hS h)
/-- the beginning -/
theorem wp_region_eager_v {id : Nat} {a : Act} {w : World} {l : List Oper} (S : World → Prop) (fr : List Nat) (marks : List Nat) (π : List (Nat × Bool)) (t : Tr) (hm : P.follows .mixedOrders = true)
    (hp : (planV l.toArray marks t π fr (Array.replicate l.length false) && Region.noSelect l.toArray && fr.length + (π.length + t.deep) == l.length) = true) (hS : S w.drew)
    (h : wpEagerV P l.toArray S (NoPanic Q) l t π (tailOps l fr) a w.drew) : (Code.region id l.toArray true).wp P Q a w := by
  refine wp_region_noPanic ?_
  simp only [Bool.and_eq_true, beq_iff_eq] at hp
  obtain ⟨⟨h1, h2⟩, h3⟩ := hp
  have := wpAnyH_planV (P := P) (Q := NoPanic Q) (S := S) (marks := marks) (l := l) rfl h2 (fun _ _ _ _ _ h => h) t π fr (Array.replicate l.length false) a w.drew h1 (fun j o _ hj => by rw [Array.getD_eq_getD_getElem?, Array.getElem?_replicate] at hj; split at hj <;> cases hj) hS h
  refine wp_region_held hm (S := fun _ => True) ?_
  rw [h3] at this
  have hz : l.toArray.size = l.length := List.size_toArray ..
  rw [hz]
  exact this
theorem eagerVOpen {l : List Oper} {t : Tr} {π : List (Nat × Bool)} {i : Nat} {r : List Nat} {a : Act} {w : World} {o : Oper} (ho : nthO l i = some o)
    (h : wpEagerV P ops S Q l t π (o :: tailOps l r) a w) : wpEagerV P ops S Q l t π (tailOps l (i :: r)) a w := by
  unfold tailOps; rw [ho]; exact h
theorem eagerVTake {l : List Oper} {t : Tr} {π : List (Nat × Bool)} {o : Oper} {r : List Oper} {a : Act} {w : World} {v : Value} (hw : Region.wanted o (yielded ops a.tmps) = true)
    (hy : ∀ w', (execOp a.eval o).run P w' = .ok (.value v) w') (h : wpEagerV P ops S Q l t π r (a.put o.dst v) w) : wpEagerV P ops S Q l t π (o :: r) a w := ⟨v, .inl ⟨hw, fun w' _ => hy w'⟩, h⟩
theorem eagerVEnd {l : List Oper} {t : Tr} {π : List (Nat × Bool)} {a : Act} {w : World} (h : wpEagerU P ops S Q l t (planOps l π) a w) : wpEagerV P ops S Q l t π (tailOps l []) a w := h
end
end Go.Mir

namespace Go.Proofs.YtnejjfglkindjaaGreatDoor.Vlt
open Go.RowKit Go.Mir Go.Mir.Parts Dk Rol Wr Slt Cut
open Frm (frame scan)

def vputR (v : VS) (x : List UInt8) : List UInt8 := be (v.last + 1) 8 ++ x
def vputOk (v : VS) (x : List UInt8) : Prop := 1 ≤ x.length ∧ x.length ≤ 60000 ∧ v.last + 2 < 18446744073709551616
instance (v : VS) (x : List UInt8) : Decidable (vputOk v x) := by unfold vputOk; infer_instance
def vputE (d : DD) (v : VS) (x : List UInt8) : Int := if vputOk v x then appE d 0 (vputR v x) else 1
def vputD (d : DD) (v : VS) (x : List UInt8) : DD := if vputOk v x then appD d 0 (vputR v x) else d
def vputV (d : DD) (v : VS) (x : List UInt8) : VS := if vputOk v x ∧ appE d 0 (vputR v x) = 0 then ⟨v.last + 1, v.some, v.body, v.after ++ [x]⟩ else v
def VPutP (base rb sb db vb : Nat) (d : DD) (s : SS) (v : VS) (x : List UInt8) (w : World) (e : Ending) (w' : World) : Prop := e = .returned (.int .i64 (vputE d v x)) ∧ XV base rb sb db vb (vputD d v x) s (vputV d v x) w' ∧ KV base w w'
theorem XW.push {base rb sb db vb : Nat} {d : DD} {s : SS} {v : VS} {pb pa : Option Addr} {cb ca : Nat} {wr w3 : World} {q p9 : Option Addr} {k c9 n : Nat} {x : List UInt8} (h : XW base rb sb db vb d s v pb cb pa ca wr) (hn : n < 18446744073709551616)
    (hx : wr.ownsRow base 5 1 (.slice q x.length k) x.length (bytesV x)) {hs' : List Value}
    (hl : wr.ownsRow base 22 1 (.slice pa v.after.length ca) v.after.length hs') (hl2 : ∀ j (h : j < v.after.length), ∃ q k, hs'[j]? = some (.slice q v.after[j].length k) ∧ wr.ownsRow base 5 1 (.slice q v.after[j].length k) v.after[j].length (bytesV v.after[j]))
    {tmp : Obj} (ho : w3.ownsRow base 22 1 (.slice p9 (v.after.length + 1) c9) (v.after.length + 1) (hs' ++ [.slice q x.length k])) (hg : (wr.alloc tmp).grownBy w3 (Value.slice pa v.after.length ca).ownBlock) :
    XW base rb sb db vb d s ⟨n, v.some, v.body, v.after ++ [x]⟩ pb cb p9 c9 ((w3.setCell ⟨vb, 2, none⟩ (.int .u64 (n : Int))).setCell ⟨vb, 5, none⟩ (.slice p9 (v.after.length + 1) c9)) ∧
    KV base wr ((w3.setCell ⟨vb, 2, none⟩ (.int .u64 (n : Int))).setCell ⟨vb, 5, none⟩ (.slice p9 (v.after.length + 1) c9)) ∧
    w3.heap[vb]? = some (.cells (vA rb sb v pb cb pa ca) 33 (0, 0)) ∧ (w3.setCell ⟨vb, 2, none⟩ (.int .u64 (n : Int))).heap[vb]? = some (.cells (vA rb sb ⟨n, v.some, v.body, v.after⟩ pb cb pa ca) 33 (0, 0)) := by
  have hlen : (v.after ++ [x]).length = v.after.length + 1 := by rw [List.length_append]; rfl
  have nv : ∀ k, (Value.slice pa v.after.length ca).ownBlock = some k → ∃ M fr, wr.heap[k]? = some (.cells M 22 fr) := fun k hk => by
    rcases hl.2 with ⟨e, _⟩ | ⟨g, cap, cur, e, _, hgg, _⟩
    · rw [e] at hk; cases hk
    · rw [e] at hk
      simp only [Value.ownBlock, Option.some.injEq] at hk
      subst hk
      exact ⟨_, _, hgg⟩
  have hva : ¬ (Value.slice pa v.after.length ca).ownBlock = some vb := fun hk => by
    obtain ⟨M, fr, e⟩ := nv vb hk
    have := h.row
    rw [e] at this
    injection this with e1
    injection e1 with _ e2
    exact absurd e2 (by decide)
  have ht3 : Turns (fun k => (Value.slice pa v.after.length ca).ownBlock = some k) wr w3 := (Turns.of_below (S := fun k => (Value.slice pa v.after.length ca).ownBlock = some k) (Below.allocs wr tmp)).trans (Turns.grown hg (fun k h => h)) (fun _ _ h => h)
  have hr3 := ht3.keep h.row hva
  have hr4 := Dk.cell_put (off := 2) (.int .u64 (n : Int)) hr3
  have hr5 := Dk.cell_put (off := 5) (.slice p9 (v.after.length + 1) c9) hr4
  have ht3' : Turns (fun k => k = vb ∨ (Value.slice pa v.after.length ca).ownBlock = some k) wr w3 := ht3.imp (fun k _ hk => Or.inr hk)
  have ht5 : Turns (fun k => k = vb ∨ (Value.slice pa v.after.length ca).ownBlock = some k) wr ((w3.setCell ⟨vb, 2, none⟩ (.int .u64 (n : Int))).setCell ⟨vb, 5, none⟩ (.slice p9 (v.after.length + 1) c9)) :=
    (ht3'.setCell (p := ⟨vb, 2, none⟩) (fun _ => .inl rfl) _).setCell (p := ⟨vb, 5, none⟩) (fun _ => .inl rfl) _
  have htv : Turns (fun k => k = vb) w3 ((w3.setCell ⟨vb, 2, none⟩ (.int .u64 (n : Int))).setCell ⟨vb, 5, none⟩ (.slice p9 (v.after.length + 1) c9)) :=
    ((Turns.refl (fun k => k = vb) w3).setCell (p := ⟨vb, 2, none⟩) (fun _ => rfl) _).setCell (p := ⟨vb, 5, none⟩) (fun _ => rfl) _
  have hls3 : LsO w3 base (.slice p9 (v.after.length + 1) c9) (v.after ++ [x]) := LsO.push hl hl2 hx ho hg
  have hls5 := lsO_turn hls3 htv (fun k M t fr hk hm => by
    subst hk
    rw [hr3] at hm
    injection hm with e1
    injection e1 with _ e2
    subst e2
    exact ⟨by decide, by decide⟩)
  have hrow : ((w3.setCell ⟨vb, 2, none⟩ (.int .u64 (n : Int))).setCell ⟨vb, 5, none⟩ (.slice p9 (v.after.length + 1) c9)).heap[vb]? = some (.cells (vA rb sb ⟨n, v.some, v.body, v.after ++ [x]⟩ pb cb p9 c9) 33 (0, 0)) := by
    unfold vA
    rw [hlen]
    exact hr5
  have hls6 : LsO ((w3.setCell ⟨vb, 2, none⟩ (.int .u64 (n : Int))).setCell ⟨vb, 5, none⟩ (.slice p9 (v.after.length + 1) c9)) base (.slice p9 (v.after ++ [x]).length c9) (v.after ++ [x]) := by rw [hlen]; exact hls5
  refine ⟨h.put ht5 (fun k hk => hk) hn hrow ?_ hls6, h.kv ht5 (fun k hk => hk), hr3, hr4⟩
  refine h.rd.touch ht5 (fun k M fr hm hh => ?_)
  rcases hh with rfl | hh
  · have := h.row
    rw [hm] at this
    injection this with e1
    injection e1 with _ e2
    exact absurd e2 (by decide)
  · obtain ⟨M', fr', e⟩ := nv k hh
    rw [hm] at e
    injection e with e1
    injection e1 with _ e2
    exact absurd e2 (by decide)
set_option maxRecDepth 100000 in
set_option maxHeartbeats 3200000 in
theorem vput_any {base rb sb db vb : Nat} {d : DD} {s : SS} {v : VS} (w : World) (h : XV base rb sb db vb d s v w) (p : Option Addr) (c : Nat) (x : List UInt8) (hB : ∀ w', KT base w w' → Bs w' p x.length c x) (hx : x.length ≤ 3000) (hal : v.after.length ≤ 100000) (hfew : (fD d 0).steps.length + 1 ≤ 4398046511104) :
    Calls Tryz.prog 12 #[.pointer (some ⟨vb, 0, none⟩), .slice p x.length c] w (VPutP base rb sb db vb d s v x w) := by
  have HN := Lib.hid (vnone_any w h)
  have HXV := Lib.hid h
  obtain ⟨pb, cb, pa, ca, h⟩ := h
  obtain ⟨-, -, hc2, -, -, -⟩ := vA_cells h.row
  have hlast := h.last
  have HX := Lib.hid h
  have HB := Lib.hid hB
  have HFW := Lib.hid hfew
  have hle := (hB w (KT.refl _ _)).le
  have hmx := (hB w (KT.refl _ _)).max
  clear h hB hfew
  by_cases h1 : x.length < 1
  · have d1 : decide ((x.length : Int) < 1) = true := decide_eq_true (by omega)
    have d1' : decide (x.length < 1) = true := decide_eq_true h1
    have hno : ¬ vputOk v x := fun hh => by unfold vputOk at hh; omega
    have HEND : Hid (VPutP base rb sb db vb d s v x w (.returned (.int .i64 1)) w) := ⟨by unfold vputE; rw [if_neg hno], by unfold vputD vputV; rw [if_neg hno, if_neg (fun hh => hno hh.1)]; exact HXV.out, KV.refl _ _⟩
    clear h1 hno
    go_enter Tryz.func12, Tryz.ntmps12
    go_wp2_with fail
    refine HN.out.mono ?_
    rintro e w' ⟨rfl, rfl⟩
    go_wp2_with fail
    go_ret
    exact HEND.out
  have d1 : decide ((x.length : Int) < 1) = false := decide_eq_false (by omega)
  have d1' : decide (x.length < 1) = false := decide_eq_false h1
  have d2 : decide ((60000 : Int) < (x.length : Int)) = false := decide_eq_false (by omega)
  have d2' : decide (60000 < x.length) = false := decide_eq_false (by omega)
  by_cases h2 : v.last + 2 < 18446744073709551616
  rotate_left
  · have hw : IntKind.u64.wrap ((v.last : Int) + 2) = (v.last : Int) + 2 - 18446744073709551616 := by rw [IntKind.wrap_u64]; omega
    have d3 : decide ((v.last : Int) + 2 - 18446744073709551616 < 2) = true := decide_eq_true (by omega)
    have hno : ¬ vputOk v x := fun hh => by unfold vputOk at hh; omega
    have HEND : Hid (VPutP base rb sb db vb d s v x w (.returned (.int .i64 1)) w) := ⟨by unfold vputE; rw [if_neg hno], by unfold vputD vputV; rw [if_neg hno, if_neg (fun hh => hno hh.1)]; exact HXV.out, KV.refl _ _⟩
    clear h1 h2 hno
    go_enter Tryz.func12, Tryz.ntmps12
    go_wp2_with fail
    refine HN.out.mono ?_
    rintro e w' ⟨rfl, rfl⟩
    go_wp2_with fail
    go_ret
    exact HEND.out
  have hw : IntKind.u64.wrap ((v.last : Int) + 2) = (v.last : Int) + 2 := by rw [IntKind.wrap_u64]; omega
  have hw1 : IntKind.u64.wrap ((v.last : Int) + 1) = (v.last : Int) + 1 := by rw [IntKind.wrap_u64]; omega
  have d3 : decide ((v.last : Int) + 2 < 2) = false := decide_eq_false (by omega)
  have HOK : Hid (vputOk v x) := ⟨by omega, by omega, h2⟩
  have HL1 : Hid (v.last + 1 < 18446744073709551616) := by show _ < _; omega
  have HC0 : Hid (∀ w', KT base w w' → w'.cell? ⟨vb, 0, none⟩ = some (.pointer (some ⟨rb, 0, none⟩))) := fun w' hk => (vA_cells (hk.row HX.out.row (by decide) (by decide))).1
  have HC2 : Hid (∀ w', KT base w w' → w'.cell? ⟨vb, 2, none⟩ = some (.int .u64 (v.last : Int))) := fun w' hk => (vA_cells (hk.row HX.out.row (by decide) (by decide))).2.2.1
  have HJ := Lib.hid (fun (y : World) (hy : KT base w y) => join_any (v.last + 1) HL1.out p c x y (HB.out y hy) (by omega))
  have hcs : ((v.last + 1 : Nat) : Int) = (v.last : Int) + 1 := by omega
  rw [hcs] at HJ
  have hRL : (be (v.last + 1) 8 ++ x).length = 8 + x.length := by rw [List.length_append, be_length]
  obtain ⟨R, hR⟩ : ∃ R, be (v.last + 1) 8 ++ x = R := ⟨_, rfl⟩
  rw [hR] at HJ hRL
  have HRL : Hid (R.length ≤ 4000) := by show _ ≤ _; omega
  have HRR : Hid (vputR v x = R) := hR
  clear h1 h2 hcs hR hRL
  go_enter Tryz.func12, Tryz.ntmps12
  go_wp2_with fail
  refine HN.out.mono ?_
  rintro e w' ⟨rfl, rfl⟩
  go_upto_region 5 with fail
  clear hc2 d1 d1' d2 d2' d3 hw
  refine wp_region_eager_in (KT base w) [(0, true), (1, true), (2, true), (3, true), (4, true), (5, true), (6, true), (7, true), (8, true), (9, true), (10, false), (11, false), (12, true)] (by kernel_rfl) (by kernel_rfl) ?_ (eagerOpen rfl ?_)
  · exact KT.of_below (below_drew1 _ _)
  have hy0 : KT base w w.drew := KT.of_below (below_drew1 _ _)
  repeat (first
    | (first | (apply wpEager_take; (· rfl); (· (intro w' hb'; go_simp; try with_reducible rfl)); (try simp only [Act.put, List.setIfInBounds_toArray, List.set_cons_zero, List.set_cons_succ]); (try refine eagerOpen rfl ?_)) | (refine wpEager_skip (by rfl) ?_; (try simp only [Act.put, List.setIfInBounds_toArray, List.set_cons_zero, List.set_cons_succ]); (try refine eagerOpen rfl ?_)) | (refine wpEager_off (by rfl) ?_; (try simp only [Act.put, List.setIfInBounds_toArray, List.set_cons_zero, List.set_cons_succ]); (try refine eagerOpen rfl ?_)))
    | (apply wpEager_take; (· rfl); (· (intro w' hb'; have hk' := (HC0.out) w' hb'; go_split_ands; go_simp; try with_reducible rfl)); (try simp only [Act.put, List.setIfInBounds_toArray, List.set_cons_zero, List.set_cons_succ]); (try refine eagerOpen rfl ?_))
    | (apply wpEager_take; (· rfl); (· (intro w' hb'; have hk' := (HC2.out) w' hb'; go_split_ands; go_simp; try with_reducible rfl)); (try simp only [Act.put, List.setIfInBounds_toArray, List.set_cons_zero, List.set_cons_succ]); (try refine eagerOpen rfl ?_)))
  (refine wpEager_op (by rfl) (fun K hK => ?_); go_simp; (refine (HJ.out _ hy0).mono ?_; rintro e y1 ⟨p1, c1, rfl, ho1, hb1⟩; have hy1 : KT base w y1 := hy0.next hb1; have hx1 := (HX.out.kt hy0 (HX.out.sx.dx.below (below_drew1 _ _))).below hb1; have HO1 := Lib.hid (own_bs ho1); clear hb1 ho1); refine Shut.out hK _ _ (by assumption) ?_; clear hK K; (try simp only [Act.put, List.setIfInBounds_toArray, List.set_cons_zero, List.set_cons_succ]); (try refine eagerOpen rfl ?_))
  (refine wpEager_op (by rfl) (fun K hK => ?_); go_simp; (refine (append_any y1 hx1.sx.dx hx1.rol (by omega) p1 R.length c1 R HO1.out HRL.out HFW.out).mono ?_; rintro e y2 ⟨rfl, hdx, hk2⟩; have hy2 : KT base w y2 := hy1.trans hk2); refine Shut.out hK _ _ (by assumption) ?_; clear hK K; (try simp only [Act.put, List.setIfInBounds_toArray, List.set_cons_zero, List.set_cons_succ]); (try refine eagerOpen rfl ?_))
  repeat (first | (apply wpEager_take; (· rfl); (· (intro w' hb'; go_simp; try with_reducible rfl)); (try simp only [Act.put, List.setIfInBounds_toArray, List.set_cons_zero, List.set_cons_succ]); (try refine eagerOpen rfl ?_)) | (refine wpEager_skip (by rfl) ?_; (try simp only [Act.put, List.setIfInBounds_toArray, List.set_cons_zero, List.set_cons_succ]); (try refine eagerOpen rfl ?_)) | (refine wpEager_off (by rfl) ?_; (try simp only [Act.put, List.setIfInBounds_toArray, List.set_cons_zero, List.set_cons_succ]); (try refine eagerOpen rfl ?_)))
  refine eagerEnd ?_
  have HX2 := Lib.hid (hx1.kt hk2 hdx)
  have HK2 := Lib.hid hy2
  have HPE : Hid (vputE d v x = appE d 0 R) := by show _ = _; unfold vputE; rw [if_pos HOK.out, HRR.out]
  have HPD : Hid (vputD d v x = appD d 0 R) := by show _ = _; unfold vputD; rw [if_pos HOK.out, HRR.out]
  have HPV : Hid (vputV d v x = if appE d 0 R = 0 then ⟨v.last + 1, v.some, v.body, v.after ++ [x]⟩ else v) := by
    show _ = _
    unfold vputV
    rw [HRR.out]
    by_cases he : appE d 0 R = 0
    · rw [if_pos he, if_pos ⟨HOK.out, he⟩]
    · rw [if_neg he, if_neg (fun hh => he hh.2)]
  clear hx1 hk2 hdx hy0 hy1 hy2 HC0 HC2 HJ HO1 HOK HX HXV HN
  have HB2 := Lib.hid (HB.out y2 HK2.out)
  have HXL : Hid (x.length ≤ 3000) := hx
  generalize appE d 0 R = EE at *
  generalize appD d 0 R = DD2 at *
  by_cases he : EE = 0
  rotate_left
  · have q1 : (EE == 0) = false := beq_eq_false_iff_ne.2 he
    have q2 : (EE != 0) = true := bne_iff_ne.2 he
    rw [if_neg he] at HPV
    have HEND : Hid (VPutP base rb sb db vb d s v x w (.returned (.int .i64 EE)) y2) := ⟨by rw [HPE.out], by rw [HPD.out, HPV.out]; exact ⟨_, _, _, _, HX2.out⟩, KV.of_kt HK2.out⟩
    clear he
    go_wp2_with fail
    go_ret
    exact HEND.out
  have q1 : (EE == 0) = true := beq_iff_eq.2 he
  have q2 : (EE != 0) = false := by rw [bne_eq_false_iff_eq]; exact he
  rw [if_pos he] at HPV
  rw [he] at HPE
  clear he
  obtain ⟨hs', hl1, hl2⟩ := HX2.out.ls.all
  have hnb : ¬ (Value.slice pa v.after.length ca).ownBlock = some vb := fun hk => by
    rcases hl1.2 with ⟨e, _⟩ | ⟨g, cap, cur, e, _, hgg, _⟩
    · rw [e] at hk; cases hk
    · rw [e] at hk
      simp only [Value.ownBlock, Option.some.injEq] at hk
      subst hk
      have := HX2.out.row
      rw [hgg] at this
      injection this with e1
      injection e1 with _ e2
      exact absurd e2 (by decide)
  have HC2 : Hid (∀ w', Turns (fun k => (Value.slice pa v.after.length ca).ownBlock = some k) y2 w' → w'.cell? ⟨vb, 2, none⟩ = some (.int .u64 (v.last : Int))) := fun w' ht => (vA_cells (ht.keep HX2.out.row hnb)).2.2.1
  have HC5 : Hid (∀ w', Turns (fun k => (Value.slice pa v.after.length ca).ownBlock = some k) y2 w' → w'.cell? ⟨vb, 5, none⟩ = some (.slice pa v.after.length ca)) := fun w' ht => (vA_cells (ht.keep HX2.out.row hnb)).2.2.2.2.2
  have HL1' := Lib.hid hl1
  have HL2 := Lib.hid hl2
  have HYB := Lib.hid (below_drew1 y2.heap.size y2)
  have HBS : Hid (base ≤ y2.heap.size) := HX2.out.sx.dx.1
  clear hl1 hl2 hnb
  go_upto_region 8 with fail
  refine wp_region_eager_v (Turns (fun k => (Value.slice pa v.after.length ca).ownBlock = some k) y2) [1] [0, 2, 3, 4, 5, 6, 7, 8, 9, 10, 11] [(0, true), (2, true), (3, true), (4, true), (5, true), (6, true), (7, true), (8, true), (9, true), (10, true), (11, true), (12, false), (13, false), (14, false)] (.take 15 (.take 16 (.one 17 (.take 18 (.take 19 (.one 20 .nil)))))) (by kernel_rfl) (by kernel_rfl) (Turns.of_below (below_drew1 _ _)) (eagerVOpen rfl ?_)
  (apply eagerVTake; (· rfl); (· (intro w'; go_simp; try with_reducible rfl)); try simp only [Act.put, List.setIfInBounds_toArray, List.set_cons_zero, List.set_cons_succ])
  refine eagerVEnd (eagerUOpen rfl ?_)
  repeat (first
    | (first | (apply wpEagerU_take; (· rfl); (· (intro w' hb'; go_simp; try with_reducible rfl)); (try simp only [Act.put, List.setIfInBounds_toArray, List.set_cons_zero, List.set_cons_succ]); (try refine eagerUOpen rfl ?_)) | (refine wpEagerU_skip (by rfl) ?_; (try simp only [Act.put, List.setIfInBounds_toArray, List.set_cons_zero, List.set_cons_succ]); (try refine eagerUOpen rfl ?_)))
    | (apply wpEagerU_take; (· rfl); (· (intro w' hb'; have hk' := (HC2.out) w' hb'; go_split_ands; go_simp; try with_reducible rfl)); (try simp only [Act.put, List.setIfInBounds_toArray, List.set_cons_zero, List.set_cons_succ]); (try refine eagerUOpen rfl ?_))
    | (apply wpEagerU_take; (· rfl); (· (intro w' hb'; have hk' := (HC5.out) w' hb'; go_split_ands; go_simp; try with_reducible rfl)); (try simp only [Act.put, List.setIfInBounds_toArray, List.set_cons_zero, List.set_cons_succ]); (try refine eagerUOpen rfl ?_)))
  clear HC2 HC5
  refine wpEagerU_op (by rfl) (fun K hK => oper_of_list rfl ?_)
  have hbd := HB2.out.below HYB.out
  refine wpList_append_nx rfl _ _ 22 rfl (base := base) Tryz.underlying22 info8 rfl (by omega) (v := .slice none 0 0) rfl (World.ownsRow_nil _ _ _ _) rfl hbd (bytesV_one _) ⟨by omega, by omega⟩ (Nat.le_trans HBS.out HYB.out.size) ?_
  intro p8 c8 y8 ho8 hg8 _ _
  have hb8 : Below y2.heap.size y2 y8 := HYB.out.grown hg8 HYB.out.size (fun k hk => by simp [Value.ownBlock] at hk)
  have HX8 : Hid (y8.ownsRow base 5 1 (.slice p8 x.length c8) x.length (bytesV x)) := by show World.ownsRow _ _ _ _ _ _ _; simpa using ho8
  refine only_end (Shut.out hK _ _ (Turns.of_below hb8) ?_)
  clear hK K ho8 hg8 hbd
  have z8 : 0 + x.length = x.length := Nat.zero_add _
  rw [z8]
  clear z8
  (try simp only [Act.put, List.setIfInBounds_toArray, List.set_cons_zero, List.set_cons_succ]); (try refine eagerUOpen rfl ?_)
  have hal8 := Below.allocs y8 (.cells #[.slice p8 x.length c8] 22)
  have hbA : Below y2.heap.size y2 (y8.alloc (.cells #[.slice p8 x.length c8] 22)) := hb8.trans (hal8.mono hb8.size)
  refine wpEagerU_op (by rfl) (fun K hK => ?_)
  go_simp
  refine Shut.out hK _ _ (Turns.of_below hbA) ?_
  clear hK K
  (try simp only [Act.put, List.setIfInBounds_toArray, List.set_cons_zero, List.set_cons_succ]); (try refine eagerUOpen rfl ?_)
  have HX28 := Lib.hid (HX2.out.below hb8)
  have HL18 := Lib.hid (own_touch HL1'.out (Turns.of_below (S := fun _ => False) hb8) (fun _ _ h => h))
  have HL28 : Hid (∀ j (h : j < v.after.length), ∃ q k, hs'[j]? = some (.slice q v.after[j].length k) ∧ y8.ownsRow base 5 1 (.slice q v.after[j].length k) v.after[j].length (bytesV v.after[j])) := fun j hj => by
    obtain ⟨q, k, e1, e2⟩ := HL2.out j hj
    exact ⟨q, k, e1, own_touch e2 (Turns.of_below (S := fun _ => False) hb8) (fun _ _ h => h)⟩
  have HOA := Lib.hid (own_touch HL18.out (Turns.of_below (S := fun _ => False) hal8) (fun _ _ h => h))
  have HXA := Lib.hid (hdr_sl y8 (.slice p8 x.length c8) 22 y8.heap.size rfl)
  have HSA : Hid (base ≤ (y8.alloc (.cells #[.slice p8 x.length c8] 22)).heap.size) := Nat.le_trans HBS.out hbA.size
  refine wpEagerU_op (by rfl) (fun K hK => oper_of_list rfl ?_)
  refine wpList_append_nx rfl _ _ 31 rfl (base := base) Tryz.underlying31 infoS rfl (by omega) (v := .slice pa v.after.length ca) rfl HOA.out rfl HXA.out (fun u hu => by rw [List.mem_singleton] at hu; subst hu; rfl) ⟨by omega, by omega⟩ HSA.out ?_
  intro p9 c9 w9 ho9 hg9 _ _
  refine only_end (Shut.out hK _ _ ((Turns.of_below hbA).trans (Turns.grown hg9 (fun k h => h)) (fun _ _ h => h)) ?_)
  clear hK K
  have hpu := HX28.out.push HL1.out HX8.out HL18.out HL28.out ho9 hg9
  obtain ⟨hp1, hp2, hr3, hr4⟩ := hpu
  have hcN : ((v.last + 1 : Nat) : Int) = (v.last : Int) + 1 := by omega
  rw [hcN] at hp1 hp2 hr4
  have HEND : Hid (VPutP base rb sb db vb d s v x w (.returned (.int .i64 0)) ((w9.setCell ⟨vb, 2, none⟩ (.int .u64 ((v.last : Int) + 1))).setCell ⟨vb, 5, none⟩ (.slice p9 (v.after.length + 1) c9))) :=
    ⟨by rw [HPE.out], by rw [HPD.out, HPV.out]; exact ⟨_, _, _, _, hp1⟩, (KV.of_kt HK2.out).trans ((KV.of_below hb8).trans hp2)⟩
  obtain ⟨-, -, hy2, -, -, -⟩ := vA_cells hr3
  have hz2 := frozen_of_row _ _ 2 _ _ hr3
  obtain ⟨-, -, -, -, -, hy5⟩ := vA_cells hr4
  have hz5 := frozen_of_row _ _ 5 _ _ hr4
  clear hp1 hp2 hr3 hr4 ho9 hg9 hcN hb8 hbA hal8 HX28 HL18 HL28 HOA HXA HSA HX8
  try simp only [Act.put, List.setIfInBounds_toArray, List.set_cons_zero, List.set_cons_succ]
  refine eagerUEnd ?_
  repeat (apply tree_take; (· rfl); (· rfl); (· (intro w' hb'; go_simp; try with_reducible rfl)); try simp only [Act.put, List.setIfInBounds_toArray, List.set_cons_zero, List.set_cons_succ])
  refine tree_one rfl (by rfl) (fun K hK => ?_)
  go_simp
  refine Shut.out hK _ _ trivial ?_
  clear hK K
  try simp only [Act.put, List.setIfInBounds_toArray, List.set_cons_zero, List.set_cons_succ]
  repeat (apply tree_take; (· rfl); (· rfl); (· (intro w' hb'; go_simp; try with_reducible rfl)); try simp only [Act.put, List.setIfInBounds_toArray, List.set_cons_zero, List.set_cons_succ])
  refine tree_one rfl (by rfl) (fun K hK => ?_)
  go_simp
  refine Shut.out hK _ _ trivial ?_
  clear hK K
  try simp only [Act.put, List.setIfInBounds_toArray, List.set_cons_zero, List.set_cons_succ]
  refine tree_nil ?_
  go_wp2_with fail
  go_ret
  exact HEND.out
end Go.Proofs.YtnejjfglkindjaaGreatDoor.Vlt

namespace Go.Proofs.YtnejjfglkindjaaGreatDoor.Vlt
open Go.RowKit Go.Mir Go.Mir.Parts Dk Rol Wr Slt Cut
open Frm (frame scan)

theorem fewj_lay : ∀ (i : Nat) (l : List LA) {d : DD} {N : Nat}, (∀ j, (fD d j).steps.length ≤ N) → ∀ j, (fD (layD i l d) j).steps.length ≤ N + l.length
  | _, [], _, _, h => h
  | i, a :: r, d, N, h => fun j => by
    unfold layD
    split
    · have := fewj_lay i r (few_stp (i := i) (a := a) h) j
      simp only [List.length_cons]; omega
    · have := few_stp (i := i) (a := a) h j
      simp only [List.length_cons]; omega
theorem fewj_put {d : DD} {s : SS} {x : List UInt8} {N : Nat} (h : ∀ j, (fD d j).steps.length ≤ N) : ∀ j, (fD (putSD d s 1 2 x) j).steps.length ≤ N + 4 := fun j => by
  unfold putSD
  split
  · have h1 := fewj_lay (nxt s 1 2) (acts d (nxt s 1 2) (wrapB s x)) h j
    have h2 : (acts d (nxt s 1 2) (wrapB s x)).length ≤ 4 := by unfold acts; split <;> simp
    omega
  · have := h j; omega
def vcR (v : VS) (x : List UInt8) : List UInt8 := be v.last 8 ++ x
def vcE (d : DD) (s : SS) (v : VS) (x : List UInt8) : Int := if x.length ≤ 60000 then (if putSE d s 1 2 (vcR v x) = 0 then clrE (putSD d s 1 2 (vcR v x)) 0 0 else putSE d s 1 2 (vcR v x)) else 1
def vcD (d : DD) (s : SS) (v : VS) (x : List UInt8) : DD := if x.length ≤ 60000 then (if putSE d s 1 2 (vcR v x) = 0 then clrD (putSD d s 1 2 (vcR v x)) 0 0 else putSD d s 1 2 (vcR v x)) else d
def vcS (d : DD) (s : SS) (v : VS) (x : List UInt8) : SS := if x.length ≤ 60000 then putSS d s 1 2 (vcR v x) else s
def vcV (d : DD) (s : SS) (v : VS) (x : List UInt8) : VS := if x.length ≤ 60000 ∧ putSE d s 1 2 (vcR v x) = 0 then ⟨v.last, true, x, []⟩ else v
def VCompP (base rb sb db vb : Nat) (d : DD) (s : SS) (v : VS) (x : List UInt8) (w : World) (e : Ending) (w' : World) : Prop := e = .returned (.int .i64 (vcE d s v x)) ∧ XV base rb sb db vb (vcD d s v x) (vcS d s v x) (vcV d s v x) w' ∧ KV base w w'
set_option maxRecDepth 100000 in
set_option maxHeartbeats 3200000 in
theorem vcomp_any {base rb sb db vb N : Nat} {d : DD} {s : SS} {v : VS} (w : World) (h : XV base rb sb db vb d s v w) (p : Option Addr) (c : Nat) (x : List UInt8) (hB : ∀ w', KS base w w' → Bs w' p x.length c x) (hx : x.length ≤ 2900) (hN : N ≤ 4398045900000) (hfew : ∀ j, (fD d j).steps.length ≤ N) :
    Calls Tryz.prog 13 #[.pointer (some ⟨vb, 0, none⟩), .slice p x.length c] w (VCompP base rb sb db vb d s v x w) := by
  have HN := Lib.hid (vnone_any w h)
  obtain ⟨pb, cb, pa, ca, h⟩ := h
  have HLT := Lib.hid h.last
  have HX := Lib.hid h
  have HB := Lib.hid hB
  have HFW := Lib.hid hfew
  have hle := (hB w (KS.refl _ _)).le
  have hmx := (hB w (KS.refl _ _)).max
  clear h hB hfew
  have d2 : decide ((60000 : Int) < (x.length : Int)) = false := decide_eq_false (by omega)
  have d2' : decide (60000 < x.length) = false := decide_eq_false (by omega)
  have HOK : Hid (x.length ≤ 60000) := by show _ ≤ _; omega
  have HC1 : Hid (∀ w', KS base w w' → w'.cell? ⟨vb, 1, none⟩ = some (.pointer (some ⟨sb, 0, none⟩))) := fun w' hk => (vA_cells (hk.row HX.out.row (by decide) (by decide) (by decide))).2.1
  have HC2 : Hid (∀ w', KS base w w' → w'.cell? ⟨vb, 2, none⟩ = some (.int .u64 (v.last : Int))) := fun w' hk => (vA_cells (hk.row HX.out.row (by decide) (by decide) (by decide))).2.2.1
  have HJ := Lib.hid (fun (y : World) (hy : KS base w y) => join_any v.last HLT.out p c x y (HB.out y hy) (by omega))
  have hRL : (be v.last 8 ++ x).length = 8 + x.length := by rw [List.length_append, be_length]
  obtain ⟨R, hR⟩ : ∃ R, be v.last 8 ++ x = R := ⟨_, rfl⟩
  rw [hR] at HJ hRL
  have HRL : Hid (R.length ≤ 3000) := by show _ ≤ _; omega
  have HRR : Hid (vcR v x = R) := hR
  clear hR hRL
  go_enter Tryz.func13, Tryz.ntmps13
  go_wp2_with fail
  refine HN.out.mono ?_
  rintro e w' ⟨rfl, rfl⟩
  go_upto_region 5 with fail
  clear d2 d2'
  refine wp_region_eager_in (KS base w) [(0, true), (1, true), (2, true), (3, true), (4, true), (5, true), (6, true), (7, true), (8, true), (9, false), (10, false), (11, true)] (by kernel_rfl) (by kernel_rfl) ?_ (eagerOpen rfl ?_)
  · exact KS.of_below (below_drew1 _ _)
  have hy0 : KS base w w.drew := KS.of_below (below_drew1 _ _)
  repeat (first
    | (first | (apply wpEager_take; (· rfl); (· (intro w' hb'; go_simp; try with_reducible rfl)); (try simp only [Act.put, List.setIfInBounds_toArray, List.set_cons_zero, List.set_cons_succ]); (try refine eagerOpen rfl ?_)) | (refine wpEager_skip (by rfl) ?_; (try simp only [Act.put, List.setIfInBounds_toArray, List.set_cons_zero, List.set_cons_succ]); (try refine eagerOpen rfl ?_)) | (refine wpEager_off (by rfl) ?_; (try simp only [Act.put, List.setIfInBounds_toArray, List.set_cons_zero, List.set_cons_succ]); (try refine eagerOpen rfl ?_)))
    | (apply wpEager_take; (· rfl); (· (intro w' hb'; have hk' := (HC1.out) w' hb'; go_split_ands; go_simp; try with_reducible rfl)); (try simp only [Act.put, List.setIfInBounds_toArray, List.set_cons_zero, List.set_cons_succ]); (try refine eagerOpen rfl ?_))
    | (apply wpEager_take; (· rfl); (· (intro w' hb'; have hk' := (HC2.out) w' hb'; go_split_ands; go_simp; try with_reducible rfl)); (try simp only [Act.put, List.setIfInBounds_toArray, List.set_cons_zero, List.set_cons_succ]); (try refine eagerOpen rfl ?_)))
  (refine wpEager_op (by rfl) (fun K hK => ?_); go_simp; (refine (HJ.out _ hy0).mono ?_; rintro e y1 ⟨p1, c1, rfl, ho1, hb1⟩; have hy1 : KS base w y1 := hy0.next hb1; have hx1 := (HX.out.below (below_drew1 _ _)).below hb1; have HO1 := Lib.hid (fun w' (hk : KT base y1 w') => own_bs (hk.own ho1 (by decide) (by decide))); clear hb1 ho1); refine Shut.out hK _ _ (by assumption) ?_; clear hK K; (try simp only [Act.put, List.setIfInBounds_toArray, List.set_cons_zero, List.set_cons_succ]); (try refine eagerOpen rfl ?_))
  (refine wpEager_op (by rfl) (fun K hK => ?_); go_simp; (refine (sput_any y1 hx1.sx (by omega) (by omega) p1 c1 R HO1.out HRL.out (by omega) HFW.out).mono ?_; rintro e y2 ⟨rfl, hsx, hk2⟩; have hy2 : KS base w y2 := hy1.trans hk2); refine Shut.out hK _ _ (by assumption) ?_; clear hK K; (try simp only [Act.put, List.setIfInBounds_toArray, List.set_cons_zero, List.set_cons_succ]); (try refine eagerOpen rfl ?_))
  repeat (first | (apply wpEager_take; (· rfl); (· (intro w' hb'; go_simp; try with_reducible rfl)); (try simp only [Act.put, List.setIfInBounds_toArray, List.set_cons_zero, List.set_cons_succ]); (try refine eagerOpen rfl ?_)) | (refine wpEager_skip (by rfl) ?_; (try simp only [Act.put, List.setIfInBounds_toArray, List.set_cons_zero, List.set_cons_succ]); (try refine eagerOpen rfl ?_)) | (refine wpEager_off (by rfl) ?_; (try simp only [Act.put, List.setIfInBounds_toArray, List.set_cons_zero, List.set_cons_succ]); (try refine eagerOpen rfl ?_)))
  refine eagerEnd ?_
  have HX2 := Lib.hid (hx1.ks hk2 hsx)
  have HK2 := Lib.hid hy2
  have HF2 := Lib.hid (fewj_put (s := s) (x := R) HFW.out)
  have HPE : Hid (vcE d s v x = if putSE d s 1 2 R = 0 then clrE (putSD d s 1 2 R) 0 0 else putSE d s 1 2 R) := by show _ = _; unfold vcE; rw [if_pos HOK.out, HRR.out]
  have HPD : Hid (vcD d s v x = if putSE d s 1 2 R = 0 then clrD (putSD d s 1 2 R) 0 0 else putSD d s 1 2 R) := by show _ = _; unfold vcD; rw [if_pos HOK.out, HRR.out]
  have HPS : Hid (vcS d s v x = putSS d s 1 2 R) := by show _ = _; unfold vcS; rw [if_pos HOK.out, HRR.out]
  have HPV : Hid (vcV d s v x = if putSE d s 1 2 R = 0 then ⟨v.last, true, x, []⟩ else v) := by
    show _ = _
    unfold vcV
    rw [HRR.out]
    by_cases he : putSE d s 1 2 R = 0
    · rw [if_pos he, if_pos ⟨HOK.out, he⟩]
    · rw [if_neg he, if_neg (fun hh => he hh.2)]
  clear hx1 hk2 hsx hy0 hy1 hy2 HC1 HC2 HJ HO1 HOK HX HN
  have HB2 := Lib.hid (HB.out y2 HK2.out)
  generalize putSE d s 1 2 R = EE at *
  generalize putSD d s 1 2 R = DD2 at *
  generalize putSS d s 1 2 R = SS2 at *
  by_cases he : EE = 0
  rotate_left
  · have q1 : (EE == 0) = false := beq_eq_false_iff_ne.2 he
    have q2 : (EE != 0) = true := bne_iff_ne.2 he
    rw [if_neg he] at HPV HPE HPD
    have HEND : Hid (VCompP base rb sb db vb d s v x w (.returned (.int .i64 EE)) y2) := ⟨by rw [HPE.out], by rw [HPD.out, HPS.out, HPV.out]; exact ⟨_, _, _, _, HX2.out⟩, KV.of_ks HK2.out⟩
    clear he
    go_wp2_with fail
    go_ret
    exact HEND.out
  have q1 : (EE == 0) = true := beq_iff_eq.2 he
  have q2 : (EE != 0) = false := by rw [bne_eq_false_iff_eq]; exact he
  rw [if_pos he] at HPV HPE HPD
  clear he
  have HBS : Hid (base ≤ y2.heap.size) := HX2.out.sx.dx.1
  go_wp2_with (at_builtin; refine wpList_append_nx rfl _ _ 22 rfl (base := base) Tryz.underlying22 info8 rfl (by omega) rfl (World.ownsRow_nil _ _ _ _) rfl HB2.out (bytesV_one _) ⟨by omega, by omega⟩ HBS.out ?_)
  intro p8 c8 y8 ho8 hg8 _ _
  have hb8 : Below y2.heap.size y2 y8 := (Below.refl _ y2).grown hg8 (Nat.le_refl _) (fun k hk => by simp [Value.ownBlock] at hk)
  have HX8 : Hid (Rd y8 base (.slice p8 x.length c8) x) := Rd.of_own (by simpa using ho8)
  have HXW8 := Lib.hid (HX2.out.below hb8)
  have r1 := HXW8.out.row
  have r2 : (y8.setCell ⟨vb, 3, none⟩ (.bool true)).heap[vb]? = some (.cells (vA rb sb ⟨v.last, true, v.body, v.after⟩ pb cb pa ca) 33 (0, 0)) := Dk.cell_put (off := 3) (.bool true) r1
  have r3 : ((y8.setCell ⟨vb, 3, none⟩ (.bool true)).setCell ⟨vb, 4, none⟩ (.slice p8 x.length c8)).heap[vb]? = some (.cells (vA rb sb ⟨v.last, true, x, v.after⟩ p8 c8 pa ca) 33 (0, 0)) := Dk.cell_put (off := 4) (.slice p8 x.length c8) r2
  have r4 : (((y8.setCell ⟨vb, 3, none⟩ (.bool true)).setCell ⟨vb, 4, none⟩ (.slice p8 x.length c8)).setCell ⟨vb, 5, none⟩ (.slice none 0 0)).heap[vb]? = some (.cells (vA rb sb ⟨v.last, true, x, []⟩ p8 c8 none 0) 33 (0, 0)) := Dk.cell_put (off := 5) (.slice none 0 0) r3
  obtain ⟨-, -, -, hy3, -, -⟩ := vA_cells r1
  have hz3 := frozen_of_row _ _ 3 _ _ r1
  obtain ⟨-, -, -, -, hy4, -⟩ := vA_cells r2
  have hz4 := frozen_of_row _ _ 4 _ _ r2
  obtain ⟨-, -, -, -, -, hy5⟩ := vA_cells r3
  have hz5 := frozen_of_row _ _ 5 _ _ r3
  obtain ⟨hy0, -⟩ := vA_cells r4
  have hT : Turns (fun k => k = vb) y8 (((y8.setCell ⟨vb, 3, none⟩ (.bool true)).setCell ⟨vb, 4, none⟩ (.slice p8 x.length c8)).setCell ⟨vb, 5, none⟩ (.slice none 0 0)) :=
    (((Turns.refl (fun k => k = vb) y8).setCell (p := ⟨vb, 3, none⟩) (fun _ => rfl) _).setCell (p := ⟨vb, 4, none⟩) (fun _ => rfl) _).setCell (p := ⟨vb, 5, none⟩) (fun _ => rfl) _
  have hv8 : ∀ k M fr, y8.heap[k]? = some (.cells M 5 fr) → ¬ k = vb := fun k M fr hm e => by
    rw [e, r1] at hm
    injection hm with e1
    injection e1 with _ e2
    exact absurd e2 (by decide)
  have HXZ : Hid (XW base rb sb db vb DD2 SS2 ⟨v.last, true, x, []⟩ p8 c8 none 0 (((y8.setCell ⟨vb, 3, none⟩ (.bool true)).setCell ⟨vb, 4, none⟩ (.slice p8 x.length c8)).setCell ⟨vb, 5, none⟩ (.slice none 0 0))) :=
    HXW8.out.put hT (fun k hk => .inl hk) HLT.out r4 (HX8.out.touch hT hv8) (LsO.nil _ _)
  have HKZ : Hid (KV base w (((y8.setCell ⟨vb, 3, none⟩ (.bool true)).setCell ⟨vb, 4, none⟩ (.slice p8 x.length c8)).setCell ⟨vb, 5, none⟩ (.slice none 0 0))) := ((KV.of_ks HK2.out).next hb8).trans (HXW8.out.kv hT (fun k hk => .inl hk))
  clear r1 r2 r3 r4 hT hv8 hb8 ho8 hg8 HX8 HXW8 HX2 HK2 HBS
  go_upto_region 9 with fail
  generalize ((y8.setCell ⟨vb, 3, none⟩ (.bool true)).setCell ⟨vb, 4, none⟩ (.slice p8 x.length c8)).setCell ⟨vb, 5, none⟩ (.slice none 0 0) = Z at *
  have HCL := Lib.hid (clear_any Z HXZ.out.sx.dx HXZ.out.rol (by omega) (by have := HF2.out 0; omega))
  clear hy3 hz3 hy4 hz4 hy5 hz5
  go_wp2_with fail
  refine HCL.out.mono ?_
  rintro e y9 ⟨rfl, hdx, hk9⟩
  have HEND : Hid (VCompP base rb sb db vb d s v x w (.returned (.int .i64 (clrE DD2 0 0))) y9) := ⟨by rw [HPE.out], by rw [HPD.out, HPS.out, HPV.out]; exact ⟨_, _, _, _, HXZ.out.kt hk9 hdx⟩, HKZ.out.trans (KV.of_kt hk9)⟩
  clear hdx hk9
  go_wp2_with fail
  go_ret
  exact HEND.out
end Go.Proofs.YtnejjfglkindjaaGreatDoor.Vlt

namespace Go.Proofs.YtnejjfglkindjaaGreatDoor.Slt
open Go.RowKit Go.Mir Dk Rol Wr
open Frm (frame one frame_length one_frame0 one_torn)

/-- the same files, another fuse -/
def wF (d : DD) (fz : Nat) (dn : Bool) : DD := ⟨d.fs, d.room, fz, dn⟩
theorem do_fz {d : DD} {i : Nat} {f : FD} {s : St} (h1 : d.down = false) (h : usedL d.fs - f.need + max f.need (s.size f.now.length) ≤ d.room) :
    (doE d i f s = 0 ∧ doD d i f s = wF (setF d i (f.take s)) (d.fuse - 1) false) ∨ (doE d i f s = 18 ∧ doD d i f s = wF (setF d i (f.take s)) 0 true) := by
  obtain ⟨fs, room, fuse, down⟩ := d
  have h1 : down = false := h1
  subst h1
  unfold doE doD
  rw [if_neg (show ¬ (DD.mk fs room fuse false).down = true from Bool.false_ne_true), if_neg (Nat.not_lt.2 h), if_neg (show ¬ (DD.mk fs room fuse false).down = true from Bool.false_ne_true), if_neg (Nat.not_lt.2 h)]
  unfold DD.burn setF wF
  dsimp only
  by_cases h0 : 0 < fuse
  · rw [if_pos h0]
    by_cases h2 : fuse = 1
    · subst h2; exact .inr ⟨rfl, rfl⟩
    · rw [decide_eq_false h2]; exact .inl ⟨rfl, rfl⟩
  · obtain rfl : fuse = 0 := by omega
    exact .inl ⟨rfl, rfl⟩
theorem sync_fz {d : DD} {i : Nat} {f : FD} (h1 : d.down = false) :
    (syncE d = 0 ∧ syncD d i f = wF (setF d i (f.settle (unitsAll f.steps))) (d.fuse - 1) false) ∨ (syncE d = 18 ∧ syncD d i f = wF d 0 true) := by
  obtain ⟨fs, room, fuse, down⟩ := d
  have h1 : down = false := h1
  subst h1
  unfold syncE syncD
  rw [if_neg (show ¬ (DD.mk fs room fuse false).down = true from Bool.false_ne_true), if_neg (show ¬ (DD.mk fs room fuse false).down = true from Bool.false_ne_true)]
  unfold DD.burn setF wF
  dsimp only
  by_cases h0 : 0 < fuse
  · rw [if_pos h0]
    by_cases h2 : fuse = 1
    · subst h2; exact .inr ⟨rfl, rfl⟩
    · rw [decide_eq_false h2]; exact .inl ⟨rfl, rfl⟩
  · obtain rfl : fuse = 0 := by omega
    exact .inl ⟨rfl, rfl⟩
theorem lay_nil (i : Nat) (d : DD) : layD i [] d = d := rfl
theorem wF_wF (d : DD) (a b : Nat) (x y : Bool) : wF (wF d a x) b y = wF d b y := rfl
theorem setF_wF (d : DD) (a : Nat) (x : Bool) (i : Nat) (f : FD) : setF (wF d a x) i f = wF (setF d i f) a x := rfl
theorem fD_wF (d : DD) (a : Nat) (x : Bool) (i : Nat) : fD (wF d a x) i = fD d i := rfl
/-- how a file stands in which the disk went down -/
def Torn (y fr : List UInt8) (g : FD) : Prop := g = ⟨y, [], [.cut 0], y.length⟩ ∨ g = ⟨[], fr, [.put fr], fr.length⟩
theorem put2_fz {d : DD} {i : Nat} {fr : List UInt8} (hi : i < d.fs.length) (h1 : d.down = false) (hf : fD d i = fS []) (hr : usedL d.fs + fr.length ≤ d.room) :
    (∃ k, layE i [.put fr, .sync] d = 0 ∧ layD i [.put fr, .sync] d = wF (setF d i (fS fr)) k false) ∨ (layE i [.put fr, .sync] d = 18 ∧ layD i [.put fr, .sync] d = wF (setF d i ⟨[], fr, [.put fr], fr.length⟩) 0 true) := by
  have ht : (fS []).take (.put fr) = ⟨[], fr, [.put fr], fr.length⟩ := by rw [take_put, List.nil_append, List.length_nil, Nat.zero_add]
  have hst : (⟨[], fr, [.put fr], fr.length⟩ : FD).settle (unitsAll [.put fr]) = fS fr := by
    have := settle_put [] fr fr.length
    rwa [List.nil_append] at this
  rcases do_fz (i := i) (f := fD d i) (s := .put fr) h1 (by rw [hf]; show usedL d.fs - 0 + max 0 (0 + fr.length) ≤ _; omega) with ⟨e1, e2⟩ | ⟨e1, e2⟩
  · rw [hf, ht] at e2
    have e1' : stpE d i (.put fr) = 0 := e1
    have e2' : stpD d i (.put fr) = wF (setF d i ⟨[], fr, [.put fr], fr.length⟩) (d.fuse - 1) false := by
      show doD d i (fD d i) (.put fr) = _
      rw [hf]; exact e2
    obtain ⟨c1, c2⟩ := lay_ok (r := [.sync]) e1'
    rw [c1, c2, e2']
    have hfd : fD (wF (setF d i ⟨[], fr, [.put fr], fr.length⟩) (d.fuse - 1) false) i = ⟨[], fr, [.put fr], fr.length⟩ := fD_set hi _
    rcases sync_fz (d := wF (setF d i ⟨[], fr, [.put fr], fr.length⟩) (d.fuse - 1) false) (i := i) (f := ⟨[], fr, [.put fr], fr.length⟩) rfl with ⟨g1, g2⟩ | ⟨g1, g2⟩
    · rw [hst, setF_wF, setF_setF, wF_wF] at g2
      obtain ⟨k1, k2⟩ := lay_ok (i := i) (a := .sync) (r := []) (d := wF (setF d i ⟨[], fr, [.put fr], fr.length⟩) (d.fuse - 1) false) g1
      rw [k1, k2]
      refine .inl ⟨d.fuse - 1 - 1, rfl, ?_⟩
      rw [lay_nil]
      show syncD _ i (fD _ i) = _
      rw [hfd]; exact g2
    · rw [wF_wF] at g2
      have hne : ¬ stpE (wF (setF d i ⟨[], fr, [.put fr], fr.length⟩) (d.fuse - 1) false) i .sync = 0 := by
        show ¬ syncE _ = 0
        rw [g1]; decide
      obtain ⟨k1, k2⟩ := lay_no (r := []) hne
      rw [k1, k2]
      refine .inr ⟨g1, ?_⟩
      show syncD _ i (fD _ i) = _
      rw [hfd]; exact g2
  · rw [hf, ht] at e2
    have hne : ¬ stpE d i (.put fr) = 0 := by
      show ¬ doE d i (fD d i) (.put fr) = 0
      rw [e1]; decide
    obtain ⟨c1, c2⟩ := lay_no (r := [.sync]) hne
    rw [c1, c2]
    refine .inr ⟨e1, ?_⟩
    show doD d i (fD d i) (.put fr) = _
    rw [hf]; exact e2
theorem lay_fz {d : DD} {i : Nat} {y fr : List UInt8} (hi : i < d.fs.length) (h1 : d.down = false) (hf : fD d i = fS y) (hr : usedL d.fs + fr.length ≤ d.room) :
    (∃ k, layE i (acts d i fr) d = 0 ∧ layD i (acts d i fr) d = wF (setF d i (fS fr)) k false) ∨ (layE i (acts d i fr) d = 18 ∧ ∃ g, Torn y fr g ∧ layD i (acts d i fr) d = wF (setF d i g) 0 true) := by
  have hm := usedL_mem hi
  rw [fD_eq hi, hf] at hm
  have hm : y.length ≤ usedL d.fs := hm
  unfold acts
  by_cases hfu : full d i = true
  · rw [if_pos hfu]
    have ht : (fS y).take (.cut 0) = ⟨y, [], [.cut 0], y.length⟩ := by rw [take_cut y 0 (Nat.zero_le _), List.take_zero]
    have hst : (⟨y, [], [.cut 0], y.length⟩ : FD).settle (unitsAll [.cut 0]) = fS [] := by
      have := settle_cut y 0 y.length
      rwa [List.take_zero] at this
    rcases do_fz (i := i) (f := fD d i) (s := .cut 0) h1 (by rw [hf]; show usedL d.fs - y.length + max y.length 0 ≤ _; omega) with ⟨e1, e2⟩ | ⟨e1, e2⟩
    · rw [hf, ht] at e2
      have e1' : stpE d i .cut = 0 := e1
      have e2' : stpD d i .cut = wF (setF d i ⟨y, [], [.cut 0], y.length⟩) (d.fuse - 1) false := by
        show doD d i (fD d i) (.cut 0) = _
        rw [hf]; exact e2
      obtain ⟨c1, c2⟩ := lay_ok (r := [.sync, .put fr, .sync]) e1'
      rw [c1, c2, e2']
      have hfd : fD (wF (setF d i ⟨y, [], [.cut 0], y.length⟩) (d.fuse - 1) false) i = ⟨y, [], [.cut 0], y.length⟩ := fD_set hi _
      rcases sync_fz (d := wF (setF d i ⟨y, [], [.cut 0], y.length⟩) (d.fuse - 1) false) (i := i) (f := ⟨y, [], [.cut 0], y.length⟩) rfl with ⟨g1, g2⟩ | ⟨g1, g2⟩
      · rw [hst, setF_wF, setF_setF, wF_wF] at g2
        have g2' : stpD (wF (setF d i ⟨y, [], [.cut 0], y.length⟩) (d.fuse - 1) false) i .sync = wF (setF d i (fS [])) (d.fuse - 1 - 1) false := by
          show syncD _ i (fD _ i) = _
          rw [hfd]; exact g2
        obtain ⟨k1, k2⟩ := lay_ok (i := i) (a := .sync) (r := [.put fr, .sync]) (d := wF (setF d i ⟨y, [], [.cut 0], y.length⟩) (d.fuse - 1) false) g1
        rw [k1, k2, g2']
        have hu := used_setF hi (fS [])
        have hz : (fS []).need = 0 := rfl
        have hl : (wF (setF d i (fS [])) (d.fuse - 1 - 1) false).fs.length = d.fs.length := List.length_set
        have := put2_fz (d := wF (setF d i (fS [])) (d.fuse - 1 - 1) false) (i := i) (fr := fr) (by rw [hl]; exact hi) rfl (fD_set hi _) (by show usedL (setF d i (fS [])).fs + _ ≤ d.room; omega)
        rw [setF_wF, setF_setF, setF_wF, setF_setF] at this
        rcases this with ⟨k, a, b⟩ | ⟨a, b⟩
        · exact .inl ⟨k, a, b⟩
        · exact .inr ⟨a, _, .inr rfl, b⟩
      · rw [wF_wF] at g2
        have hne : ¬ stpE (wF (setF d i ⟨y, [], [.cut 0], y.length⟩) (d.fuse - 1) false) i .sync = 0 := by
          show ¬ syncE _ = 0
          rw [g1]; decide
        obtain ⟨k1, k2⟩ := lay_no (r := [.put fr, .sync]) hne
        rw [k1, k2]
        refine .inr ⟨g1, _, .inl rfl, ?_⟩
        show syncD _ i (fD _ i) = _
        rw [hfd]; exact g2
    · rw [hf, ht] at e2
      have hne : ¬ stpE d i .cut = 0 := by
        show ¬ doE d i (fD d i) (.cut 0) = 0
        rw [e1]; decide
      obtain ⟨c1, c2⟩ := lay_no (r := [.sync, .put fr, .sync]) hne
      rw [c1, c2]
      refine .inr ⟨e1, _, .inl rfl, ?_⟩
      show doD d i (fD d i) (.cut 0) = _
      rw [hf]; exact e2
  · rw [if_neg hfu]
    have hn0 : y = [] := by
      refine List.length_eq_zero_iff.1 (Nat.eq_zero_of_not_pos fun h => hfu ?_)
      unfold full
      rw [hf, decide_eq_true (show 0 < (fS y).now.length from h)]
      rfl
    subst hn0
    rcases put2_fz hi h1 hf hr with ⟨k, a, b⟩ | ⟨a, b⟩
    · exact .inl ⟨k, a, b⟩
    · exact .inr ⟨a, _, .inr rfl, b⟩
theorem lay_dn {d : DD} {i : Nat} {fr : List UInt8} (h1 : d.down = true) : layE i (acts d i fr) d = 18 ∧ layD i (acts d i fr) d = d := by
  have h18 : ¬ (18 : Int) = 0 := by decide
  unfold acts
  split
  · obtain ⟨a, b⟩ := do_dn (i := i) (f := fD d i) (s := .cut 0) h1
    have hne : ¬ stpE d i .cut = 0 := by show ¬ doE _ _ _ _ = 0; rw [b]; exact h18
    obtain ⟨c1, c2⟩ := lay_no (r := [.sync, .put fr, .sync]) hne
    rw [c1, c2]; exact ⟨b, a⟩
  · obtain ⟨a, b⟩ := do_dn (i := i) (f := fD d i) (s := .put fr) h1
    have hne : ¬ stpE d i (.put fr) = 0 := by show ¬ doE _ _ _ _ = 0; rw [b]; exact h18
    obtain ⟨c1, c2⟩ := lay_no (r := [.sync]) hne
    rw [c1, c2]; exact ⟨b, a⟩
/-! ### which snapshot is told -/
def opS (y1 y2 : List UInt8) : SS := bet (bet ⟨-1, 0, []⟩ 1 y1) 2 y2
theorem opnS_is (d : DD) : opnS d 1 2 = opS (fD d 1).now (fD d 2).now := rfl
/-- of these contents s is told -/
structure Cur (y1 y2 : List UInt8) (s : SS) : Prop where
  how : (s = ⟨-1, 0, []⟩ ∧ (loadP y1).1 = 0 ∧ (loadP y2).1 = 0) ∨ (s.now = 1 ∧ 1 ≤ s.turn ∧ loadP y1 = (s.turn, s.body) ∧ (loadP y2).1 < s.turn) ∨ (s.now = 2 ∧ 1 ≤ s.turn ∧ loadP y2 = (s.turn, s.body) ∧ (loadP y1).1 < s.turn)
theorem bet_no {s : SS} {f : Nat} {l : List UInt8} (h : (loadP l).1 ≤ s.turn) : bet s f l = s := if_neg (by omega)
theorem Cur.op {y1 y2 : List UInt8} {s : SS} (h : Cur y1 y2 s) : opS y1 y2 = s := by
  obtain ⟨now, turn, body⟩ := s
  unfold opS
  rcases h.how with ⟨e, a, b⟩ | ⟨e, h1, a, b⟩ | ⟨e, h1, a, b⟩
  · rw [bet_no (s := ⟨-1, 0, []⟩) (f := 1) (l := y1) (by rw [a]; exact Nat.zero_le _), bet_no (by rw [b]; exact Nat.zero_le _), e]
  · have e : now = 1 := e
    have a : loadP y1 = (turn, body) := a
    subst e
    have h2 : bet ⟨-1, 0, []⟩ 1 y1 = ⟨1, turn, body⟩ := by unfold bet; rw [a]; exact if_pos h1
    rw [h2]
    exact bet_no (Nat.le_of_lt b)
  · have e : now = 2 := e
    have a : loadP y2 = (turn, body) := a
    have b : (loadP y1).1 < turn := b
    subst e
    have h2 : (bet ⟨-1, 0, []⟩ 1 y1).turn < turn := by
      unfold bet
      split
      · exact b
      · exact h1
    unfold bet at h2 ⊢
    rw [a]
    exact if_pos h2
/-- the file that is not current holds another content that tells no turn -/
theorem Cur.other {y1 y2 : List UInt8} {s : SS} (h : Cur y1 y2 s) (z : List UInt8) (hz : (loadP z).1 = 0) : (nxt s 1 2 = 1 ∧ Cur z y2 s) ∨ (nxt s 1 2 = 2 ∧ Cur y1 z s) := by
  obtain ⟨now, turn, body⟩ := s
  rcases h.how with ⟨e, a, b⟩ | ⟨e, h1, a, b⟩ | ⟨e, h1, a, b⟩
  · refine .inl ⟨?_, ⟨.inl ⟨e, hz, b⟩⟩⟩
    rw [e]; rfl
  · have e : now = 1 := e
    subst e
    exact .inr ⟨rfl, ⟨.inr (.inl ⟨rfl, h1, a, by rw [hz]; exact h1⟩)⟩⟩
  · have e : now = 2 := e
    subst e
    exact .inl ⟨rfl, ⟨.inr (.inr ⟨rfl, h1, a, by rw [hz]; exact h1⟩)⟩⟩
/-- it holds the next snapshot -/
theorem Cur.next {y1 y2 : List UInt8} {s : SS} (h : Cur y1 y2 s) (x : List UInt8) (hx : x.length ≤ 65528) (ht : s.turn + 1 < 18446744073709551616) :
    (nxt s 1 2 = 1 ∧ Cur (wrapB s x) y2 ⟨1, s.turn + 1, x⟩) ∨ (nxt s 1 2 = 2 ∧ Cur y1 (wrapB s x) ⟨2, s.turn + 1, x⟩) := by
  have hl : loadP (wrapB s x) = (s.turn + 1, x) := load_frame _ _ ht hx
  obtain ⟨now, turn, body⟩ := s
  rcases h.how with ⟨e, a, b⟩ | ⟨e, h1, a, b⟩ | ⟨e, h1, a, b⟩
  · refine .inl ⟨by rw [e]; rfl, ⟨.inr (.inl ⟨rfl, by show 1 ≤ turn + 1; omega, hl, by show _ < turn + 1; omega⟩)⟩⟩
  · have e : now = 1 := e
    subst e
    exact .inr ⟨rfl, ⟨.inr (.inr ⟨rfl, by show 1 ≤ turn + 1; omega, hl, by rw [a]; show turn < turn + 1; omega⟩)⟩⟩
  · have e : now = 2 := e
    subst e
    exact .inl ⟨rfl, ⟨.inr (.inl ⟨rfl, by show 1 ≤ turn + 1; omega, hl, by rw [a]; show turn < turn + 1; omega⟩)⟩⟩
/-! ### the disk of two files -/
structure Up (d : DD) (y1 y2 : List UInt8) (s : SS) : Prop where
  m3 : d.fs.length = 3
  room : d.room = 65536
  f0 : fD d 0 = FD.none
  f1 : fD d 1 = fS y1
  f2 : fD d 2 = fS y2
  cur : Cur y1 y2 s
theorem used3 {d : DD} (h : d.fs.length = 3) : usedL d.fs = (fD d 0).need + (fD d 1).need + (fD d 2).need := by
  obtain ⟨fs, room, fuse, down⟩ := d
  obtain ⟨a, b, c, rfl⟩ := list3 h
  show a.need + (b.need + (c.need + 0)) = a.need + b.need + c.need
  omega
theorem Up.used {d : DD} {y1 y2 : List UInt8} {s : SS} (h : Up d y1 y2 s) : usedL d.fs = y1.length + y2.length := by
  rw [used3 h.m3, h.f0, h.f1, h.f2]
  show 0 + y1.length + y2.length = _
  omega
theorem Up.wF {d : DD} {y1 y2 : List UInt8} {s : SS} (h : Up d y1 y2 s) (k : Nat) (x : Bool) : Up (wF d k x) y1 y2 s := ⟨h.m3, h.room, h.f0, h.f1, h.f2, h.cur⟩
theorem wrapB_len (s : SS) (x : List UInt8) : (wrapB s x).length = 16 + x.length := by unfold wrapB; rw [frame_length, List.length_append, be_length]; omega
/-- how the disk stands when it went down while a snapshot was put -/
structure Dn (d : DD) (s : SS) (x : List UInt8) : Prop where
  down : d.down = true
  was : ∃ d0 y1 y2 g, Up d0 y1 y2 s ∧ d = Slt.wF (setF d0 (nxt s 1 2) g) 0 true ∧ Torn (if nxt s 1 2 = 1 then y1 else y2) (wrapB s x) g ∧ y1.length ≤ 2000 ∧ y2.length ≤ 2000
theorem nxt12 (s : SS) : nxt s 1 2 = 1 ∨ nxt s 1 2 = 2 := by unfold nxt; split; exact .inr rfl; exact .inl rfl
/-- a snapshot put: it is there, or the disk went down -/
theorem put_keeps {d : DD} {y1 y2 : List UInt8} {s : SS} {x : List UInt8} (h : Up d y1 y2 s) (h1 : d.down = false) (l1 : y1.length ≤ 2000) (l2 : y2.length ≤ 2000) (hx : x.length ≤ 1000) (ht : s.turn + 1 < 18446744073709551616) :
    (putSE d s 1 2 x = 0 ∧ (∃ z1 z2, Up (putSD d s 1 2 x) z1 z2 (putSS d s 1 2 x) ∧ z1.length ≤ 2000 ∧ z2.length ≤ 2000) ∧ (putSD d s 1 2 x).down = false ∧ (putSS d s 1 2 x).turn = s.turn + 1 ∧ (putSS d s 1 2 x).body = x) ∨
    (putSE d s 1 2 x = 18 ∧ Dn (putSD d s 1 2 x) s x ∧ putSS d s 1 2 x = s) := by
  have hf : fits s x = true := by unfold fits; rw [decide_eq_true (by omega), decide_eq_true ht]; rfl
  have hw := wrapB_len s x
  have hu := h.used
  have hi : nxt s 1 2 < d.fs.length := by rcases nxt12 s with e | e <;> rw [e, h.m3] <;> omega
  have hfi : fD d (nxt s 1 2) = fS (if nxt s 1 2 = 1 then y1 else y2) := by
    rcases nxt12 s with e | e
    · rw [e]; exact h.f1
    · rw [e]; exact h.f2
  unfold putSE putSD putSS
  rw [if_pos hf, if_pos hf]
  rcases lay_fz hi h1 hfi (fr := wrapB s x) (by rw [h.room]; omega) with ⟨k, e1, e2⟩ | ⟨e1, g, hg, e2⟩
  · refine .inl ⟨e1, ?_, by rw [e2]; rfl, by rw [if_pos ⟨hf, e1⟩], by rw [if_pos ⟨hf, e1⟩]⟩
    rw [if_pos ⟨hf, e1⟩, e2]
    rcases h.cur.next x (by omega) ht with ⟨e, c⟩ | ⟨e, c⟩
    · rw [e] at hi ⊢
      exact ⟨wrapB s x, y2, ⟨by show (List.set _ _ _).length = 3; rw [List.length_set]; exact h.m3, h.room, by rw [fD_wF, fD_other (by omega)]; exact h.f0, by rw [fD_wF]; exact fD_set hi _, by rw [fD_wF, fD_other (by omega)]; exact h.f2, c⟩, by omega, l2⟩
    · rw [e] at hi ⊢
      exact ⟨y1, wrapB s x, ⟨by show (List.set _ _ _).length = 3; rw [List.length_set]; exact h.m3, h.room, by rw [fD_wF, fD_other (by omega)]; exact h.f0, by rw [fD_wF, fD_other (by omega)]; exact h.f1, by rw [fD_wF]; exact fD_set hi _, c⟩, l1, by omega⟩
  · refine .inr ⟨e1, ⟨by rw [e2]; rfl, d, y1, y2, g, h, e2, hg, l1, l2⟩, ?_⟩
    rw [if_neg (fun hh => by rw [e1] at hh; exact absurd hh.2 (by decide))]
/-- a snapshot put on a disk that is down -/
theorem put_down {d : DD} {s : SS} {x : List UInt8} (h1 : d.down = true) (hx : x.length ≤ 1000) (ht : s.turn + 1 < 18446744073709551616) : putSE d s 1 2 x = 18 ∧ putSD d s 1 2 x = d ∧ putSS d s 1 2 x = s := by
  have hf : fits s x = true := by unfold fits; rw [decide_eq_true (by omega), decide_eq_true ht]; rfl
  obtain ⟨e1, e2⟩ := lay_dn (i := nxt s 1 2) (fr := wrapB s x) h1
  unfold putSE putSD putSS
  rw [if_pos hf, if_pos hf, if_neg (fun hh => by rw [e1] at hh; exact absurd hh.2 (by decide))]
  exact ⟨e1, e2, rfl⟩
/-! ### a crash -/
theorem fD_crash {us : List Int} {d : DD} (h : d.fs.length = 3) (k : Nat) (hk : k < 3) : fD (crashD us d) k = (fD d k).settle (crU us k (fD d k)) := by
  obtain ⟨fs, room, fuse, down⟩ := d
  obtain ⟨a, b, c, rfl⟩ := list3 h
  match k, hk with
  | 0, _ => rfl
  | 1, _ => rfl
  | 2, _ => rfl
theorem settle_fS (y : List UInt8) (u : Nat) : (fS y).settle u = fS y := rfl
theorem torn_settle {y fr : List UInt8} {g : FD} (h : Torn y fr g) (u : Nat) (hu : u ≤ unitsAll g.steps) : ∃ z, g.settle u = fS z ∧ (z = y ∨ z = [] ∨ ∃ k, k ≤ fr.length ∧ z = fr.take k) := by
  rcases h with rfl | rfl
  · refine ⟨someU y [.cut 0] u, rfl, ?_⟩
    show (if min u 1 = 0 then y else y.take 0) = y ∨ (if min u 1 = 0 then y else y.take 0) = [] ∨ _
    split
    · exact .inl rfl
    · exact .inr (.inl List.take_zero)
  · have hu : u ≤ fr.length + 0 := hu
    have e : someU [] [.put fr] u = fr.take u := by
      show (St.put fr).act [] (min u fr.length) = _
      rw [Nat.min_eq_left (by omega)]; rfl
    refine ⟨fr.take u, ?_, .inr (.inr ⟨u, by omega, rfl⟩)⟩
    show (⟨someU [] _ _, someU [] _ _, [], (someU [] _ _).length⟩ : FD) = _
    rw [e]; rfl
theorem Up.crash {d : DD} {y1 y2 : List UInt8} {s : SS} (h : Up d y1 y2 s) (us : List Int) : Up (crashD us d) y1 y2 s := by
  have e0 := fD_crash (us := us) h.m3 0 (by omega)
  have e1 := fD_crash (us := us) h.m3 1 (by omega)
  have e2 := fD_crash (us := us) h.m3 2 (by omega)
  rw [h.f0] at e0
  rw [h.f1, settle_fS] at e1
  rw [h.f2, settle_fS] at e2
  refine ⟨?_, h.room, e0, e1, e2, h.cur⟩
  obtain ⟨fs, room, fuse, down⟩ := d
  obtain ⟨a, b, c, rfl⟩ := list3 h.m3
  rfl
theorem Up.told {d : DD} {y1 y2 : List UInt8} {s : SS} (h : Up d y1 y2 s) : opnS d 1 2 = s := by
  rw [opnS_is, h.f1, h.f2]
  exact h.cur.op
/-- what is told behind a crash, of a disk that went down while a snapshot was put: the old one, or that one -/
theorem Dn.crash {d : DD} {s : SS} {x : List UInt8} (h : Dn d s x) (hx : x.length ≤ 1000) (ht : s.turn + 1 < 18446744073709551616) (us : List Int) :
    ∃ z1 z2 s', Up (crashD us d) z1 z2 s' ∧ z1.length ≤ 2000 ∧ z2.length ≤ 2000 ∧ (s' = s ∨ (s'.turn = s.turn + 1 ∧ s'.body = x)) := by
  obtain ⟨d0, y1, y2, g, hu, rfl, hg, l1, l2⟩ := h.was
  have hw := wrapB_len s x
  have hm : (Slt.wF (setF d0 (nxt s 1 2) g) 0 true).fs.length = 3 := by show (List.set _ _ _).length = 3; rw [List.length_set]; exact hu.m3
  have e0 := fD_crash (us := us) hm 0 (by omega)
  have e1 := fD_crash (us := us) hm 1 (by omega)
  have e2 := fD_crash (us := us) hm 2 (by omega)
  have hm3 : (crashD us (Slt.wF (setF d0 (nxt s 1 2) g) 0 true)).fs.length = 3 := by
    generalize Slt.wF (setF d0 (nxt s 1 2) g) 0 true = D at hm
    obtain ⟨fs, room, fuse, down⟩ := D
    obtain ⟨a, b, c, rfl⟩ := list3 hm
    rfl
  have hi : nxt s 1 2 < d0.fs.length := by rcases nxt12 s with e | e <;> rw [e, hu.m3] <;> omega
  have hroom : (crashD us (Slt.wF (setF d0 (nxt s 1 2) g) 0 true)).room = 65536 := hu.room
  have hz0 : ∀ k, k < (wrapB s x).length → (loadP ((wrapB s x).take k)).1 = 0 := fun k hk => by
    have := load_torn (s.turn + 1) x (by omega) k (by omega)
    unfold wrapB
    rw [this]
  rcases nxt12 s with e | e
  · rw [e] at hi hg e0 e1 e2 hm3 hroom ⊢
    rw [fD_wF, fD_other (by omega), hu.f0] at e0
    rw [fD_wF, fD_other (by omega), hu.f2, settle_fS] at e2
    rw [fD_wF, fD_set hi] at e1
    obtain ⟨z, hz, hc⟩ := torn_settle hg _ (crU_le (us := us) (k := 1) (f := g))
    rw [hz] at e1
    rw [if_pos rfl] at hc
    have mk : ∀ s', Cur z y2 s' → Up (crashD us (Slt.wF (setF d0 1 g) 0 true)) z y2 s' := fun s' c => ⟨hm3, hroom, e0, e1, e2, c⟩
    rcases hc with rfl | rfl | ⟨k, hk, rfl⟩
    · exact ⟨_, _, s, mk _ hu.cur, l1, l2, .inl rfl⟩
    · rcases hu.cur.other [] rfl with ⟨_, c⟩ | ⟨q, _⟩
      · exact ⟨_, _, s, mk _ c, by simp, l2, .inl rfl⟩
      · rw [e] at q; exact absurd q (by decide)
    · have hlk : ((wrapB s x).take k).length ≤ 2000 := by rw [List.length_take]; omega
      by_cases hkl : k < (wrapB s x).length
      · rcases hu.cur.other _ (hz0 k hkl) with ⟨_, c⟩ | ⟨q, _⟩
        · exact ⟨_, _, s, mk _ c, hlk, l2, .inl rfl⟩
        · rw [e] at q; exact absurd q (by decide)
      · have hall : (wrapB s x).take k = wrapB s x := List.take_of_length_le (by omega)
        rw [hall] at mk hlk
        rcases hu.cur.next x (by omega) ht with ⟨_, c⟩ | ⟨q, _⟩
        · exact ⟨_, _, _, mk _ c, hlk, l2, .inr ⟨rfl, rfl⟩⟩
        · rw [e] at q; exact absurd q (by decide)
  · rw [e] at hi hg e0 e1 e2 hm3 hroom ⊢
    rw [fD_wF, fD_other (by omega), hu.f0] at e0
    rw [fD_wF, fD_other (by omega), hu.f1, settle_fS] at e1
    rw [fD_wF, fD_set hi] at e2
    obtain ⟨z, hz, hc⟩ := torn_settle hg _ (crU_le (us := us) (k := 2) (f := g))
    rw [hz] at e2
    rw [if_neg (by decide)] at hc
    have mk : ∀ s', Cur y1 z s' → Up (crashD us (Slt.wF (setF d0 2 g) 0 true)) y1 z s' := fun s' c => ⟨hm3, hroom, e0, e1, e2, c⟩
    rcases hc with rfl | rfl | ⟨k, hk, rfl⟩
    · exact ⟨_, _, s, mk _ hu.cur, l1, l2, .inl rfl⟩
    · rcases hu.cur.other [] rfl with ⟨q, _⟩ | ⟨_, c⟩
      · rw [e] at q; exact absurd q (by decide)
      · exact ⟨_, _, s, mk _ c, l1, by simp, .inl rfl⟩
    · have hlk : ((wrapB s x).take k).length ≤ 2000 := by rw [List.length_take]; omega
      by_cases hkl : k < (wrapB s x).length
      · rcases hu.cur.other _ (hz0 k hkl) with ⟨q, _⟩ | ⟨_, c⟩
        · rw [e] at q; exact absurd q (by decide)
        · exact ⟨_, _, s, mk _ c, l1, hlk, .inl rfl⟩
      · have hall : (wrapB s x).take k = wrapB s x := List.take_of_length_le (by omega)
        rw [hall] at mk hlk
        rcases hu.cur.next x (by omega) ht with ⟨q, _⟩ | ⟨_, c⟩
        · rw [e] at q; exact absurd q (by decide)
        · exact ⟨_, _, _, mk _ c, l1, hlk, .inr ⟨rfl, rfl⟩⟩
end Go.Proofs.YtnejjfglkindjaaGreatDoor.Slt

namespace Go.Proofs.YtnejjfglkindjaaGreatDoor.Slt
open Go.RowKit Go.Mir Go.Mir.Parts Dk Rol Wr
open Frm (frame)

theorem snew (room : Nat) (w : World) (h : 1 ≤ room ∧ room ≤ 65536) :
    Calls Tryz.prog 16 #[.int .i64 (room : Int)] w fun e w' => ∃ db, e = .returned (.tuple #[.pointer (some ⟨db, 0, none⟩), .int .i64 0]) ∧ DX w.heap.size db (DD.new room) w' ∧ Below w.heap.size w w' := by
  refine (new_any room w h).mono ?_
  rintro e w' ⟨db, vs, he, hd, hb⟩
  exact ⟨db, he, ⟨hb.size, vs, hd⟩, hb⟩
theorem sarm {base db : Nat} {d : DD} (w : World) (h : DX base db d w) (n : Int) (hn : n ≤ 9223372036854775807) :
    Calls Tryz.prog 17 #[.pointer (some ⟨db, 0, none⟩), .int .i64 n] w fun e w' => e = .returned (.tuple #[]) ∧ DX base db ⟨d.fs, d.room, n.toNat, d.down⟩ w' ∧ KT base w w' := by
  obtain ⟨h0, vs, h1⟩ := h
  refine (arm_any w h1 n hn).mono ?_
  rintro e w' ⟨he, hd, ht⟩
  exact ⟨he, DX.left h1 h0 (LeftD.row h1 hd ht)⟩
theorem scrash {base db : Nat} {d : DD} (w : World) (h : DX base db d w) (us : List Int) (p : Option Addr) (c : Nat) (hN : Ns w p us.length c us) (hap : ∀ a, p = some a → ¬ DTy base w a.block ∧ a.block < w.heap.size) :
    Calls Tryz.prog 20 #[.pointer (some ⟨db, 0, none⟩), .slice p us.length c] w fun e w' => e = .returned (.tuple #[]) ∧ DX base db (crashD us d) w' ∧ KT base w w' := by
  obtain ⟨h0, vs, h1⟩ := h
  refine (crash_any w h1 h0 us p c hN (fun a ha => ⟨fun ho => (hap a ha).1 (dat_dty h1 _ ho), (hap a ha).2⟩)).mono ?_
  rintro e w' ⟨he, hl⟩
  exact ⟨he, DX.left h1 h0 hl⟩
/-- a row of bytes reads as them -/
theorem bs_row {w : World} {g : Nat} {cur : Array Value} {t : TypeId} {fr : Nat × Nat} {l : List UInt8} (hr : w.heap[g]? = some (.cells cur t fr)) (hc : cur.toList = bytesV l) (hm : l.length ≤ 9223372036854775807) : Bs w (some ⟨g, 0, none⟩) l.length l.length l :=
  ⟨by rw [bytesV_length, Nat.mul_one], Nat.le_refl _, hm, fun h => (by cases h), fun a ha j u hu => by
    obtain rfl := Option.some.inj ha
    rw [add_none, cell_of_row _ _ _ _ _ _ hr, ← Array.getElem?_toList, hc, Nat.zero_add]
    exact hu⟩
theorem few_new (room : Nat) : ∀ j, (fD (DD.new room) j).steps.length ≤ 0
  | 0 => Nat.le_refl _
  | 1 => Nat.le_refl _
  | 2 => Nat.le_refl _
  | _ + 3 => Nat.le_refl _
theorem opn_new (room a b : Nat) (ha : a < 3) (hb : b < 3) : opnS (DD.new room) a b = ⟨-1, 0, []⟩ := by
  have h : ∀ i, i < 3 → (fD (DD.new room) i).now = [] := fun i hi => by
    match i, hi with
    | 0, _ => rfl
    | 1, _ => rfl
    | 2, _ => rfl
  unfold opnS
  rw [h a ha, h b hb]
  rfl
/-- a snapshot put on a disk that is up and has room -/
theorem putUp_any {base sb db a b N : Nat} {d : DD} {s : SS} (w : World) (h : SX base sb db a b d s w) (ha : a < 3) (hb : b < 3) (p : Option Addr) (c : Nat) (x : List UInt8) (hK : ∀ w', KT base w w' → Bs w' p x.length c x) (hx : x.length ≤ 3000) (hN : N ≤ 4398046000000) (hfew : ∀ j, (fD d j).steps.length ≤ N)
    (h1 : d.down = false) (h2 : d.fuse = 0) (ht : s.turn + 1 < 18446744073709551616) (hr : usedL d.fs + (16 + x.length) ≤ d.room) :
    Calls Tryz.prog 42 #[.pointer (some ⟨sb, 0, none⟩), .slice p x.length c] w fun e w' => e = .returned (.int .i64 0) ∧ SX base sb db a b (setF d (nxt s a b) (fS (wrapB s x))) ⟨(nxt s a b : Int), s.turn + 1, x⟩ w' ∧ KS base w w' := by
  have hp := put_up (d := d) (s := s) (a := a) (b := b) (x := x) h.dx.len3 ha hb h1 h2 (fun i hi => h.dx.ok hi) (by omega) ht hr
  have := sput_any w h ha hb p c x hK hx hN hfew
  unfold SPutP at this
  rwa [hp.1, hp.2.1, hp.2.2] at this
end Go.Proofs.YtnejjfglkindjaaGreatDoor.Slt

namespace Go.Proofs.YtnejjfglkindjaaGreatDoor.Vlt
open Go.RowKit Go.Mir Go.Mir.Parts Dk Rol Wr Slt Cut
open Frm (frame scan)

theorem XV.below {base rb sb db vb : Nat} {d : DD} {s : SS} {v : VS} {w w' : World} (h : XV base rb sb db vb d s v w) (hb : Below w.heap.size w w') : XV base rb sb db vb d s v w' := by
  obtain ⟨pb, cb, pa, ca, h⟩ := h
  exact ⟨pb, cb, pa, ca, h.below hb⟩
def aD0 : DD := opnD (DD.new 300) 0
def aD1 : DD := vputD aD0 VS.zero [7]
def aV1 : VS := vputV aD0 VS.zero [7]
def aD2 : DD := vcD aD1 ⟨-1, 0, []⟩ aV1 [5]
def aS2 : SS := vcS aD1 ⟨-1, 0, []⟩ aV1 [5]
def aV2 : VS := vcV aD1 ⟨-1, 0, []⟩ aV1 [5]
def aD3 : DD := vputD aD2 aV2 [8]
theorem aE0 : opnE (DD.new 300) 0 = 0 := by decide +kernel
theorem aF0 : vopF (DD.new 300) = some VS.zero := by kernel_rfl
theorem aE1 : vputE aD0 VS.zero [7] = 0 := by decide +kernel
theorem aE2 : vcE aD1 ⟨-1, 0, []⟩ aV1 [5] = 0 := by decide +kernel
theorem aE3 : vputE aD2 aV2 [8] = 0 := by decide +kernel
theorem aV3 : vputV aD2 aV2 [8] = ⟨2, true, [5], [[8]]⟩ := by kernel_rfl
theorem few_all {d : DD} {N : Nat} (h : d.fs.all (fun f => decide (f.steps.length ≤ N)) = true) : ∀ j, (fD d j).steps.length ≤ N := fun j => by
  unfold fD
  cases hj : d.fs[j]? with
  | none => exact Nat.zero_le _
  | some f => exact of_decide_eq_true (List.all_eq_true.1 h f (List.mem_of_getElem? hj))
theorem aW0 : ∀ j, (fD aD0 j).steps.length ≤ 9 := few_all (by decide +kernel)
theorem aW1 : ∀ j, (fD aD1 j).steps.length ≤ 9 := few_all (by decide +kernel)
theorem aW2 : ∀ j, (fD aD2 j).steps.length ≤ 9 := few_all (by decide +kernel)
theorem aL1 : aV1.after.length = 1 := by decide +kernel
theorem aL2 : aV2.after.length = 0 := by decide +kernel
set_option maxRecDepth 100000 in
set_option maxHeartbeats 3200000 in
theorem alive22_any (w : World) (hE : Rdr.EType w) :
    Calls Tryz.prog 14 #[] w fun e w' => e = .returned (.bool true) ∧ Below w.heap.size w w' := by
  have HE := Lib.hid hE
  have HN : Hid (Calls Tryz.prog 16 #[.int .i64 300] w fun e w' => ∃ db, e = .returned (.tuple #[.pointer (some ⟨db, 0, none⟩), .int .i64 0]) ∧ DX w.heap.size db (DD.new 300) w' ∧ Below w.heap.size w w') := snew 300 w (by omega)
  clear hE
  go_enter Tryz.func14, Tryz.ntmps14
  go_wp2_with fail
  refine HN.out.mono ?_
  rintro e w1 ⟨db, rfl, hd1, hb1⟩
  have HB1 := Lib.hid hb1
  have HO := Lib.hid (vopen_any w1 (HE.out.below hb1 HE.out.lt) HE.out.lt hd1 rfl (by have := few_new 300 0; omega) (fun _ h => by rw [aF0] at h; cases h))
  clear hd1 hb1 HN
  go_wp2_with fail
  refine HO.out.mono ?_
  rintro e w2 ⟨hk2, hs2⟩
  rcases hs2 with ⟨hc, _⟩ | ⟨_, v, rb, sb, vb, hv, rfl, hs2⟩
  · exact absurd aE0 hc
  rw [aF0] at hv
  obtain rfl := Option.some.inj hv
  rw [opn_new 300 1 2 (by omega) (by omega)] at hs2
  have hs2 : XV w.heap.size rb sb db vb aD0 ⟨-1, 0, []⟩ VS.zero w2 := hs2
  have HB2 := Lib.hid (HB1.out.trans ((hk2.below HB1.out.size).mono (Nat.le_refl _)))
  clear hv hk2 HO
  have hal : Below w2.heap.size w2 (w2.alloc (.cells #[.int .u8 7] 5)) := Below.allocs _ _
  have hrow := heap_alloc_last w2 (.cells #[.int .u8 7] 5)
  have HA3 := Lib.hid (HB2.out.trans (hal.mono HB2.out.size))
  have hp := vput_any _ (hs2.below hal) (some ⟨w2.heap.size, 0, none⟩) 1 [7] (fun w' hk => bs_row (hk.row hrow (by decide) (by decide)) rfl (by decide)) (by decide) (Nat.zero_le _) (by have := aW0 0; omega)
  unfold VPutP at hp
  rw [aE1] at hp
  have HP1 := Lib.hid hp
  clear hal hrow hs2 hp
  go_wp2_with fail
  refine HP1.out.mono ?_
  rintro e w4 ⟨rfl, hs4, hk4⟩
  have hs4 : XV w.heap.size rb sb db vb aD1 ⟨-1, 0, []⟩ aV1 w4 := hs4
  have HB4 := Lib.hid (HA3.out.trans ((hk4.below HA3.out.size).mono (Nat.le_refl _)))
  have hal : Below w4.heap.size w4 (w4.alloc (.cells #[.int .u8 5] 5)) := Below.allocs _ _
  have hrow := heap_alloc_last w4 (.cells #[.int .u8 5] 5)
  have HA5 := Lib.hid (HB4.out.trans (hal.mono HB4.out.size))
  have hp := vcomp_any (N := 9) _ (hs4.below hal) (some ⟨w4.heap.size, 0, none⟩) 1 [5] (fun w' hk => bs_row (hk.row hrow (by decide) (by decide) (by decide)) rfl (by decide)) (by decide) (by omega) aW1
  unfold VCompP at hp
  rw [aE2] at hp
  have HP2 := Lib.hid hp
  clear hal hrow hs4 hk4 hp HP1
  go_wp2_with fail
  refine HP2.out.mono ?_
  rintro e w6 ⟨rfl, hs6, hk6⟩
  have hs6 : XV w.heap.size rb sb db vb aD2 aS2 aV2 w6 := hs6
  have HB6 := Lib.hid (HA5.out.trans ((hk6.below HA5.out.size).mono (Nat.le_refl _)))
  have hal : Below w6.heap.size w6 (w6.alloc (.cells #[.int .u8 8] 5)) := Below.allocs _ _
  have hrow := heap_alloc_last w6 (.cells #[.int .u8 8] 5)
  have HA7 := Lib.hid (HB6.out.trans (hal.mono HB6.out.size))
  have hp := vput_any _ (hs6.below hal) (some ⟨w6.heap.size, 0, none⟩) 1 [8] (fun w' hk => bs_row (hk.row hrow (by decide) (by decide)) rfl (by decide)) (by decide) (by rw [aL2]; exact Nat.zero_le _) (by have := aW2 0; omega)
  unfold VPutP at hp
  rw [aE3, aV3] at hp
  have HP3 := Lib.hid hp
  clear hal hrow hs6 hk6 hp HP2
  go_wp2_with fail
  refine HP3.out.mono ?_
  rintro e w8 ⟨rfl, hs8, hk8⟩
  have HB8 := Lib.hid (HA7.out.trans ((hk8.below HA7.out.size).mono (Nat.le_refl _)))
  have HS8 := Lib.hid hs8
  have HG := Lib.hid (vsnap_any w8 hs8 (show (1 : Nat) ≤ _ by omega))
  clear hs8 hk8 HP3
  go_wp2_with fail
  refine HG.out.mono ?_
  rintro e w9 ⟨p9, c9, rfl, ho9, hb9⟩
  have HS9 := Lib.hid (HS8.out.below hb9)
  have HB9 := Lib.hid (HB8.out.trans (hb9.mono HB8.out.size))
  have HR := Lib.hid (vrecs_any w9 HS9.out (show (1 : Nat) ≤ _ by omega) (fun x hx => by rw [List.mem_singleton] at hx; subst hx; exact (by decide)))
  have HO9 : Hid (w9.ownsRow w8.heap.size 5 1 (.slice p9 1 c9) 1 (bytesV [5])) := ho9
  clear hb9 ho9 HG HS8
  go_wp2_with fail
  refine HR.out.mono ?_
  rintro e w10 ⟨pa, ca, rfl, hl, hb10⟩
  have HS10 := Lib.hid (HS9.out.below hb10)
  have HB10 := Lib.hid (HB9.out.trans (hb10.mono HB9.out.size))
  have HC5 : (convert 22 9 (.slice p9 1 c9)).run Tryz.prog w10 = .ok (.string (S [5])) w10 := Cut.bconv (n := 1) ((Cut.own_bs HO9.out).below hb10)
  obtain ⟨hs, g1, g2⟩ := hl.all
  obtain ⟨p1, c1, he, hsl⟩ := own_sl g1
  cases he
  obtain ⟨bb, oo, rfl⟩ := hsl.addr (by decide) (by decide)
  obtain ⟨q, k, e0, ho0⟩ := g2 0 (by decide)
  have hc0 : w10.cell? ⟨bb, oo, none⟩ = some (.slice q 1 k) := hsl.at e0
  have HC8 : (convert 22 9 (.slice q 1 k)).run Tryz.prog w10 = .ok (.string (S [8])) w10 := Cut.bconv (n := 1) (Cut.own_bs ho0)
  have HNX : Hid (Calls Tryz.prog 11 #[.pointer (some ⟨vb, 0, none⟩)] w10 fun e w' => e = .returned (.int .u64 3) ∧ w10 = w') := vnext_any w10 HS10.out (show (2 : Nat) + 1 < _ by omega)
  have hle : (1 : Nat) ≤ ca := hsl.le
  clear hl g1 g2 hsl e0 ho0 hb10 HR HS9 HO9 HS10
  go_wp2_with fail
  refine HNX.out.mono ?_
  rintro e w' ⟨rfl, rfl⟩
  go_wp2_with fail
  go_ret
  exact ⟨rfl, HB10.out⟩
end Go.Proofs.YtnejjfglkindjaaGreatDoor.Vlt

namespace Go.Proofs.YtnejjfglkindjaaGreatDoor.Vlt
open Go.RowKit Go.Mir Dk Rol Wr Slt
open Frm (frame scan frame_length)

/-! ### what is filled -/
theorem runV_le : ∀ (bs : List (List UInt8)) (v v' : VS), runV v bs = some v' → v.last ≤ v'.last ∧ ∀ b ∈ bs, 9 ≤ b.length ∧ Rdr.beN (b.take 8) ≤ v'.last
  | [], v, v', h => by
    obtain rfl := Option.some.inj h
    exact ⟨Nat.le_refl _, fun b hb => (nomatch hb)⟩
  | b :: r, v, v', h => by
    rw [runV] at h
    unfold stepV at h
    by_cases h9 : b.length < 9
    · rw [if_pos h9] at h; cases h
    · rw [if_neg h9] at h
      by_cases h1 : Rdr.beN (b.take 8) ≤ v.last
      · rw [if_pos h1] at h
        obtain ⟨a, c⟩ := runV_le r v v' h
        refine ⟨a, fun y hy => ?_⟩
        rcases List.mem_cons.1 hy with rfl | hy
        · exact ⟨by omega, by omega⟩
        · exact c y hy
      · rw [if_neg h1] at h
        by_cases h2 : Rdr.beN (b.take 8) = v.last + 1
        · rw [if_pos h2] at h
          obtain ⟨a, c⟩ := runV_le r _ v' h
          have a : Rdr.beN (b.take 8) ≤ v'.last := a
          refine ⟨by omega, fun y hy => ?_⟩
          rcases List.mem_cons.1 hy with rfl | hy
          · exact ⟨by omega, a⟩
          · exact c y hy
        · rw [if_neg h2] at h; cases h
theorem runV_skip : ∀ (bs : List (List UInt8)) (v : VS), (∀ b ∈ bs, 9 ≤ b.length ∧ Rdr.beN (b.take 8) ≤ v.last) → runV v bs = some v
  | [], _, _ => rfl
  | b :: r, v, h => by
    obtain ⟨a, c⟩ := h b (List.mem_cons_self ..)
    rw [runV]
    unfold stepV
    rw [if_neg (by omega), if_pos c]
    exact runV_skip r v (fun y hy => h y (List.mem_cons_of_mem _ hy))
def pushV (v : VS) (r : List UInt8) : VS := ⟨v.last + 1, v.some, v.body, v.after ++ [r]⟩
def compV (v : VS) (x : List UInt8) : VS := ⟨v.last, true, x, []⟩
theorem fill_push {s : SS} {bs : List (List UInt8)} {v : VS} {r : List UInt8} (h : fillV s bs = some v) (h1 : 1 ≤ r.length) (h2 : v.last + 1 < 18446744073709551616) : fillV s (bs ++ [vputR v r]) = some (pushV v r) := by
  unfold fillV at h ⊢
  cases hs : startV s with
  | none => rw [hs] at h; cases h
  | some v0 =>
    rw [hs] at h
    have h : runV v0 bs = some v := h
    show runV v0 (bs ++ [vputR v r]) = _
    rw [runV_snoc, h]
    show stepV v (vputR v r) = _
    have hl : (vputR v r).length = 8 + r.length := by unfold vputR; rw [List.length_append, be_length]
    have ht : Rdr.beN ((vputR v r).take 8) = v.last + 1 := by unfold vputR; rw [List.take_left' (be_length _ 8), Cod.beN_be _ 8 (by omega) (by omega)]
    have hd : (vputR v r).drop 8 = r := by unfold vputR; rw [List.drop_left' (be_length _ 8)]
    unfold stepV
    rw [if_neg (by omega), ht, if_neg (by omega), if_pos rfl, hd]
    rfl
theorem fill_all {s : SS} {bs : List (List UInt8)} {v : VS} (h : fillV s bs = some v) : ∀ b ∈ bs, 9 ≤ b.length ∧ Rdr.beN (b.take 8) ≤ v.last := by
  unfold fillV at h
  cases hs : startV s with
  | none => rw [hs] at h; cases h
  | some v0 =>
    rw [hs] at h
    exact (runV_le bs v0 v h).2
theorem fill_comp {f : Int} {t : Nat} {bs : List (List UInt8)} {v : VS} {x : List UInt8} (h : ∀ b ∈ bs, 9 ≤ b.length ∧ Rdr.beN (b.take 8) ≤ v.last) (h2 : v.last < 18446744073709551616) : fillV ⟨f, t + 1, vcR v x⟩ bs = some (compV v x) := by
  have hl : (vcR v x).length = 8 + x.length := by unfold vcR; rw [List.length_append, be_length]
  have ht : Rdr.beN ((vcR v x).take 8) = v.last := by unfold vcR; rw [List.take_left' (be_length _ 8), Cod.beN_be _ 8 (by omega) (by omega)]
  have hd : (vcR v x).drop 8 = x := by unfold vcR; rw [List.drop_left' (be_length _ 8)]
  have hs : startV ⟨f, t + 1, vcR v x⟩ = some (compV v x) := by
    unfold startV
    rw [if_neg (show ¬ t + 1 = 0 by omega), if_neg (show ¬ (vcR v x).length < 8 by omega)]
    show some (VS.mk (Rdr.beN ((vcR v x).take 8)) true ((vcR v x).drop 8) []) = _
    rw [ht, hd]
    rfl
  unfold fillV
  rw [hs]
  exact runV_skip bs (compV v x) h
/-! ### calls of a disk's -/
theorem do3 {d : DD} {i : Nat} {f : FD} {s : St} (h1 : d.down = false) :
    (doE d i f s = 0 ∧ doD d i f s = wF (setF d i (f.take s)) (d.fuse - 1) false) ∨ (doE d i f s = 18 ∧ doD d i f s = wF (setF d i (f.take s)) 0 true) ∨ (doE d i f s = 17 ∧ doD d i f s = d ∧ d.room < usedL d.fs - f.need + max f.need (s.size f.now.length)) := by
  by_cases h : d.room < usedL d.fs - f.need + max f.need (s.size f.now.length)
  · refine .inr (.inr ⟨?_, ?_, h⟩)
    · unfold doE; rw [if_neg (by rw [h1]; decide), if_pos h]
    · unfold doD; rw [if_neg (by rw [h1]; decide), if_pos h]
  · rcases do_fz (i := i) (f := f) (s := s) h1 (by omega) with h | h
    · exact .inl h
    · exact .inr (.inl h)
theorem setF_self {d : DD} {i : Nat} (h : i < d.fs.length) : setF d i (fD d i) = d := by
  unfold setF
  rw [← fD_eq h, List.set_getElem_self]
theorem need_le {d : DD} {i : Nat} (h : i < d.fs.length) : (fD d i).need ≤ usedL d.fs := by
  have := usedL_mem h
  rwa [fD_eq h] at this
theorem app3 {d : DD} {i : Nat} {x b : List UInt8} (hi : i < d.fs.length) (h1 : d.down = false) (hf : fD d i = fS x) (hb : 1 ≤ b.length) :
    (appE d i b = 0 ∧ ∃ k, appD d i b = wF (setF d i (fS (x ++ frame b))) k false) ∨
    (appE d i b = 18 ∧ appD d i b = wF (setF d i ⟨x, x ++ frame b, [.put (frame b)], x.length + (frame b).length⟩) 0 true) ∨
    (appE d i b = 17 ∧ appD d i b = d ∧ d.room < usedL d.fs + (frame b).length) := by
  have hn := need_le hi
  rw [hf] at hn
  have hn : x.length ≤ usedL d.fs := hn
  have hb0 : ¬ b.length = 0 := by omega
  unfold appE appD
  rw [if_neg hb0, if_neg hb0, hf]
  rcases do3 (i := i) (f := fS x) (s := .put (frame b)) h1 with ⟨e1, e2⟩ | ⟨e1, e2⟩ | ⟨e1, e2, e3⟩
  · rw [take_put] at e2
    rw [if_pos e1, if_pos e1, e2]
    have hfd : fD (wF (setF d i ⟨x, x ++ frame b, [.put (frame b)], x.length + (frame b).length⟩) (d.fuse - 1) false) i = ⟨x, x ++ frame b, [.put (frame b)], x.length + (frame b).length⟩ := fD_set hi _
    rw [hfd]
    rcases sync_fz (d := wF (setF d i ⟨x, x ++ frame b, [.put (frame b)], x.length + (frame b).length⟩) (d.fuse - 1) false) (i := i) (f := ⟨x, x ++ frame b, [.put (frame b)], x.length + (frame b).length⟩) rfl with ⟨g1, g2⟩ | ⟨g1, g2⟩
    · rw [settle_put, setF_wF, setF_setF, wF_wF] at g2
      exact .inl ⟨g1, _, g2⟩
    · rw [wF_wF] at g2
      exact .inr (.inl ⟨g1, g2⟩)
  · rw [take_put] at e2
    have hne : ¬ doE d i (fS x) (.put (frame b)) = 0 := by rw [e1]; decide
    rw [if_neg hne, if_neg hne]
    exact .inr (.inl ⟨e1, e2⟩)
  · have hne : ¬ doE d i (fS x) (.put (frame b)) = 0 := by rw [e1]; decide
    rw [if_neg hne, if_neg hne]
    refine .inr (.inr ⟨e1, e2, ?_⟩)
    have e3 : d.room < usedL d.fs - x.length + max x.length (x.length + (frame b).length) := e3
    omega
theorem clr3 {d : DD} {i g : Nat} {x : List UInt8} (hi : i < d.fs.length) (h1 : d.down = false) (hf : fD d i = fS x) (hg : g ≤ x.length) (hu : usedL d.fs ≤ d.room) :
    (clrE d i g = 0 ∧ clrD d i g = wF (setF d i (fS (x.take g))) (d.fuse - 1 - 1) false) ∨
    (clrE d i g = 18 ∧ clrD d i g = wF (setF d i ⟨x, x.take g, [.cut g], x.length⟩) 0 true ∧ d.fuse ≠ 0) := by
  have hn := need_le hi
  rw [hf] at hn
  have hn : x.length ≤ usedL d.fs := hn
  have hz0 : ∀ {k : Nat} {y : Bool} {D : DD}, doD d i (fS x) (.cut g) = wF D k y → doE d i (fS x) (.cut g) = 18 → d.fuse ≠ 0 := fun {k y D} _ he h0 => by
    unfold doE at he
    rw [if_neg (by rw [h1]; decide)] at he
    have hb : (setF d i ((fS x).take (.cut g))).burn.down = false := by
      unfold DD.burn
      rw [if_neg (by show ¬ 0 < d.fuse; omega)]
      exact h1
    rw [hb] at he
    split at he
    · exact absurd he (by decide)
    · exact absurd he (by decide)
  unfold clrE clrD
  rw [hf]
  rcases do_fz (i := i) (f := fS x) (s := .cut g) h1 (by show usedL d.fs - x.length + max x.length g ≤ _; omega) with ⟨e1, e2⟩ | ⟨e1, e2⟩
  · have e0 := e2
    rw [take_cut x g hg] at e2
    rw [if_pos e1, if_pos e1, e2]
    have hfd : fD (wF (setF d i ⟨x, x.take g, [.cut g], x.length⟩) (d.fuse - 1) false) i = ⟨x, x.take g, [.cut g], x.length⟩ := fD_set hi _
    rw [hfd]
    rcases sync_fz (d := wF (setF d i ⟨x, x.take g, [.cut g], x.length⟩) (d.fuse - 1) false) (i := i) (f := ⟨x, x.take g, [.cut g], x.length⟩) rfl with ⟨g1, g2⟩ | ⟨g1, g2⟩
    · rw [settle_cut, setF_wF, setF_setF, wF_wF] at g2
      exact .inl ⟨g1, g2⟩
    · have hb0 : d.fuse ≠ 0 := fun h0 => by
        unfold syncE at g1
        rw [if_neg (by show ¬ false = true; decide)] at g1
        have hb : (wF (setF d i ⟨x, x.take g, [.cut g], x.length⟩) (d.fuse - 1) false).burn.down = false := by
          unfold DD.burn
          rw [if_neg (by show ¬ 0 < d.fuse - 1; omega)]
          rfl
        rw [hb] at g1
        exact absurd g1 (by decide)
      rw [wF_wF] at g2
      exact .inr ⟨g1, g2, hb0⟩
  · have hb0 := hz0 e2 e1
    rw [take_cut x g hg] at e2
    have hne : ¬ doE d i (fS x) (.cut g) = 0 := by rw [e1]; decide
    rw [if_neg hne, if_neg hne]
    exact .inr ⟨e1, e2, hb0⟩
theorem mend3 {d : DD} {i : Nat} {x : List UInt8} (hi : i < d.fs.length) (h1 : d.down = false) (hf : fD d i = fS x) (hu : usedL d.fs ≤ d.room) :
    (mendE d i = 0 ∧ ∃ k, mendD d i = wF (setF d i (fS (x.take (scan x).2))) k false ∧ (d.fuse = 0 → k = 0)) ∨
    (mendE d i = 18 ∧ mendD d i = wF (setF d i ⟨x, x.take (scan x).2, [.cut (scan x).2], x.length⟩) 0 true ∧ d.fuse ≠ 0) := by
  have hsl := scan_le x
  by_cases hg : (scan x).2 < x.length
  · have hm : mendE d i = clrE d i (scan x).2 ∧ mendD d i = clrD d i (scan x).2 := by
      unfold mendE mendD clrE clrD
      rw [hf, if_pos (show (scan (fS x).now).2 < (fS x).now.length from hg), if_pos (show (scan (fS x).now).2 < (fS x).now.length from hg)]
      show (if doE d i (fS x) (.cut (scan x).2) = 0 then endE (doD d i (fS x) (.cut (scan x).2)) i else doE d i (fS x) (.cut (scan x).2)) = _ ∧ (if doE d i (fS x) (.cut (scan x).2) = 0 then endD (doD d i (fS x) (.cut (scan x).2)) i else doD d i (fS x) (.cut (scan x).2)) = _
      by_cases h0 : doE d i (fS x) (.cut (scan x).2) = 0
      · rw [if_pos h0, if_pos h0, if_pos h0, if_pos h0]
        have hfd : fD (doD d i (fS x) (.cut (scan x).2)) i = ⟨x, x.take (scan x).2, [.cut (scan x).2], x.length⟩ := by
          rcases do3 (i := i) (f := fS x) (s := .cut (scan x).2) h1 with ⟨_, e2⟩ | ⟨e1, _⟩ | ⟨e1, _⟩
          · rw [e2, take_cut x _ hsl]
            exact fD_set hi _
          · rw [e1] at h0; exact absurd h0 (by decide)
          · rw [e1] at h0; exact absurd h0 (by decide)
        have hu1 : ¬ unitsAll [St.cut (scan x).2] = 0 := by show ¬ 1 + 0 = 0; omega
        unfold endE endD
        rw [hfd, if_neg hu1, if_neg hu1]
        exact ⟨rfl, rfl⟩
      · rw [if_neg h0, if_neg h0, if_neg h0, if_neg h0]
        exact ⟨rfl, rfl⟩
    rw [hm.1, hm.2]
    rcases clr3 hi h1 hf hsl hu with ⟨a, b⟩ | h
    · exact .inl ⟨a, _, b, fun h0 => by omega⟩
    · exact .inr h
  · refine .inl ?_
    unfold mendE mendD endE endD
    rw [hf, if_neg (show ¬ (scan (fS x).now).2 < (fS x).now.length from hg), if_neg (show ¬ (scan (fS x).now).2 < (fS x).now.length from hg), if_pos (show unitsAll (fS x).steps = 0 from rfl), if_pos (show unitsAll (fS x).steps = 0 from rfl), List.take_of_length_le (by omega), ← hf, setF_self hi]
    refine ⟨rfl, d.fuse, ?_, fun h => h⟩
    obtain ⟨fs, room, fuse, down⟩ := d
    have h1 : down = false := h1
    subst h1
    rfl
theorem put2_3 {d : DD} {i : Nat} {fr : List UInt8} (hi : i < d.fs.length) (h1 : d.down = false) (hf : fD d i = fS []) :
    (∃ k, layE i [.put fr, .sync] d = 0 ∧ layD i [.put fr, .sync] d = wF (setF d i (fS fr)) k false ∧ usedL d.fs + fr.length ≤ d.room) ∨ (layE i [.put fr, .sync] d = 18 ∧ layD i [.put fr, .sync] d = wF (setF d i ⟨[], fr, [.put fr], fr.length⟩) 0 true) ∨ (layE i [.put fr, .sync] d = 17 ∧ layD i [.put fr, .sync] d = d ∧ d.room < usedL d.fs + fr.length) := by
  by_cases hr : usedL d.fs + fr.length ≤ d.room
  · rcases put2_fz hi h1 hf hr with ⟨k, a, b⟩ | h
    · exact .inl ⟨k, a, b, hr⟩
    · exact .inr (.inl h)
  · have hr2 : d.room < usedL d.fs - (fD d i).need + max (fD d i).need ((St.put fr).size (fD d i).now.length) := by
      rw [hf]
      show d.room < usedL d.fs - 0 + max 0 (0 + fr.length)
      omega
    have e1 : stpE d i (.put fr) = 17 := by
      show doE d i (fD d i) (.put fr) = 17
      unfold doE
      rw [if_neg (by rw [h1]; decide), if_pos hr2]
    have e2 : stpD d i (.put fr) = d := by
      show doD d i (fD d i) (.put fr) = d
      unfold doD
      rw [if_neg (by rw [h1]; decide), if_pos hr2]
    obtain ⟨c1, c2⟩ := lay_no (r := [.sync]) (show ¬ stpE d i (.put fr) = 0 by rw [e1]; decide)
    rw [c1, c2]
    exact .inr (.inr ⟨e1, e2, by omega⟩)
theorem lay3 {d : DD} {i : Nat} {y fr : List UInt8} (hi : i < d.fs.length) (h1 : d.down = false) (hf : fD d i = fS y) (hu : usedL d.fs ≤ d.room) :
    (∃ k, layE i (acts d i fr) d = 0 ∧ layD i (acts d i fr) d = wF (setF d i (fS fr)) k false ∧ usedL d.fs + fr.length ≤ d.room + y.length) ∨ (layE i (acts d i fr) d = 18 ∧ ∃ g, Torn y fr g ∧ layD i (acts d i fr) d = wF (setF d i g) 0 true) ∨
    (layE i (acts d i fr) d = 17 ∧ (∃ k, layD i (acts d i fr) d = wF (setF d i (fS [])) k false) ∧ d.room < usedL d.fs + fr.length) := by
  have hm := need_le hi
  rw [hf] at hm
  have hm : y.length ≤ usedL d.fs := hm
  by_cases hr : usedL d.fs + fr.length ≤ d.room
  · rcases lay_fz hi h1 hf hr with ⟨k, a, b⟩ | h
    · exact .inl ⟨k, a, b, by omega⟩
    · exact .inr (.inl h)
  unfold acts
  by_cases hfu : full d i = true
  · rw [if_pos hfu]
    have ht : (fS y).take (.cut 0) = ⟨y, [], [.cut 0], y.length⟩ := by rw [take_cut y 0 (Nat.zero_le _), List.take_zero]
    have hst : (⟨y, [], [.cut 0], y.length⟩ : FD).settle (unitsAll [.cut 0]) = fS [] := by
      have := settle_cut y 0 y.length
      rwa [List.take_zero] at this
    rcases do_fz (i := i) (f := fD d i) (s := .cut 0) h1 (by rw [hf]; show usedL d.fs - y.length + max y.length 0 ≤ _; omega) with ⟨e1, e2⟩ | ⟨e1, e2⟩
    · rw [hf, ht] at e2
      have e1' : stpE d i .cut = 0 := e1
      have e2' : stpD d i .cut = wF (setF d i ⟨y, [], [.cut 0], y.length⟩) (d.fuse - 1) false := by
        show doD d i (fD d i) (.cut 0) = _
        rw [hf]; exact e2
      obtain ⟨c1, c2⟩ := lay_ok (r := [.sync, .put fr, .sync]) e1'
      rw [c1, c2, e2']
      have hfd : fD (wF (setF d i ⟨y, [], [.cut 0], y.length⟩) (d.fuse - 1) false) i = ⟨y, [], [.cut 0], y.length⟩ := fD_set hi _
      rcases sync_fz (d := wF (setF d i ⟨y, [], [.cut 0], y.length⟩) (d.fuse - 1) false) (i := i) (f := ⟨y, [], [.cut 0], y.length⟩) rfl with ⟨g1, g2⟩ | ⟨g1, g2⟩
      · rw [hst, setF_wF, setF_setF, wF_wF] at g2
        have g2' : stpD (wF (setF d i ⟨y, [], [.cut 0], y.length⟩) (d.fuse - 1) false) i .sync = wF (setF d i (fS [])) (d.fuse - 1 - 1) false := by
          show syncD _ i (fD _ i) = _
          rw [hfd]; exact g2
        obtain ⟨k1, k2⟩ := lay_ok (i := i) (a := .sync) (r := [.put fr, .sync]) (d := wF (setF d i ⟨y, [], [.cut 0], y.length⟩) (d.fuse - 1) false) g1
        rw [k1, k2, g2']
        have hz := used_setF hi (fS [])
        rw [hf] at hz
        have hz : usedL (setF d i (fS [])).fs + y.length = usedL d.fs + 0 := hz
        have hl : (wF (setF d i (fS [])) (d.fuse - 1 - 1) false).fs.length = d.fs.length := List.length_set
        have := put2_3 (d := wF (setF d i (fS [])) (d.fuse - 1 - 1) false) (i := i) (fr := fr) (by rw [hl]; exact hi) rfl (fD_set hi _)
        rw [setF_wF, setF_setF, setF_wF, setF_setF] at this
        have hrm : (wF (setF d i (fS [])) (d.fuse - 1 - 1) false).room = d.room := rfl
        have hfs : (wF (setF d i (fS [])) (d.fuse - 1 - 1) false).fs = (setF d i (fS [])).fs := rfl
        rw [hrm, hfs] at this
        rcases this with ⟨k, a, b, hq⟩ | ⟨a, b⟩ | ⟨a, b, c⟩
        · exact .inl ⟨k, a, b, by omega⟩
        · exact .inr (.inl ⟨a, _, .inr rfl, b⟩)
        · refine .inr (.inr ⟨a, ⟨_, b⟩, ?_⟩)
          omega
      · rw [wF_wF] at g2
        have hne : ¬ stpE (wF (setF d i ⟨y, [], [.cut 0], y.length⟩) (d.fuse - 1) false) i .sync = 0 := by
          show ¬ syncE _ = 0
          rw [g1]; decide
        obtain ⟨k1, k2⟩ := lay_no (r := [.put fr, .sync]) hne
        rw [k1, k2]
        refine .inr (.inl ⟨g1, _, .inl rfl, ?_⟩)
        show syncD _ i (fD _ i) = _
        rw [hfd]; exact g2
    · rw [hf, ht] at e2
      have hne : ¬ stpE d i .cut = 0 := by
        show ¬ doE d i (fD d i) (.cut 0) = 0
        rw [e1]; decide
      obtain ⟨c1, c2⟩ := lay_no (r := [.sync, .put fr, .sync]) hne
      rw [c1, c2]
      refine .inr (.inl ⟨e1, _, .inl rfl, ?_⟩)
      show doD d i (fD d i) (.cut 0) = _
      rw [hf]; exact e2
  · rw [if_neg hfu]
    have hn0 : y = [] := by
      refine List.length_eq_zero_iff.1 (Nat.eq_zero_of_not_pos fun h => hfu ?_)
      unfold full
      rw [hf, decide_eq_true (show 0 < (fS y).now.length from h)]
      rfl
    subst hn0
    rcases put2_3 (fr := fr) hi h1 hf with ⟨k, a, b, hq⟩ | ⟨a, b⟩ | ⟨a, b, c⟩
    · exact .inl ⟨k, a, b, by omega⟩
    · exact .inr (.inl ⟨a, _, .inr rfl, b⟩)
    · refine .inr (.inr ⟨a, ⟨d.fuse, ?_⟩, c⟩)
      rw [b, ← hf, setF_self hi]
      obtain ⟨fs, room, fuse, down⟩ := d
      have h1 : down = false := h1
      subst h1
      rfl
end Go.Proofs.YtnejjfglkindjaaGreatDoor.Vlt
