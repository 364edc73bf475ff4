/- THE WALKS OF A CHAIN, on: a block connected. Conditions: none. -/
import Derived.Test.YtepemfgiigceoaaChain5
namespace Go.Proofs.Ytepemfgiigceoaa.Chn
open Go.RowKit Go.Mir Go.Mir.Parts Go.Proofs.Ytepemfgiigceoaa.Blk

theorem infoBlocks : (Try.prog.info? 33).map (fun i => (i.zero, i.size, i.bytes)) = some (some (.agg (blkA zeros zeros none 0 0)), 65, 88) := by kernel_rfl
theorem zblk_size : (Value.agg (blkA zeros zeros none 0 0)).cells.size = 65 := by kernel_rfl
theorem row_rangeC {w : World} {b : Nat} {A : Array Value} {t : TypeId} {fr : Nat × Nat} (h : w.heap[b]? = some (.cells A t fr)) : w.rangeAt b 0 A.toList := fun j v hv => by
  rw [cell_of_row _ _ _ _ _ _ h, ← Array.getElem?_toList, Nat.zero_add]; exact hv
theorem row_sl {w : World} {b : Nat} {A : Array Value} {t : TypeId} {fr : Nat × Nat} (h : w.heap[b]? = some (.cells A t fr)) (n : Nat) (hn : A.size = n) : Sl w (some ⟨b, 0, none⟩) 1 1 n A.toList :=
  ⟨by rw [Array.length_toList, hn, Nat.one_mul], by omega, by omega, fun h => (by cases h), fun a ha j u hu => by
    obtain rfl := Option.some.inj ha
    rw [add_none]
    exact row_rangeC h j u hu⟩
/-- a chain while a call is at work: how high it is, and how long, is left open -/
structure ChMid (w : World) (base cb depth height : Nat) (ds : List BlkD) (p : Option Addr) (c : Nat) (rows : List (List Value)) : Prop where
  row : w.heap[cb]? = some (.cells (chA depth height p ds.length c) 70 (0, 0))
  low : base ≤ cb
  keeps : World.keepsRow w base 33 65 (.slice p ds.length c) ds.length rows.flatten
  count : rows.length = ds.length
  each : ∀ (i : Nat) r d, rows[i]? = some r → ds[i]? = some d → ChB w base r d
  few : ∀ d ∈ ds, d.txs.length ≤ 1099511627776
theorem ChMid.below {w w' : World} {base cb depth height : Nat} {ds : List BlkD} {p : Option Addr} {c : Nat} {rows : List (List Value)} (h : ChMid w base cb depth height ds p c rows) (hb : Below w.heap.size w w') : ChMid w' base cb depth height ds p c rows :=
  ⟨Below.keepOld hb h.row, h.low, keeps_below h.keeps hb, h.count, fun i r d h1 h2 => (h.each i r d h1 h2).below hb, h.few⟩
theorem ChAt.mid {w : World} {base cb depth height : Nat} {ds : List BlkD} {p : Option Addr} {c : Nat} {rows : List (List Value)} (h : ChAt w base cb depth height ds p c rows) : ChMid w base cb depth height ds p c rows := ⟨h.row, h.low, h.keeps, h.count, h.each, h.few⟩
theorem ChMid.at {w : World} {base cb depth height : Nat} {ds : List BlkD} {p : Option Addr} {c : Nat} {rows : List (List Value)} (h : ChMid w base cb depth height ds p c rows) (h1 : 1 ≤ depth ∧ depth ≤ 16) (h2 : ds.length ≤ depth + 1 ∧ height ≤ 4294967295) : ChAt w base cb depth height ds p c rows := ⟨h.row, h.low, h.keeps, h.count, h.each, h1, h2, h.few⟩
/-- what a chain's calls may turn -/
def ChOwn (cb : Nat) (p : Option Addr) (n c : Nat) (i : Nat) : Prop := i = cb ∨ (Value.slice p n c).ownBlock = some i
theorem ChMid.noId {w : World} {base cb depth height : Nat} {ds : List BlkD} {p : Option Addr} {c : Nat} {rows : List (List Value)} (h : ChMid w base cb depth height ds p c rows) :
    ∀ k M fr, w.heap[k]? = some (.cells M 30 fr) → ¬ ChOwn cb p ds.length c k := by
  intro k M fr hk hs
  rcases hs with hs | hs
  · subst hs
    rw [h.row] at hk
    injection hk with e1
    injection e1 with _ e2
    exact absurd e2 (by decide)
  · exact keeps_ne_cells h.keeps hk (by decide) _ hs rfl
/-- its rows are the same, where nothing but its own blocks has turned -/
theorem ChMid.eachOn {w w' : World} {base cb depth height : Nat} {ds : List BlkD} {p : Option Addr} {c : Nat} {rows : List (List Value)} (h : ChMid w base cb depth height ds p c rows) (ht : Turns (ChOwn cb p ds.length c) w w') :
    ∀ (i : Nat) r d, rows[i]? = some r → ds[i]? = some d → ChB w' base r d := fun i r d h1 h2 => (h.each i r d h1 h2).touch ht h.noId
theorem get_snoc {α : Type} {l : List α} {x y : α} {i : Nat} (h : (l ++ [x])[i]? = some y) : l[i]? = some y ∨ i = l.length ∧ y = x := by
  by_cases hi : i < l.length
  · rw [List.getElem?_append_left hi] at h; exact .inl h
  · rw [List.getElem?_append_right (by omega)] at h
    have : i - l.length = 0 := by
      cases hj : i - l.length with
      | zero => rfl
      | succ j => rw [hj] at h; simp at h
    rw [this] at h
    simp at h
    exact .inr ⟨by omega, h.symm⟩
/-- what is left of a block put to the window -/
def PutP (base cb depth height : Nat) (ds : List BlkD) (b : BlkD) (p : Option Addr) (c : Nat) (w w' : World) : Prop :=
  ∃ p' c' rows', ChMid w' base cb depth height (ds ++ [b]) p' c' rows' ∧ p' ≠ none ∧ Turns (ChOwn cb p ds.length c) w w' ∧ ∀ k, (Value.slice p' (ds ++ [b]).length c').ownBlock = some k → (Value.slice p ds.length c).ownBlock = some k ∨ w.heap.size ≤ k
theorem put_mid {base cb depth height : Nat} {ds : List BlkD} {p : Option Addr} {c : Nat} {rows : List (List Value)} {b : BlkD} {w2 w5 : World} (h : ChMid w2 base cb depth height ds p c rows) (hb : base ≤ w2.heap.size)
    {p2 p' : Option Addr} {c2 c' B : Nat} (hbl : b.hash.length = 32 ∧ b.par.length = 32 ∧ (∀ x ∈ b.txs, x.length = 32) ∧ b.txs.length ≤ 1099511627776) (hB : w2.heap.size ≤ B) (ho : w5.ownsRow B 30 32 (.slice p2 b.txs.length c2) b.txs.length (b.txs.flatMap bytesV))
    (hk : World.keepsRow w5 base 33 65 (.slice p' (ds.length + 1) c') (ds.length + 1) (rows.flatten ++ (blkA b.hash b.par p2 b.txs.length c2).toList)) (hp : p' ≠ none)
    (ht : Turns (fun i => (Value.slice p ds.length c).ownBlock = some i) w2 w5) (hn : ∀ k, (Value.slice p' (ds.length + 1) c').ownBlock = some k → (Value.slice p ds.length c).ownBlock = some k ∨ w2.heap.size ≤ k) :
    PutP base cb depth height ds b p c w2 (w5.setCell ⟨cb, 2, none⟩ (.slice p' (ds.length + 1) c')) := by
  have hl : (ds ++ [b]).length = ds.length + 1 := by simp
  have hcb : cb < w2.heap.size := (Array.getElem?_eq_some_iff.1 h.row).1
  have hne : ∀ i, (Value.slice p ds.length c).ownBlock = some i → ¬ i = cb := keeps_ne_cells h.keeps h.row (by decide)
  have hr5 : w5.heap[cb]? = some (.cells (chA depth height p ds.length c) 70 (0, 0)) := ht.keep h.row (fun hi => hne _ hi rfl)
  have hnc : ∀ k, (Value.slice p' (ds.length + 1) c').ownBlock = some k → ¬ k = cb := keeps_ne_cells hk hr5 (by decide)
  have hts : Turns (fun i => i = cb) w5 (w5.setCell ⟨cb, 2, none⟩ (.slice p' (ds.length + 1) c')) := (Turns.refl (fun i => i = cb) w5).setCell (p := ⟨cb, 2, none⟩) (fun _ => rfl) _
  have hT : Turns (ChOwn cb p ds.length c) w2 (w5.setCell ⟨cb, 2, none⟩ (.slice p' (ds.length + 1) c')) := (ht.imp (S' := ChOwn cb p ds.length c) (fun _ _ hi => .inr hi)).trans hts (fun i _ hi => .inl hi)
  refine ⟨p', c', rows ++ [(blkA b.hash b.par p2 b.txs.length c2).toList], ⟨?_, h.low, ?_, by rw [hl]; simp [h.count], ?_, ?_⟩, hp, hT, by rw [hl]; exact hn⟩
  · rw [hl, heap_setCell_same _ _ _ _ _ _ hr5]
    rfl
  · rw [hl, List.flatten_append]
    refine keeps_touch (by simpa using hk) hts (fun k hk' e => hnc k hk' e)
  · intro i r d h1 h2
    rcases get_snoc h1 with h1 | ⟨hi, h1⟩
    · rcases get_snoc h2 with h2 | ⟨hj, h2⟩
      · exact h.eachOn hT i r d h1 h2
      · have := (List.getElem?_eq_some_iff.1 h1).1
        have := h.count
        omega
    · rcases get_snoc h2 with h2 | ⟨hj, h2⟩
      · have := (List.getElem?_eq_some_iff.1 h2).1
        have := h.count
        omega
      · subst h1 h2
        refine ⟨p2, c2, rfl, hbl.1, hbl.2.1, hbl.2.2.1, own_base (own_touch ho hts (fun k hk' e => ?_)) (fun k hk' => ?_)⟩
        · have := (ho.lt k hk').1; omega
        · have := (ho.lt k hk').1; omega
  · intro d hd
    rcases List.mem_append.1 hd with hd | hd
    · exact h.few d hd
    · rw [List.mem_singleton] at hd; rw [hd]; exact hbl.2.2.2
theorem own_below_alloc {w : World} {base e size n : Nat} {v : Value} {xs : List Value} (h : w.ownsRow base e size v n xs) (o : Obj) : (w.alloc o).ownsRow base e size v n xs :=
  own_touch h (Turns.of_below (S := fun _ => False) (Below.allocs w o)) (fun _ _ h => h)
/-- cut to the depth, and one more -/
def cutD (depth : Nat) (ds : List BlkD) : List BlkD := if depth + 1 < ds.length then ds.drop 1 else ds
theorem cutD_len {depth height : Nat} {ds : List BlkD} {b : BlkD} (h : ds.length ≤ height) : (cutD depth (ds ++ [b])).length ≤ height + 1 := by
  unfold cutD
  split
  · simp; omega
  · simp; omega
def ConnP (base cb depth height : Nat) (ds : List BlkD) (b : BlkD) (p : Option Addr) (c : Nat) (w : World) (e : Ending) (w' : World) : Prop := e = .returned (.int .i64 0) ∧
  ∃ p' c' rows', ChAt w' base cb depth (height + 1) (cutD depth (ds ++ [b])) p' c' rows' ∧ p' ≠ none ∧ Turns (ChOwn cb p ds.length c) w w' ∧ ∀ k, (Value.slice p' (cutD depth (ds ++ [b])).length c').ownBlock = some k → (Value.slice p ds.length c).ownBlock = some k ∨ w.heap.size ≤ k
theorem may_height {ds : List BlkD} {height : Nat} {b : BlkD} (h : mayE ds height b = 0) : ¬ height = 4294967295 := by
  intro e
  unfold mayE at h
  rw [if_pos e] at h
  split at h
  · omega
  · split at h <;> omega
theorem sl_dropped {w : World} {b o n c size k : Nat} {vs : List Value} (h : Sl w (some ⟨b, o, none⟩) n c size vs) (hk : k ≤ n) : Sl w (some ⟨b, o + k * size, none⟩) (n - k) (c - k) size (vs.drop (k * size)) :=
  ⟨by rw [List.length_drop, h.len, Nat.sub_mul], by have := h.le; omega, by have := h.max; omega, fun e => (by cases e), fun a ha j u hu => by
    obtain rfl := Option.some.inj ha
    rw [add_none, Nat.add_assoc]
    rw [List.getElem?_drop] at hu
    exact h.at hu⟩
theorem mid_cut {base cb depth height : Nat} {ds : List BlkD} {p p' : Option Addr} {c c' n' : Nat} {rows : List (List Value)} {w7 w8 : World} (h : ChMid w7 base cb depth height ds p c rows) (hb : base ≤ w7.heap.size) (hd : 0 < ds.length)
    (ho : w8.ownsRow w7.heap.size 33 65 (.slice p' n' c') n' (rows.flatten.drop 65)) (hn : n' = ds.length - 1) (ht : Below w7.heap.size w7 w8) :
    ChMid (w8.setCell ⟨cb, 2, none⟩ (.slice p' n' c')) base cb depth height (ds.drop 1) p' c' (rows.drop 1) ∧ Turns (fun i => i = cb) w7 (w8.setCell ⟨cb, 2, none⟩ (.slice p' n' c')) ∧ (∀ k, (Value.slice p' n' c').ownBlock = some k → w7.heap.size ≤ k) := by
  have hcb : cb < w7.heap.size := (Array.getElem?_eq_some_iff.1 h.row).1
  have hl : (ds.drop 1).length = n' := by rw [List.length_drop]; exact hn.symm
  have hown : ∀ k, (Value.slice p' n' c').ownBlock = some k → w7.heap.size ≤ k := fun k hk => (ho.lt k hk).1
  have hr8 := Below.keepOld ht h.row
  have hts : Turns (fun i => i = cb) w8 (w8.setCell ⟨cb, 2, none⟩ (.slice p' n' c')) := (Turns.refl (fun i => i = cb) w8).setCell (p := ⟨cb, 2, none⟩) (fun _ => rfl) _
  have hT : Turns (fun i => i = cb) w7 (w8.setCell ⟨cb, 2, none⟩ (.slice p' n' c')) := (Turns.of_below (S := fun i => i = cb) ht).trans hts (fun _ _ h => h)
  have hT2 : Turns (ChOwn cb p ds.length c) w7 (w8.setCell ⟨cb, 2, none⟩ (.slice p' n' c')) := hT.imp (fun _ _ h => .inl h)
  obtain ⟨r0, rs, rfl⟩ : ∃ r0 rs, rows = r0 :: rs := by
    cases rows with
    | nil => have := h.count; simp at this; omega
    | cons r0 rs => exact ⟨r0, rs, rfl⟩
  obtain ⟨d0, dr, rfl⟩ : ∃ d0 dr, ds = d0 :: dr := by
    cases ds with
    | nil => simp at hd
    | cons d0 dr => exact ⟨d0, dr, rfl⟩
  have hr0 := (h.each 0 r0 d0 rfl rfl).len
  have hfl : ((r0 :: rs).flatten).drop 65 = rs.flatten := by
    rw [List.flatten_cons, List.drop_append_of_le_length (by omega), List.drop_of_length_le (by omega), List.nil_append]
  rw [hfl] at ho
  refine ⟨⟨?_, h.low, ?_, by have := h.count; simpa using this, ?_, fun d hd => h.few d (List.mem_of_mem_drop hd)⟩, hT, hown⟩
  · rw [hl, heap_setCell_same _ _ _ _ _ _ hr8]
    rfl
  · rw [hl]
    exact keeps_of_owns (own_base (own_touch ho hts (fun k hk e => by have := hown k hk; omega)) (fun k hk => by have := hown k hk; omega))
  · intro i r d h1 h2
    exact h.eachOn hT2 (i + 1) r d (by simpa using h1) (by simpa using h2)
theorem mid_high {base cb depth height height' : Nat} {ds : List BlkD} {p : Option Addr} {c : Nat} {rows : List (List Value)} {w : World} (h : ChMid w base cb depth height ds p c rows) :
    ChMid (w.setCell ⟨cb, 1, none⟩ (.int .u32 (height' : Int))) base cb depth height' ds p c rows ∧ Turns (fun i => i = cb) w (w.setCell ⟨cb, 1, none⟩ (.int .u32 (height' : Int))) := by
  have hts : Turns (fun i => i = cb) w (w.setCell ⟨cb, 1, none⟩ (.int .u32 (height' : Int))) := (Turns.refl (fun i => i = cb) w).setCell (p := ⟨cb, 1, none⟩) (fun _ => rfl) _
  refine ⟨⟨?_, h.low, keeps_touch h.keeps hts (fun k hk e => keeps_ne_cells h.keeps h.row (by decide) k hk e), h.count, ?_, h.few⟩, hts⟩
  · rw [heap_setCell_same _ _ _ _ _ _ h.row]
    rfl
  · intro i r d h1 h2
    exact h.eachOn (hts.imp (fun _ _ h => .inl h)) i r d h1 h2

theorem conn_end {base cb depth height : Nat} {ds : List BlkD} {b : BlkD} {p : Option Addr} {c : Nat} {w w9 : World} {p9 : Option Addr} {c9 : Nat} {rows9 : List (List Value)} (hd : 1 ≤ depth ∧ depth ≤ 16) (hm : ds.length ≤ depth + 1 ∧ height ≤ 4294967295) (hh : ¬ height = 4294967295)
    (h : ChMid w9 base cb depth height (cutD depth (ds ++ [b])) p9 c9 rows9) (hp : p9 ≠ none) (ht : Turns (ChOwn cb p ds.length c) w w9) (hn : ∀ k, (Value.slice p9 (cutD depth (ds ++ [b])).length c9).ownBlock = some k → (Value.slice p ds.length c).ownBlock = some k ∨ w.heap.size ≤ k) :
    ConnP base cb depth height ds b p c w (.returned (.int .i64 0)) (w9.setCell ⟨cb, 1, none⟩ (.int .u32 ((height : Int) + 1))) := by
  obtain ⟨h1, h2⟩ := mid_high (height' := height + 1) h
  have hlen : (cutD depth (ds ++ [b])).length ≤ depth + 1 := by
    unfold cutD
    split
    · simp; omega
    · rename_i hx
      simp at hx ⊢
      omega
  exact ⟨rfl, p9, c9, rows9, h1.at hd ⟨hlen, by omega⟩, hp, ht.trans h2 (fun _ _ hi => .inl hi), hn⟩
set_option maxRecDepth 100000 in
set_option maxHeartbeats 800000 in
theorem connect_ok {base cb depth height : Nat} {ds : List BlkD} {p : Option Addr} {c : Nat} {rows : List (List Value)} (w : World) (h : ChAt w base cb depth height ds p c rows) (hbase : base ≤ w.heap.size) (M : Array Value) (b : BlkD) (q : Option Addr) (n cc : Nat) (hM : BlkAt w M b q n cc) (hn : n ≤ 1099511627776) (hok : mayE ds height b = 0) :
    Calls Try.prog 13 #[.pointer (some ⟨cb, 0, none⟩), .agg M] w (ConnP base cb depth height ds b p c w) := by
  have hb1 : Below w.heap.size w (w.alloc (.cells M 33)) := Below.allocs _ _
  have HHT := Lib.hid (may_height hok)
  have H := Lib.hid h
  have HM := Lib.hid hM
  have HB1 := Lib.hid hb1
  have H1 := Lib.hid (h.below hb1)
  have HM1 := Lib.hid (hM.below hb1)
  have HS := Lib.hid hM.size
  have HR1 := Lib.hid (heap_alloc_last w (.cells M 33))
  clear h hM hb1
  go_enter Try.func13, Try.ntmps13
  go_wp2_with ((with_reducible refine wpAt 7 ?_); refine wpList_load_row rfl 33 _ rfl w.heap.size rfl 33 M (0, 0) _ HR1.out Try.underlying33 rfl (infoBlk _ HS.out) ?_)
  refine (may_any _ H1.out M b _ _ _ HM1.out).mono ?_
  rintro e w2 ⟨rfl, hb2⟩
  rw [hok]
  have HB2 := Lib.hid (HB1.out.trans (hb2.mono HB1.out.size))
  have HR2 := Lib.hid (Below.keepOld hb2 HR1.out)
  clear hb2 hok
  have H2 := Lib.hid (H.out.below HB2.out)
  have HNE : Hid (∀ i, (Value.slice p ds.length c).ownBlock = some i → ¬ i = cb) := keeps_ne_cells H2.out.keeps H2.out.row (by decide)
  have HNM : Hid (∀ i, (Value.slice p ds.length c).ownBlock = some i → ¬ i = w.heap.size) := fun i hi e => by have := (keeps_lt H.out.keeps i hi).2; omega
  have hk : Hid (∀ w', Turns (fun i => (Value.slice p ds.length c).ownBlock = some i) w2 w' → w'.cell? ⟨cb, 2, none⟩ = some (.slice p ds.length c)) := fun w' ht => ht.cell H2.out.cells.2.2.1 (fun hi => HNE.out _ hi rfl)
  have hkM : Hid (∀ w', Turns (fun i => (Value.slice p ds.length c).ownBlock = some i) w2 w' → w'.rangeAt w.heap.size 0 M.toList) := fun w' ht => row_rangeC (ht.keep HR2.out (fun hi => HNM.out _ hi rfl))
  have HN : Hid (n = b.txs.length) := HM.out.ids.count.symm
  have HNL := Lib.hid hn
  clear hn
  go_upto_region 4 with fail
  refine wp_region_eager_t (Turns (fun i => (Value.slice p ds.length c).ownBlock = some i) w2) [0, 1, 2, 3, 4, 5, 9, 10] [(0, true), (1, true), (2, true), (3, true), (4, true), (5, true), (6, false), (7, false), (8, false), (9, true), (10, true)] [11] (by kernel_rfl) (by kernel_rfl) ?_ (eagerTOpen rfl ?_)
  · exact (Turns.refl _ _).drew
  have hy0 : Turns (fun i => (Value.slice p ds.length c).ownBlock = some i) w2 w2.drew := (Turns.refl _ _).drew
  repeat (first
    | ((with_reducible refine eagerTLoadAt 3 ?_); refine wpEagerT_load (by rfl) 33 _ rfl w.heap.size 0 rfl M _ (fun w' hb => hkM.out w' hb) Try.underlying33 rfl (infoBlk _ HS.out) ?_; (try simp only [Act.put, List.setIfInBounds_toArray, List.set_cons_zero, List.set_cons_succ]); (try refine eagerTOpen rfl ?_))
    | (first | (apply wpEagerT_take; (· rfl); (· (intro w' hb'; go_simp; try with_reducible rfl)); (try simp only [Act.put, List.setIfInBounds_toArray, List.set_cons_zero, List.set_cons_succ]); (try refine eagerTOpen rfl ?_)) | (refine wpEagerT_skip (by rfl) ?_; (try simp only [Act.put, List.setIfInBounds_toArray, List.set_cons_zero, List.set_cons_succ]); (try refine eagerTOpen rfl ?_)))
    | (apply wpEagerT_take; (· rfl); (· (intro w' hb'; have hk' := (hk.out) w' hb'; go_split_ands; go_simp; try with_reducible rfl)); (try simp only [Act.put, List.setIfInBounds_toArray, List.set_cons_zero, List.set_cons_succ]); (try refine eagerTOpen rfl ?_)))
  (refine wpEagerT_op (by rfl) (fun K hK => ?_); go_simp; (refine (copy_any M b _ _ _ _ (HM.out.below (HB2.out.trans (below_drew1 _ _))) HNL.out).mono ?_; rintro e y ⟨p2, c2, rfl, ho, hb⟩; have HO := Lib.hid ho; have HBY := Lib.hid hb; have hy1 : Turns (fun i => (Value.slice p ds.length c).ownBlock = some i) w2 y := hy0.trans (Turns.of_below (S := fun _ => False) hb) (fun _ _ h => h.elim); clear ho hb); refine Shut.out hK _ _ (by assumption) ?_; clear hK K; (try simp only [Act.put, List.setIfInBounds_toArray, List.set_cons_zero, List.set_cons_succ]); (try refine eagerTOpen rfl ?_))
  have HN2 : Hid (BlkAt y (blkA b.hash b.par p2 b.txs.length c2) b p2 b.txs.length c2) := own_blk HM.out.hlen HM.out.plen HM.out.ids.each rfl HO.out
  refine wpEagerT_op (by rfl) (fun K hK => oper_of_list rfl ?_)
  refine wpList_buildOne rfl 37 33 _ rfl (blkA b.hash b.par p2 b.txs.length c2) rfl 65 Try.underlying37 (by kernel_rfl) (by omega) (by omega) HN2.out.size ?_
  have HRN := Lib.hid (heap_alloc_last y (.cells (blkA b.hash b.par p2 b.txs.length c2) 33))
  have hy2 : Turns (fun i => (Value.slice p ds.length c).ownBlock = some i) w2 (y.alloc (.cells (blkA b.hash b.par p2 b.txs.length c2) 33)) := hy1.alloc _
  refine only_end (Shut.out hK _ _ hy2 ?_)
  clear hK K
  (try simp only [Act.put, List.setIfInBounds_toArray, List.set_cons_zero, List.set_cons_succ]); (try refine eagerTOpen rfl ?_)
  refine wpEagerT_op (by rfl) (fun K hK => oper_of_list rfl ?_)
  have hy2s : w2.heap.size ≤ (y.alloc (.cells (blkA b.hash b.par p2 b.txs.length c2) 33)).heap.size := hy2.size
  have hby : Below w2.heap.size w2 y := (below_drew1 _ _).trans HBY.out
  have HBYA : Hid (Below w2.heap.size w2 (y.alloc (.cells (blkA b.hash b.par p2 b.txs.length c2) 33))) := hby.alloc hby.size _
  have hkeep := keeps_below H2.out.keeps HBYA.out
  have HONE : Hid (∀ u ∈ (blkA b.hash b.par p2 b.txs.length c2).toList, u.oneCell' = true) := fun u hu => List.all_eq_true.1 (by rw [Array.all_toList]; exact HN2.out.one) u hu
  have HBS : Hid (base ≤ (y.alloc (.cells (blkA b.hash b.par p2 b.txs.length c2) 33)).heap.size) := Nat.le_trans hbase (Nat.le_trans HB2.out.size HBYA.out.size)
  have hmany := H.out.many
  obtain ⟨hd1, hd2⟩ := H.out.depth1
  refine wpList_append_keeps rfl _ _ 37 rfl (base := base) Try.underlying37 infoBlocks zblk_size (by omega) rfl hkeep rfl (row_sl HRN.out 65 HN2.out.size) HONE.out (by omega) (by omega) HBS.out ?_
  intro p' c' w5 hkp hgr hnx hpn
  have hy5 : Turns (fun i => (Value.slice p ds.length c).ownBlock = some i) w2 w5 := hy2.trans (Turns.grown hgr (S := fun i => (Value.slice p ds.length c).ownBlock = some i) (fun k hk => hk)) (fun _ _ h => h)
  refine only_end (Shut.out hK _ _ hy5 ?_)
  clear hK K
  (try simp only [Act.put, List.setIfInBounds_toArray, List.set_cons_zero, List.set_cons_succ]); (try refine eagerTOpen rfl ?_)
  repeat (first | (apply wpEagerT_take; (· rfl); (· (intro w' hb'; go_simp; try with_reducible rfl)); (try simp only [Act.put, List.setIfInBounds_toArray, List.set_cons_zero, List.set_cons_succ]); (try refine eagerTOpen rfl ?_)) | (refine wpEagerT_skip (by rfl) ?_; (try simp only [Act.put, List.setIfInBounds_toArray, List.set_cons_zero, List.set_cons_succ]); (try refine eagerTOpen rfl ?_)))
  refine eagerTEnd (tail1 rfl ?_)
  have HBY2 : Hid (w2.heap.size ≤ y.heap.size) := hby.size
  have hwl : ∀ k, (Value.slice p ds.length c).ownBlock = some k → k < w2.heap.size := fun k hk => (keeps_lt H2.out.keeps k hk).2
  have ho5 : w5.ownsRow w2.heap.size 30 32 (.slice p2 b.txs.length c2) b.txs.length (b.txs.flatMap bytesV) :=
    own_touch (own_below_alloc HO.out (.cells (blkA b.hash b.par p2 b.txs.length c2) 33)) (Turns.grown hgr (S := fun i => (Value.slice p ds.length c).ownBlock = some i) (fun k hk => hk)) (fun k hk hs => by have h1 := (HO.out.lt k hk).1; have h2 := hwl k hs; have h3 : w2.drew.heap.size = w2.heap.size := rfl; omega)
  have HP := Lib.hid (put_mid H2.out.mid (Nat.le_trans hbase HB2.out.size) ⟨HM.out.hlen, HM.out.plen, HM.out.ids.each, by rw [← HN.out]; exact HNL.out⟩ (Nat.le_refl _) ho5 hkp hpn hy5 (fun k hk => (hnx k hk).imp id (fun h => Nat.le_trans hy2s h)))
  have hc5 : w5.cell? ⟨cb, 2, none⟩ = some (.slice p ds.length c) := hk.out w5 hy5
  have hf5 : w5.frozen? ⟨cb, 2, none⟩ = false := frozen_of_row _ _ _ _ _ (hy5.keep H2.out.row (fun hi => HNE.out _ hi rfl))
  clear hy0 hy1 hy2 hy5 hkp hgr hnx ho5 hwl hkeep hby hy2s hpn
  clear HBY HBYA HBS HRN HONE HN2 HO
  go_wp2_with fail
  refine noPanic_end ?_
  obtain ⟨p6, c6, rows6, hmid6, hp6, hT6, hn6⟩ := HP.out
  clear HP hc5 hf5
  generalize w5.setCell ⟨cb, 2, none⟩ (.slice p' (ds.length + 1) c') = w6 at *
  have HL6 : Hid ((ds ++ [b]).length = ds.length + 1) := by show _ = _; simp
  have HCD : Hid (cutD depth (ds ++ [b]) = if depth + 1 < (ds ++ [b]).length then (ds ++ [b]).drop 1 else ds ++ [b]) := rfl
  generalize hds6 : ds ++ [b] = ds6 at *
  have HDS6 := Lib.hid hds6
  have HM6 := Lib.hid hmid6
  have HP6 := Lib.hid hp6
  have HT6 := Lib.hid hT6
  have HN6 := Lib.hid hn6
  clear hds6 hmid6 hp6 hT6 hn6
  have hrow6 := HM6.out.row
  have hc60 : w6.cell? ⟨cb, 0, none⟩ = some (.int .i64 (depth : Int)) := by rw [cell_of_row _ _ _ _ _ _ hrow6]; rfl
  have hc62 : w6.cell? ⟨cb, 2, none⟩ = some (.slice p6 ds6.length c6) := by rw [cell_of_row _ _ _ _ _ _ hrow6]; rfl
  have hg1 := cell_grown hc60
  have hg2 := cell_grown hc62
  have hwd : IntKind.i64.wrap ((depth : Int) + 1) = (depth : Int) + 1 := IntWalk.i64_in _ (by omega)
  clear hrow6 hc60 hc62
  go_wp2_with fail
  refine wp_region_grow (by kernel_rfl) (by kernel_rfl) ?_
  repeat (first
    | quiet_step (fail))
  refine wpQuiet_nil ?_
  intro w7 hb7
  clear hg1 hg2 hwd
  have HM7 := Lib.hid (HM6.out.below hb7)
  have HB7 := Lib.hid hb7
  clear hb7
  have hrow7 := HM7.out.row
  by_cases hlt : depth + 1 < ds6.length
  · have hdt : decide ((depth : Int) + 1 < (ds6.length : Int)) = true := decide_eq_true (by omega)
    obtain ⟨g, rfl, hgc⟩ : ∃ g, p6 = some ⟨g, 0, none⟩ ∧ ds6.length ≤ c6 ∧ c6 ≤ 9223372036854775807 := by
      rcases HM7.out.keeps.2 with ⟨hv, _⟩ | ⟨g, cap, cur, hv, _, _, h1, h2, _⟩
      · exact absurd (by injection hv) HP6.out
      · cases hv; exact ⟨g, rfl, h1, by simpa [maxLen] using h2⟩
    obtain ⟨hgc, hgm⟩ := hgc
    have hc72 : w7.cell? ⟨cb, 2, none⟩ = some (.slice (some ⟨g, 0, none⟩) ds6.length c6) := by rw [cell_of_row _ _ _ _ _ _ hrow7]; rfl
    have hf72 : w7.frozen? ⟨cb, 2, none⟩ = false := frozen_of_row _ _ _ _ _ hrow7
    have hne1 : ¬ c6 = 1 := by omega
    clear hrow7
    have HSL : Hid (Sl w7 (some ⟨g, 65, none⟩) (ds6.length - 1) (c6 - 1) 65 (rows6.flatten.drop 65)) := by
      obtain ⟨p9, c9, e9, hsl⟩ := keeps_sl HM7.out.keeps
      cases e9
      have := sl_dropped (k := 1) hsl (by omega)
      show Sl _ _ _ _ _ _
      simpa using this
    have HONE : Hid (∀ u ∈ rows6.flatten.drop 65, u.oneCell' = true) := fun u hu => by
      obtain ⟨r, hr, hu⟩ := List.mem_flatten.1 (List.mem_of_mem_drop hu)
      obtain ⟨i, hi⟩ := List.mem_iff_getElem?.1 hr
      have hl := (List.getElem?_eq_some_iff.1 hi).1
      obtain ⟨q', c', e1, hb⟩ := (HM7.out.each i r _ hi (List.getElem?_eq_getElem (by have := HM7.out.count; omega))).blk
      rw [e1] at hu
      exact List.all_eq_true.1 (by rw [Array.all_toList]; exact hb.one) u hu
    have HLB : Hid (ds6.length ≤ 18) := by show _ ≤ _; have := HL6.out; omega
    have HBA : Hid (base ≤ w7.heap.size) := Nat.le_trans hbase (Nat.le_trans HB2.out.size (Nat.le_trans HT6.out.size HB7.out.size))
    go_wp2_with (at_builtin; refine wpList_append_nx rfl _ _ 37 rfl (base := w7.heap.size) Try.underlying37 infoBlocks zblk_size (by omega) rfl (World.ownsRow_nil _ _ _ _) rfl HSL.out HONE.out ⟨by have := HLB.out; omega, by have := HLB.out; omega⟩ (Nat.le_refl _) ?_)
    intro p8 c8 w8 ho8 hg8 hnx8 hz8
    have hb8 : Below w7.heap.size w7 w8 := (Below.refl _ _).grown hg8 (Nat.le_refl _) (fun k hk => by simp [Value.ownBlock] at hk)
    have hrow8 := Below.keepOld hb8 HM7.out.row
    obtain ⟨hmid9, hT9, hn9⟩ := mid_cut HM7.out HBA.out (by omega) ho8 rfl hb8
    have hp9 : p8 ≠ none := fun e => by have := hz8.1 e; omega
    have hcut : cutD depth (ds ++ [b]) = ds6.drop 1 := by rw [HDS6.out, HCD.out, if_pos hlt]
    have HE := Lib.hid (conn_end (b := b) (p := p) (c := c) (w := w) H.out.depth1 H.out.many HHT.out (by rw [hcut]; exact hmid9) hp9
      ((Turns.of_below (S := ChOwn cb p ds.length c) HB2.out).trans (HT6.out.trans ((Turns.of_below (S := ChOwn cb p ds.length c) HB7.out).trans hT9 (fun _ _ h => .inl h)) (fun _ _ h => h)) (fun _ _ h => h))
      (fun k hk => .inr (by
        have h1 : (ds6.drop 1).length = ds6.length - 1 := List.length_drop
        rw [hcut, h1] at hk
        exact Nat.le_trans HB2.out.size (Nat.le_trans HT6.out.size (Nat.le_trans HB7.out.size (hn9 k hk))))))
    have hc82 : w8.cell? ⟨cb, 2, none⟩ = some (.slice (some ⟨g, 0, none⟩) ds6.length c6) := by rw [cell_of_row _ _ _ _ _ _ hrow8]; rfl
    have hf82 : w8.frozen? ⟨cb, 2, none⟩ = false := frozen_of_row _ _ _ _ _ hrow8
    have hc81 : w8.cell? ⟨cb, 1, none⟩ = some (.int .u32 (height : Int)) := by rw [cell_of_row _ _ _ _ _ _ hrow8]; rfl
    have hf81 : w8.frozen? ⟨cb, 1, none⟩ = false := frozen_of_row _ _ _ _ _ hrow8
    have hht : height + 1 ≤ 4294967295 := by have := HHT.out; omega
    clear hb8 hrow8 hmid9 hT9 hn9 hp9 hcut ho8 hg8 hnx8 hz8 hc72 hf72 hlt
    go_wp2_with fail
    go_ret
    exact HE.out
  · have hdt : decide ((depth : Int) + 1 < (ds6.length : Int)) = false := decide_eq_false (by omega)
    have hcut : cutD depth (ds ++ [b]) = ds6 := by rw [HDS6.out, HCD.out, if_neg hlt]
    have HE := Lib.hid (conn_end (b := b) (p := p) (c := c) (w := w) H.out.depth1 H.out.many HHT.out (by rw [hcut]; exact HM7.out) HP6.out
      ((Turns.of_below (S := ChOwn cb p ds.length c) HB2.out).trans (HT6.out.trans (Turns.of_below (S := ChOwn cb p ds.length c) HB7.out) (fun _ _ h => h)) (fun _ _ h => h))
      (fun k hk => by
        rw [hcut] at hk
        exact (HN6.out k hk).imp id (fun h => Nat.le_trans HB2.out.size h)))
    have hc81 : w7.cell? ⟨cb, 1, none⟩ = some (.int .u32 (height : Int)) := by rw [cell_of_row _ _ _ _ _ _ hrow7]; rfl
    have hf81 : w7.frozen? ⟨cb, 1, none⟩ = false := frozen_of_row _ _ _ _ _ hrow7
    have hht : height + 1 ≤ 4294967295 := by have := HHT.out; omega
    have hge : ds6.length ≤ depth + 1 := by omega
    clear hcut hrow7 hlt
    go_wp2_with fail
    go_ret
    exact HE.out
end Go.Proofs.Ytepemfgiigceoaa.Chn
