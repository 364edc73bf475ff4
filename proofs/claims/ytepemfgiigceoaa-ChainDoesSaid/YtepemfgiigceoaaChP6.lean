/- PARTS, JOINED: WHICH TRANSACTIONS OF A CHAIN HAVE A HINT: the chain's list is the document's. Plain. Conditions: none. WHICH TRANSACTIONS OF A CHAIN HAVE A HINT, the document's way. Conditions: windows of at most 1000 blocks of at most 1000000 ids. THE DOCUMENT'S CHAIN: the tip taken away. Conditions: none. WHICH CHAINS MAY BE, the document's way. Conditions: windows of at most 1000 blocks. A CHAIN AND AN OLD WINDOW, while the chain's calls are made. Conditions: none. A CHAIN CLONED. Conditions: none. -/
import Derived.Test.YtepemfgiigceoaaChP1
import Derived.Test.YtepemfgiigceoaaChP2
import Derived.Test.YtepemfgiigceoaaChP3
import Derived.Test.YtepemfgiigceoaaChP4
import Derived.Test.YtepemfgiigceoaaChP5
namespace Go.Proofs.Ytepemfgiigceoaa.Chn
open Go.RowKit Go.Mir Go.Mir.Parts Go.Proofs.Ytepemfgiigceoaa.Blk

theorem atN_inj {height n i j : Nat} (hn : n ≤ 4294967295) (hh : height ≤ 4294967295) (hi : i < n) (hj : j < n) (h : atN height n i = atN height n j) : i = j := by
  unfold atN at h
  omega
/-- what the document gathers -/
def addN (out : List (List UInt8)) (x : List UInt8) : List (List UInt8) := if x ∈ out then out else out ++ [x]
def rH (ds : List BlkD) (h : List UInt8) : Nat → List (List UInt8)
  | 0 => []
  | k + 1 => match ds[k]? with | some d => (hintedL h d.txs).foldl addN (rH ds h k) | none => rH ds h k
theorem foldl_addN : ∀ (l acc : List (List UInt8)), l.Nodup → l.foldl addN acc = acc ++ l.filter (fun x => decide (x ∉ acc))
  | [], acc, _ => by simp
  | x :: l, acc, hn => by
    rw [List.nodup_cons] at hn
    rw [List.foldl_cons, foldl_addN l _ hn.2, List.filter_cons]
    unfold addN
    by_cases hx : x ∈ acc
    · rw [if_pos hx, if_neg (by simpa using hx)]
    · rw [if_neg hx, if_pos (by simpa using hx), List.append_assoc]
      congr 1
      rw [List.singleton_append]
      congr 1
      apply List.filter_congr
      intro y hy
      have hyx : y ≠ x := fun e => hn.1 (e ▸ hy)
      simp [hyx]
/-- it stands first in block k, where it stands there and in none ahead -/
theorem firstB_iff {ds : List BlkD} {height k : Nat} {x : List UInt8} (hn : ds.length ≤ 4294967295) (hh : height ≤ 4294967295) (hk : k < ds.length) (hx : x ∈ ds[k].txs) :
    firstB ds height k x = true ↔ ∀ i (hi : i < k), x ∉ (ds[i]'(by omega)).txs := by
  have hsome : ∃ j, ds.findIdx? (fun d => d.txs.contains x) = some j ∧ j ≤ k := by
    cases hf : ds.findIdx? (fun d => d.txs.contains x) with
    | none =>
      rw [List.findIdx?_eq_none_iff] at hf
      have := hf ds[k] (List.getElem_mem hk)
      simp [hx] at this
    | some j =>
      refine ⟨j, rfl, ?_⟩
      obtain ⟨hj, h1, h2⟩ := List.findIdx?_eq_some_iff_getElem.1 hf
      rcases Nat.lt_or_ge k j with h | h
      · have := h2 k h
        simp [hx] at this
      · exact h
  obtain ⟨j, hj, hjk⟩ := hsome
  obtain ⟨hjl, h1, h2⟩ := List.findIdx?_eq_some_iff_getElem.1 hj
  have hv : firstB ds height k x = true ↔ j = k := by
    unfold firstB hasV
    rw [hj]
    constructor
    · intro h
      have h' : ((atN height ds.length j : Nat) : Int) = (atN height ds.length k : Int) := by simpa using h
      exact atN_inj hn hh hjl hk (by omega)
    · intro h; rw [h]; simp
  rw [hv]
  constructor
  · intro h i hi hm
    have := h2 i (by omega)
    simp [hm] at this
  · intro h
    rcases Nat.lt_or_ge j k with hlt | hge
    · exact absurd (by simpa using h1) (h j hlt)
    · omega
theorem mem_chH {ds : List BlkD} {height : Nat} {h : List UInt8} (hn : ds.length ≤ 4294967295) (hh : height ≤ 4294967295) (x : List UInt8) : ∀ k, k ≤ ds.length → (x ∈ chH ds height h k ↔ x.take 16 = h ∧ ∃ i, ∃ hi : i < ds.length, i < k ∧ x ∈ ds[i].txs)
  | 0, _ => by simp [chH]
  | k + 1, hk => by
    have hkl : k < ds.length := by omega
    rw [chH_step hkl, List.mem_append, mem_chH hn hh x k (by omega), List.mem_filter]
    unfold hintedL
    rw [List.mem_filter]
    constructor
    · rintro (⟨h1, i, hi, hik, hm⟩ | ⟨⟨hm, ht⟩, _⟩)
      · exact ⟨h1, i, hi, by omega, hm⟩
      · exact ⟨by simpa using ht, k, hkl, by omega, hm⟩
    · rintro ⟨h1, i, hi, hik, hm⟩
      by_cases hex : ∃ j, ∃ hj : j < ds.length, j < k ∧ x ∈ ds[j].txs
      · exact .inl ⟨h1, hex⟩
      · have hik' : i = k := by
          rcases Nat.lt_or_ge i k with hlt | hge
          · exact absurd ⟨i, hi, hlt, hm⟩ hex
          · omega
        subst hik'
        refine .inr ⟨⟨hm, by simpa using h1⟩, (firstB_iff hn hh hkl hm).2 fun j hj hmj => hex ⟨j, by omega, hj, hmj⟩⟩
/-- the two lists are one -/
theorem rH_eq {ds : List BlkD} {height : Nat} {h : List UInt8} (hn : ds.length ≤ 4294967295) (hh : height ≤ 4294967295) (hd : ∀ d ∈ ds, d.txs.Nodup) : ∀ k, k ≤ ds.length → rH ds h k = chH ds height h k
  | 0, _ => rfl
  | k + 1, hk => by
    have hkl : k < ds.length := by omega
    rw [chH_step hkl, rH, List.getElem?_eq_getElem hkl]
    dsimp only
    rw [rH_eq hn hh hd k (by omega)]
    have hnd : (hintedL h ds[k].txs).Nodup := (hd _ (List.getElem_mem hkl)).sublist List.filter_sublist
    rw [foldl_addN _ _ hnd]
    congr 1
    apply List.filter_congr
    intro x hx
    unfold hintedL at hx
    rw [List.mem_filter] at hx
    have h16 : x.take 16 = h := by simpa using hx.2
    rw [Bool.eq_iff_iff, decide_eq_true_iff, firstB_iff hn hh hkl hx.1, mem_chH hn hh x k (by omega)]
    constructor
    · intro hno i hi hm
      exact hno ⟨h16, i, by omega, hi, hm⟩
    · rintro hno ⟨_, i, hi, hik, hm⟩
      exact hno i hik hm
end Go.Proofs.Ytepemfgiigceoaa.Chn

namespace Go.Proofs.Ytepemfgiigceoaa.Chn
open Go.RowKit Go.Mir Go.Mir.Parts Go.Proofs.Ytepemfgiigceoaa.Blk

theorem wpQuiet_build {P : Program} {ops : Array Oper} {C : World → Prop} {Q : Act → Prop} {a : Act} {op : Oper} {rest : List Oper} (hw : Region.wanted op (yielded ops a.tmps) = true) (t : TypeId) (parts : Array (Nat × Operand)) (ho : op.op = .build t parts)
    (vals : List (Nat × Value)) (hv : (parts.toList.map fun p => (p.1, a.eval p.2)) = vals) (cells : Array Value) (hb : P.built t vals = some cells)
    (h : wpQuiet P ops C Q rest (a.put op.dst (.agg cells))) : wpQuiet P ops C Q (op :: rest) a := by
  have hb' : P.built t (parts.map fun p => (p.1, a.eval p.2)).toList = some cells := by rw [Array.toList_map, hv]; exact hb
  unfold wpQuiet
  rw [if_pos hw]
  refine ⟨.agg cells, fun w' hC => ?_, h⟩
  unfold Oper.quietAt execOp
  simp only [ho, Sem.run_bind, Sem.run_pure, Result.andThen_ok, run_build w' t _ cells hb']
  simp [Oper.quietUpon]
theorem build_bt (p : Option Addr) (n c : Nat) : Try.prog.built 33 [(2, .slice p n c)] = some (blkA zeros zeros p n c) := by kernel_rfl
theorem rH_len {ds : List BlkD} {B : Nat} (hf : ∀ d ∈ ds, d.txs.length ≤ B) (h : List UInt8) (k : Nat) : (rH ds h k).length ≤ k * B := by
  have key : ∀ (l acc : List (List UInt8)), (l.foldl addN acc).length ≤ acc.length + l.length := by
    intro l
    induction l with
    | nil => intro acc; simp
    | cons x l ih =>
      intro acc
      rw [List.foldl_cons]
      refine Nat.le_trans (ih _) ?_
      unfold addN
      split <;> simp <;> omega
  induction k with
  | zero => exact Nat.zero_le _
  | succ k ih =>
    rw [rH, Nat.succ_mul]
    cases hd : ds[k]? with
    | none => dsimp only; omega
    | some d =>
      dsimp only
      refine Nat.le_trans (key _ _) (Nat.add_le_add ih ?_)
      exact Nat.le_trans (List.length_filter_le _ _) (hf d (List.mem_of_getElem? hd))
theorem rH_step {ds : List BlkD} {h : List UInt8} {k : Nat} (hk : k < ds.length) : rH ds h (k + 1) = (hintedL h ds[k].txs).foldl addN (rH ds h k) := by
  rw [rH, List.getElem?_eq_getElem hk]
theorem addN_step {l acc : List (List UInt8)} {j : Nat} (hj : j < l.length) : (l.take (j + 1)).foldl addN acc = if l[j] ∈ (l.take j).foldl addN acc then (l.take j).foldl addN acc else (l.take j).foldl addN acc ++ [l[j]] := by
  rw [List.take_succ_eq_append_getElem hj, List.foldl_append]; rfl
theorem addN_len : ∀ (l acc : List (List UInt8)), (l.foldl addN acc).length ≤ acc.length + l.length := by
  intro l
  induction l with
  | nil => intro acc; simp
  | cons x l ih =>
    intro acc
    rw [List.foldl_cons]
    refine Nat.le_trans (ih _) ?_
    unfold addN
    split <;> simp <;> omega

structure RHR (w : World) (RC : Array Value) (hh : List UInt8) (ids : List (List UInt8)) (v : Value) (wr : World) : Prop where
  val : ∃ p c, v = .slice p ids.length c
  own : wr.ownsRow w.heap.size 30 32 v ids.length (ids.flatMap bytesV)
  each : ∀ x ∈ ids, x.length = 32
  rc : wr.heap[w.heap.size]? = some (.cells RC 41 (0, 0))
  hint : wr.heap[w.heap.size + 1]? = some (.cells (idA hh) 52 (0, 0))
  bel : Below w.heap.size w wr
theorem RHR.below {w w' wr : World} {RC : Array Value} {hh : List UInt8} {ids : List (List UInt8)} {v : Value} (h : RHR w RC hh ids v wr) (hb : Below wr.heap.size wr w') : RHR w RC hh ids v w' :=
  ⟨h.val, own_touch h.own (Turns.of_below (S := fun _ => False) hb) (fun _ _ h => h), h.each, Below.keepOld hb h.rc, Below.keepOld hb h.hint, h.bel.trans (hb.mono h.bel.size)⟩
theorem RHR.put {w w' wr : World} {RC : Array Value} {hh : List UInt8} {ids : List (List UInt8)} {v : Value} {y : List UInt8} {p' : Option Addr} {c' : Nat} (h : RHR w RC hh ids v wr) (hy : y.length = 32)
    (ho : w'.ownsRow w.heap.size 30 32 (.slice p' (ids.length + 1) c') (ids.length + 1) (ids.flatMap bytesV ++ bytesV y)) (hg : wr.grownBy w' v.ownBlock) : RHR w RC hh (ids ++ [y]) (.slice p' (ids.length + 1) c') w' := by
  have hT : Turns (fun i => v.ownBlock = some i) wr w' := Turns.grown hg (S := fun i => v.ownBlock = some i) (fun k hk => hk)
  refine ⟨⟨p', c', by simp⟩, by rw [List.flatMap_append]; simpa using ho, ?_, hT.keep h.rc (fun e => own_ne_cells h.own h.rc (by decide) _ e rfl), hT.keep h.hint (fun e => own_ne_cells h.own h.hint (by decide) _ e rfl), h.bel.grown hg h.bel.size (fun i hi => (h.own.lt i hi).1)⟩
  intro x hx
  rcases List.mem_append.1 hx with hx | hx
  · exact h.each x hx
  · rw [List.mem_singleton] at hx; rw [hx]; exact hy
/-- the ids that were gathered, as a block's -/
theorem RHR.blk {w wr : World} {RC : Array Value} {hh : List UInt8} {ids : List (List UInt8)} {p : Option Addr} {c : Nat} (h : RHR w RC hh ids (.slice p ids.length c) wr) : BlkAt wr (blkA zeros zeros p ids.length c) ⟨zeros, zeros, ids⟩ p ids.length c := by
  obtain ⟨p', c', hv, hs⟩ := own_sl h.own
  obtain ⟨rfl, -, rfl⟩ := Value.slice.inj hv
  exact ⟨rfl, by show zeros.length = 32; decide, by show zeros.length = 32; decide, ⟨hs, h.each, rfl⟩⟩

set_option maxRecDepth 100000 in
set_option maxHeartbeats 1600000 in
theorem rChHinted_any (dep : Int) (height : Nat) (ds : List BlkD) (hn : ds.length ≤ 1000) (hfew : ∀ d ∈ ds, d.txs.length ≤ 1000000) (p : Option Addr) (c : Nat) (rows : List (List Value)) (hh : List UInt8) (hx : hh.length = 16) (w : World) (hW : Bks w p ds.length c ds rows) :
    Calls Try.prog 51 #[.agg (rcA dep height p ds.length c), .agg (idA hh)] w (IdsP (rH ds hh ds.length) w) := by
  obtain ⟨RC, hRC⟩ : ∃ RC, RC = rcA dep height p ds.length c := ⟨_, rfl⟩
  rw [← hRC]
  have H2 := Lib.hid (two_allocs w (.cells RC 41) (.cells (idA hh) 52))
  have HB := Lib.hid H2.out.2.2.2
  have HW := Lib.hid hW
  have hle := hW.rs.sl.le
  have hmax := hW.rs.sl.max
  have HX := Lib.hid hx
  have HXS : Hid ((idA hh).size = 16) := by show _ = _; rw [idA_size, hx]
  have HFEW := Lib.hid hfew
  have HRC := Lib.hid hRC
  clear hW hx hfew hRC
  go_enter Try.func51, Try.ntmps51
  go_wp2_with fail
  generalize (w.alloc (.cells RC 41)).alloc (.cells (idA hh) 52) = w1 at *
  have HST : Hid (RHR w RC hh [] (.slice none 0 0) w1) := ⟨⟨none, 0, rfl⟩, World.ownsRow_nil _ _ _ _, fun x h => by simp at h, H2.out.1, H2.out.2.1, HB.out⟩
  go_loopw [5, 6] (fun v j wr => ∃ k : Nat, k ≤ ds.length ∧ j = .int .i64 k ∧ RHR w RC hh (rH ds hh k) v wr) (fun _ j _ => ds.length - (intOf j).toNat)
  case atStart => exact ⟨0, by omega, rfl, HST.out⟩
  case round =>
    obtain ⟨k, hk, rfl, hr⟩ := hrel
    obtain ⟨wo, rfl⟩ : ∃ wo : World, wo = wr := ⟨_, rfl⟩
    obtain ⟨pv, cv, rfl⟩ := hr.val
    have HRO := Lib.hid hr
    clear hr
    have hc2 : wo.cell? ⟨w.heap.size, 2, none⟩ = some (.slice p ds.length c) := by rw [cell_of_row _ _ _ _ _ _ HRO.out.rc, HRC.out]; rfl
    by_cases hlt : k < ds.length
    · have hd : decide ((k : Int) < (ds.length : Int)) = true := decide_eq_true (by omega)
      obtain ⟨b, o, rfl⟩ := HW.out.rs.sl.addr (by omega) (by omega)
      obtain ⟨q, cq, hbq, hrg⟩ := HW.out.at k hlt
      have HFK := Lib.hid (HFEW.out _ (List.getElem_mem hlt))
      have HSTEP := Lib.hid (rH_step (h := hh) hlt)
      have HLEN0 := Lib.hid (rH_len HFEW.out hh k)
      generalize ds[k] = d at *
      obtain ⟨A, hA⟩ : ∃ A, A = blkA d.hash d.par q d.txs.length cq := ⟨_, rfl⟩
      rw [← hA] at hbq hrg
      have HBQ := Lib.hid (hbq.below HRO.out.bel)
      have HAS := Lib.hid hbq.size
      have HRG : Hid (∀ w', Below wo.heap.size wo w' → w'.rangeAt b (o + k * 65) A.toList) := fun w' hb => range_below (range_below hrg HRO.out.bel) hb
      have HRX : Hid (∀ w', Below wo.heap.size wo w' → w'.rangeAt (w.heap.size + 1) 0 (idA hh).toList) := fun w' hb => row_rangeC (Below.keepOld hb HRO.out.hint)
      have hkc : Hid (∀ w', Below wo.heap.size wo w' → w'.cell? ⟨w.heap.size, 2, none⟩ = some (.slice (some ⟨b, o, none⟩) ds.length c)) := fun w' hb => cell_below hc2 hb
      clear hA hbq hrg
      go_wp2_with fail
      refine wp_region_eager [(0, true), (1, true), (2, true), (3, true), (4, true), (5, true), (6, false), (7, true)] (by kernel_rfl) (by kernel_rfl) (eagerOpen rfl ?_)
      have hy0 : Below wo.heap.size wo wo.drew := below_drew1 _ _
      repeat (first
        | ((with_reducible refine eagerAt 20 ?_); refine wpEager_load (by rfl) 33 _ rfl b (o + k * 65) rfl A _ (fun w' hb => HRG.out w' hb) Try.underlying33 rfl (infoBlk _ HAS.out) ?_; (try simp only [Act.put, List.setIfInBounds_toArray, List.set_cons_zero, List.set_cons_succ]); (try refine eagerOpen rfl ?_))
        | ((with_reducible refine eagerAt 21 ?_); refine wpEager_load (by rfl) 52 _ rfl (w.heap.size + 1) 0 rfl (idA hh) _ (fun w' hb => HRX.out w' hb) Try.underlying52 rfl (infoH _ HXS.out) ?_; (try simp only [Act.put, List.setIfInBounds_toArray, List.set_cons_zero, List.set_cons_succ]); (try refine eagerOpen rfl ?_))
        | (first | (apply wpEager_take; (· rfl); (· (intro w' hb'; go_simp; try with_reducible rfl)); (try simp only [Act.put, List.setIfInBounds_toArray, List.set_cons_zero, List.set_cons_succ]); (try refine eagerOpen rfl ?_)) | (refine wpEager_skip (by rfl) ?_; (try simp only [Act.put, List.setIfInBounds_toArray, List.set_cons_zero, List.set_cons_succ]); (try refine eagerOpen rfl ?_)) | (refine wpEager_off (by rfl) ?_; (try simp only [Act.put, List.setIfInBounds_toArray, List.set_cons_zero, List.set_cons_succ]); (try refine eagerOpen rfl ?_)))
        | (apply wpEager_take; (· rfl); (· (intro w' hb'; have hk' := (hkc.out) w' hb'; go_split_ands; go_simp; try with_reducible rfl)); (try simp only [Act.put, List.setIfInBounds_toArray, List.set_cons_zero, List.set_cons_succ]); (try refine eagerOpen rfl ?_)))
      (refine wpEager_op (by rfl) (fun K hK => ?_); go_simp; (refine (rHinted_any A d q _ cq hh _ (HBQ.out.below (below_drew1 _ _)) HX.out (by have := HFK.out; omega)).mono ?_; rintro e y ⟨pi, ci, rfl, his, hib, hb⟩; have HIS0 := Lib.hid his; have HIB := Lib.hid hib; have hy1 : Below wo.heap.size wo y := hy0.trans hb; clear his hib hb); refine Shut.out hK _ _ (by assumption) ?_; clear hK K; (try simp only [Act.put, List.setIfInBounds_toArray, List.set_cons_zero, List.set_cons_succ]); (try refine eagerOpen rfl ?_))
      repeat (first | (apply wpEager_take; (· rfl); (· (intro w' hb'; go_simp; try with_reducible rfl)); (try simp only [Act.put, List.setIfInBounds_toArray, List.set_cons_zero, List.set_cons_succ]); (try refine eagerOpen rfl ?_)) | (refine wpEager_skip (by rfl) ?_; (try simp only [Act.put, List.setIfInBounds_toArray, List.set_cons_zero, List.set_cons_succ]); (try refine eagerOpen rfl ?_)) | (refine wpEager_off (by rfl) ?_; (try simp only [Act.put, List.setIfInBounds_toArray, List.set_cons_zero, List.set_cons_succ]); (try refine eagerOpen rfl ?_)))
      refine eagerEnd ?_
      have HR4 := Lib.hid (HRO.out.below hy1)
      have HOWN0 : Hid (∀ a, pi = some a → ∀ i, (Value.slice pv (rH ds hh k).length cv).ownBlock = some i → ¬ i = a.block) := fun a ha i hi e => by
        have h1 : wo.heap.size ≤ a.block := HIB.out a ha
        have h2 := (HRO.out.own.lt i hi).2
        omega
      have hil := HIS0.out.sl.le
      have him := HIS0.out.sl.max
      clear hy0 hy1 HIB hc2
      have HLL : Hid ((hintedL hh d.txs).length ≤ 1000000) := by
        show _ ≤ _
        have := List.length_filter_le (fun y : List UInt8 => y.take 16 == hh) d.txs
        have := HFK.out
        unfold hintedL
        omega
      generalize hL : hintedL hh d.txs = L at *
      clear hL
      generalize hA0 : rH ds hh k = acc0 at *
      go_wp2_with fail
      go_loopw [5, 8] (fun v jv wr => ∃ j : Nat, j ≤ L.length ∧ jv = .int .i64 j ∧ RHR w RC hh ((L.take j).foldl addN acc0) v wr ∧ Is wr pi L.length ci 32 L ∧ (∀ a, pi = some a → ∀ i, v.ownBlock = some i → ¬ i = a.block)) (fun _ jv _ => L.length - (intOf jv).toNat)
      case atStart => exact ⟨0, by omega, rfl, HR4.out, HIS0.out, HOWN0.out⟩
      case round =>
        obtain ⟨j, hj, rfl, hr, his, hnb⟩ := hrel
        obtain ⟨pw, cw, rfl⟩ := hr.val
        have HRI := Lib.hid hr
        have HIS := Lib.hid his
        have HNB := Lib.hid hnb
        clear hr his hnb
        by_cases hjl : j < L.length
        · have hdj : decide ((j : Int) < (L.length : Int)) = true := decide_eq_true (by omega)
          obtain ⟨qb, qo, rfl⟩ := HIS.out.sl.addr (by omega) (by omega)
          have HRY := Lib.hid (HIS.out.range (by omega) j hjl)
          have HYL : Hid (L[j].length = 32) := HIS.out.each _ (List.getElem_mem hjl)
          have HTK := Lib.hid (addN_step (acc := acc0) hjl)
          have HLEN : Hid (((L.take j).foldl addN acc0).length ≤ 1099511627776) := by
            show _ ≤ _
            have h1 := addN_len (L.take j) acc0
            have h2 : (L.take j).length ≤ L.length := List.length_take_le' _ _
            have h3 := HLL.out
            have h4 := HLEN0.out
            have h5 : k * 1000000 ≤ 1000 * 1000000 := Nat.mul_le_mul_right _ (by omega)
            omega
          generalize L[j] = y at *
          generalize hacc : (L.take j).foldl addN acc0 = acc at *
          clear hacc
          have HYS : Hid ((idA y).size = 32) := by show _ = _; rw [idA_size, HYL.out]
          have HYA : Hid ((idA y).toList.length = 32) := by show _ = _; rw [Array.length_toList]; exact HYS.out
          have HRYG : Hid (∀ z : Grown wr, z.v.rangeAt qb (qo + j * 32) (idA y).toList) := fun z => range_grown HRY.out z
          have HBK := Lib.hid HRI.out.blk
          obtain ⟨MB, hMB⟩ : ∃ MB, MB = blkA zeros zeros pw acc.length cw := ⟨_, rfl⟩
          rw [← hMB] at HBK
          have HMB := Lib.hid hMB
          clear hMB
          have HKL : Hid (acc.length + 1 ≤ 9223372036854775807 ∧ (acc.length + 1) * 32 ≤ 140737488355328) := by show _ ∧ _; have := HLEN.out; exact ⟨by omega, by omega⟩
          cases hfb : acc.contains y with
          | true =>
            have HT : Hid ((L.take (j + 1)).foldl addN acc0 = acc) := by show _ = _; rw [HTK.out, if_pos (by simpa using hfb)]
            have HFB := Lib.hid hfb
            clear hfb
            go_wp2_with (first
              | ((with_reducible refine wpAt 34 ?_); refine wpList_load_mid rfl 30 _ rfl qb (qo + j * 32) rfl (idA y).toList _ HRY.out Try.underlying30 rfl (infoI _ HYA.out) ?_)
              | ((with_reducible refine wpAt 30 ?_); refine wpList_build rfl 33 _ rfl [(2, .slice pw acc.length cw)] rfl MB (by rw [HMB.out]; exact build_bt _ _ _) ?_))
            refine (rHas_any MB ⟨zeros, zeros, acc⟩ pw _ cw y _ HBK.out HYL.out (by have := HLEN.out; omega)).mono ?_
            rintro e w6 ⟨rfl, hb6⟩
            rw [show (BlkD.mk zeros zeros acc).txs.contains y = true from HFB.out]
            have HR6 := Lib.hid (HRI.out.below hb6)
            have HIS6 := Lib.hid (HIS.out.below hb6)
            clear hb6
            go_wp2_with fail
            go_roundw
            case rel => exact ⟨j + 1, by omega, by go_num, by rw [HT.out]; exact HR6.out, HIS6.out, HNB.out⟩
            case measure => simp [intOf]; omega
          | false =>
            have HT : Hid ((L.take (j + 1)).foldl addN acc0 = acc ++ [y]) := by show _ = _; rw [HTK.out, if_neg (by simpa using hfb)]
            have HFB := Lib.hid hfb
            clear hfb
            go_wp2_with (first
              | ((with_reducible refine wpAt 34 ?_); refine wpList_load_mid rfl 30 _ rfl qb (qo + j * 32) rfl (idA y).toList _ HRY.out Try.underlying30 rfl (infoI _ HYA.out) ?_)
              | ((with_reducible refine wpAt 30 ?_); refine wpList_build rfl 33 _ rfl [(2, .slice pw acc.length cw)] rfl MB (by rw [HMB.out]; exact build_bt _ _ _) ?_))
            refine (rHas_any MB ⟨zeros, zeros, acc⟩ pw _ cw y _ HBK.out HYL.out (by have := HLEN.out; omega)).mono ?_
            rintro e w6 ⟨rfl, hb6⟩
            rw [show (BlkD.mk zeros zeros acc).txs.contains y = false from HFB.out]
            have HR6 := Lib.hid (HRI.out.below hb6)
            have HIS6 := Lib.hid (HIS.out.below hb6)
            have HRY6 := Lib.hid (range_below HRY.out hb6)
            clear hb6
            have HSL : Hid (Sl (w6.alloc (.cells (idA y) 30)) (some ⟨w6.heap.size, 0, none⟩) 1 1 32 (bytesV y)) := made_id w6 y _ _ (idA_toList y) HYL.out
            have HRA := Lib.hid (HR6.out.below (Below.allocs w6 (.cells (idA y) 30)))
            have HISA := Lib.hid (HIS6.out.below (Below.allocs w6 (.cells (idA y) 30)))
            go_wp2_with (first
              | ((with_reducible refine wpAt 41 ?_); refine wpList_load_mid rfl 30 _ rfl qb (qo + j * 32) rfl (idA y).toList _ HRY6.out Try.underlying30 rfl (infoI _ HYA.out) ?_)
              | ((with_reducible refine wpAt 42 ?_); refine wpList_buildOne rfl 31 30 _ rfl (idA y) rfl 32 Try.underlying31 (by kernel_rfl) (by omega) (by omega) HYS.out ?_)
              | ((with_reducible refine wpAt 43 ?_); refine wpList_append_nx rfl _ _ 31 rfl (base := w.heap.size) Try.underlying31 infoIds (by rw [show (Value.agg (idA zeros)).cells = idA zeros from rfl]; exact zeros_size) (by omega) rfl HRA.out.own rfl HSL.out (bytesV_one _) HKL.out HRA.out.bel.size ?_))
            intro p' c' w8 ho8 hg8 hnx8 hz8
            have HR8 := Lib.hid (HRA.out.put HYL.out ho8 hg8)
            have hT8 : Turns (fun i => (Value.slice pw acc.length cw).ownBlock = some i) (w6.alloc (.cells (idA y) 30)) w8 := Turns.grown hg8 (S := fun i => (Value.slice pw acc.length cw).ownBlock = some i) (fun k hk => hk)
            have HIS8 : Hid (Is w8 (some ⟨qb, qo, none⟩) L.length ci 32 L) := ⟨HISA.out.sl.touch hT8 (fun a ha _ hs => HNB.out a ha _ hs rfl), HISA.out.each, HISA.out.count⟩
            have HNB8 : Hid (∀ a, (some ⟨qb, qo, none⟩ : Option Addr) = some a → ∀ i, (Value.slice p' (acc.length + 1) c').ownBlock = some i → ¬ i = a.block) := fun a ha i hi e => by
              rcases hnx8 i hi with hn | hn
              · exact HNB.out a ha i hn e
              · obtain rfl := Option.some.inj ha
                have h1 := block_lt_of_cell ((HISA.out.range (by omega) j hjl) 0 _ (List.getElem?_eq_getElem (by rw [idA_toList, bytesV_length, HISA.out.each _ (List.getElem_mem hjl)]; omega)))
                simp at h1 e
                omega
            clear ho8 hg8 hnx8 hz8 hT8
            go_wp2_with fail
            go_roundw
            case rel => exact ⟨j + 1, by omega, by go_num, by rw [HT.out]; exact HR8.out, HIS8.out, HNB8.out⟩
            case measure => simp [intOf]; omega
        · have hdj : decide ((j : Int) < (L.length : Int)) = false := decide_eq_false (by omega)
          have HEND : Hid (RHR w RC hh (rH ds hh (k + 1)) (.slice pw ((L.take j).foldl addN acc0).length cw) wr) := by
            show RHR _ _ _ _ _ _
            rw [HSTEP.out]
            have := HRI.out
            rw [List.take_of_length_le (by omega)] at this ⊢
            exact this
          have hge : L.length ≤ j := by omega
          have hdj2 : decide (j < L.length) = false := decide_eq_false hjl
          clear hjl
          go_wp2_with fail
          go_roundw
          case rel => exact ⟨k + 1, by omega, by go_num, HEND.out⟩
          case measure => simp [intOf]; omega
    · have hd : decide ((k : Int) < (ds.length : Int)) = false := decide_eq_false (by omega)
      obtain rfl : k = ds.length := by omega
      have HE := Lib.hid (ids_of_own HRO.out.own HRO.out.each HRO.out.bel)
      go_wp2_with fail
      go_ret
      exact HE.out
end Go.Proofs.Ytepemfgiigceoaa.Chn

namespace Go.Proofs.Ytepemfgiigceoaa.Chn
open Go.RowKit Go.Mir Go.Mir.Parts Go.Proofs.Ytepemfgiigceoaa.Blk

theorem wpStill_build {P : Program} {ops : Array Oper} {w : World} {Q : Act → Prop} {a : Act} {op : Oper} {rest : List Oper} (hw : Region.wanted op (yielded ops a.tmps) = true) (t : TypeId) (parts : Array (Nat × Operand)) (ho : op.op = .build t parts)
    (vals : List (Nat × Value)) (hv : (parts.toList.map fun p => (p.1, a.eval p.2)) = vals) (cells : Array Value) (hb : P.built t vals = some cells)
    (h : wpStill P ops w Q rest (a.put op.dst (.agg cells))) : wpStill P ops w Q (op :: rest) a := by
  have hb' : P.built t (parts.map fun p => (p.1, a.eval p.2)).toList = some cells := by rw [Array.toList_map, hv]; exact hb
  unfold wpStill
  rw [if_pos hw]
  unfold Oper.still execOp
  simp only [ho, Sem.run_bind, Sem.run_pure, Result.andThen_ok, run_build w t _ cells hb']
  simpa [Oper.stillUpon] using h
theorem build_rc4 (dep : Int) (h : Int) (p : Option Addr) (n c : Nat) : Try.prog.built 41 [(0, .int .i64 dep), (1, .int .u32 h), (2, .slice p n c)] = some #[.int .i64 dep, .int .u32 h, .slice p n c] := by kernel_rfl
theorem zRC : ∃ Z : Array Value, (∀ w0, (zeroValue 41).run Try.prog w0 = .ok (.agg Z) w0) ∧ Hid (Z.size = 3) := ⟨rcA 0 0 none 0 0, fun w0 => by kernel_rfl, rfl⟩
theorem rcA_one (dep : Int) (height : Nat) (p : Option Addr) (n c : Nat) : (rcA dep height p n c).all (·.oneCell') = true := by simp [rcA, Value.oneCell']
set_option maxRecDepth 100000 in
set_option maxHeartbeats 400000 in
theorem rDisc_none (dep : Int) (height : Nat) (p : Option Addr) (c : Nat) (x : List UInt8) (hx : x.length = 32) (w : World) :
    Calls Try.prog 34 #[.agg (rcA dep height p 0 c), .agg (idA x)] w fun e w' => e = .returned (.tuple #[.agg (rcA dep height p 0 c), .int .i64 19]) ∧ Below w.heap.size w w' := by
  obtain ⟨Z, hz, hZ⟩ := zRC
  obtain ⟨RC, hRC⟩ : ∃ RC, RC = rcA dep height p 0 c := ⟨_, rfl⟩
  have HRS : Hid (RC.size = 3) := by show _ = _; rw [hRC]; rfl
  have HRO : Hid (RC.all (·.oneCell') = true) := by show _ = _; rw [hRC]; exact rcA_one _ _ _ _ _
  rw [← hRC]
  have H2 := Lib.hid (two_allocs w (.cells RC 41) (.cells (idA x) 30))
  have hb3 := Below.allocs ((w.alloc (.cells RC 41)).alloc (.cells (idA x) 30)) (.cells Z 41)
  have HB3 := Lib.hid (H2.out.2.2.2.trans (hb3.mono H2.out.2.2.2.size))
  have HR0 := Lib.hid (Below.keepOld hb3 H2.out.1)
  have HR2 : Hid ((((w.alloc (.cells RC 41)).alloc (.cells (idA x) 30)).alloc (.cells Z 41)).heap[w.heap.size + 1 + 1]? = some (.cells Z 41 (0, 0))) := by
    show _ = _
    have := heap_alloc_last ((w.alloc (.cells RC 41)).alloc (.cells (idA x) 30)) (.cells Z 41)
    rwa [H2.out.2.2.1] at this
  have HC2 : Hid ((((w.alloc (.cells RC 41)).alloc (.cells (idA x) 30)).alloc (.cells Z 41)).cell? ⟨w.heap.size, 2, none⟩ = some (.slice p 0 c)) := by show _ = _; rw [cell_of_row _ _ _ _ _ _ HR0.out, hRC]; rfl
  clear hb3 hRC
  go_enter Try.func34, Try.ntmps34
  go_upto_region 1 with fail
  have hc2 := HC2.out
  clear HC2
  generalize ((w.alloc (.cells RC 41)).alloc (.cells (idA x) 30)).alloc (.cells Z 41) = w3 at *
  go_wp2_with fail
  refine wp_region_grow (by kernel_rfl) (by kernel_rfl) ?_
  repeat (first
    | ((with_reducible refine wpQuietGd ?_); (with_reducible refine wpQuiet_skip ?_ ?_); (· rfl); simp only [Act.put, List.setIfInBounds_toArray, List.set_cons_zero, List.set_cons_succ])
    | quiet_step (fail))
  refine wpQuiet_nil ?_
  intro w4 hb4
  have HR04 := Lib.hid (Below.keepOld hb4 HR0.out)
  have HR24 := Lib.hid (Below.keepOld hb4 HR2.out)
  have HB4 := Lib.hid (HB3.out.trans (hb4.mono HB3.out.size))
  clear hb4 hc2
  have HBF := Lib.hid (below_setRow HB4.out (show w.heap.size ≤ w.heap.size + 1 + 1 by omega) RC)
  have HSF := Lib.hid (setRow_heap _ _ _ RC _ _ HR24.out)
  go_wp2_with (first
    | ((with_reducible refine wpAt 23 ?_); refine wpList_load_row rfl 41 _ rfl w.heap.size rfl 41 RC (0, 0) _ HR04.out Try.underlying41 rfl (infoRC _ HRS.out) ?_)
    | ((with_reducible refine wpStoreAt 4 ?_); refine wpList_store_row rfl 41 _ _ rfl (w.heap.size + 1 + 1) RC rfl rfl 41 Z HR24.out (infoRC _ HRS.out) (by rw [hZ.out, HRS.out]) HRO.out ?_))
  refine bodyPost_ret (results_row_tmp rfl _ _ _ _ _ _ _ rfl HSF.out Try.underlying41 rfl (infoRC _ HRS.out)) rfl ?_
  exact ⟨rfl, HBF.out⟩
def RDiscP (dep : Int) (height : Nat) (ds : List BlkD) (p : Option Addr) (c : Nat) (x : List UInt8) (w : World) (e : Ending) (w' : World) : Prop :=
  e = .returned (.tuple #[.agg (if discE ds x = 0 then rcA dep (height - 1) p (ds.length - 1) c else rcA dep height p ds.length c), .int .i64 (discE ds x)]) ∧ Below w.heap.size w w'
set_option maxRecDepth 100000 in
set_option maxHeartbeats 1600000 in
theorem rDisc_some (dep : Int) (height : Nat) (hh : height ≤ 4294967295) (ds : List BlkD) (hlh : ds.length ≤ height) (p : Option Addr) (c : Nat) (rows : List (List Value)) (t : BlkD) (hl : ds.getLast? = some t) (x : List UInt8) (hx : x.length = 32) (w : World) (hW : Bks w p ds.length c ds rows) :
    Calls Try.prog 34 #[.agg (rcA dep height p ds.length c), .agg (idA x)] w (RDiscP dep height ds p c x w) := by
  obtain ⟨Z, hz, hZ⟩ := zRC
  have hlen : 0 < ds.length := by cases ds with | nil => simp at hl | cons a r => simp
  have hle := hW.rs.sl.le
  have hmax := hW.rs.sl.max
  have HW := Lib.hid hW
  have HX := Lib.hid hx
  have HL := Lib.hid hl
  obtain ⟨RC, hRC⟩ : ∃ RC, RC = rcA dep height p ds.length c := ⟨_, rfl⟩
  have HRC := Lib.hid hRC
  have HRS : Hid (RC.size = 3) := by show _ = _; rw [hRC]; rfl
  have HRO : Hid (RC.all (·.oneCell') = true) := by show _ = _; rw [hRC]; exact rcA_one _ _ _ _ _
  rw [← hRC]
  have H2 := Lib.hid (two_allocs w (.cells RC 41) (.cells (idA x) 30))
  have hb3 := Below.allocs ((w.alloc (.cells RC 41)).alloc (.cells (idA x) 30)) (.cells Z 41)
  have HB3 := Lib.hid (H2.out.2.2.2.trans (hb3.mono H2.out.2.2.2.size))
  have HR0 := Lib.hid (Below.keepOld hb3 H2.out.1)
  have HR1 := Lib.hid (Below.keepOld hb3 H2.out.2.1)
  have HR2 : Hid ((((w.alloc (.cells RC 41)).alloc (.cells (idA x) 30)).alloc (.cells Z 41)).heap[w.heap.size + 1 + 1]? = some (.cells Z 41 (0, 0))) := by
    show _ = _
    have := heap_alloc_last ((w.alloc (.cells RC 41)).alloc (.cells (idA x) 30)) (.cells Z 41)
    rwa [H2.out.2.2.1] at this
  have HC2 : Hid ((((w.alloc (.cells RC 41)).alloc (.cells (idA x) 30)).alloc (.cells Z 41)).cell? ⟨w.heap.size, 2, none⟩ = some (.slice p ds.length c)) := by show _ = _; rw [cell_of_row _ _ _ _ _ _ HR0.out, hRC]; rfl
  clear hb3 hRC hW hx hl
  go_enter Try.func34, Try.ntmps34
  go_upto_region 1 with fail
  have hc2 := HC2.out
  clear HC2
  generalize ((w.alloc (.cells RC 41)).alloc (.cells (idA x) 30)).alloc (.cells Z 41) = w3 at *
  have h0b : ((ds.length : Int) == 0) = false := by rw [beq_eq_false_iff_ne]; omega
  obtain ⟨i, hi⟩ : ∃ i, i + 1 = ds.length := ⟨ds.length - 1, by omega⟩
  have hsub : (ds.length : Int) - 1 = (i : Int) := by omega
  have hwi : IntKind.i64.wrap ((ds.length : Int) - 1) = (i : Int) := by rw [hsub]; exact IntWalk.i64_in _ (by omega)
  have hwi2 : IntKind.i64.wrap (i : Int) = (i : Int) := IntWalk.i64_in _ (by omega)
  have hin : (i : Int) < (ds.length : Int) := by omega
  have hi0 : (0 : Int) ≤ (i : Int) := by omega
  obtain ⟨bb, oo, rfl⟩ := HW.out.rs.sl.addr (by omega) (by omega)
  obtain ⟨q', c', hbt, hrg⟩ := HW.out.at i (by omega)
  have htd : ds[i] = t := by
    have := HL.out
    rw [List.getLast?_eq_getElem?, show ds.length - 1 = i by omega, List.getElem?_eq_getElem (by omega)] at this
    exact Option.some.inj this
  rw [htd] at hbt hrg
  have HTL := Lib.hid hbt.hlen
  have HRG : Hid (∀ y : Grown w3, y.v.rangeAt bb (oo + i * 65) (idA t.hash).toList) := fun y => by
    have h1 := range_grown (range_below hrg HB3.out) y
    intro j v hv
    refine h1 j v ?_
    rw [blkA_toList, List.append_assoc, List.getElem?_append_left (by have := (List.getElem?_eq_some_iff.1 hv).1; rwa [idA_toList] at this)]
    rwa [idA_toList] at hv
  have HRX : Hid (∀ y : Grown w3, y.v.rangeAt (w.heap.size + 1) 0 (idA x).toList) := fun y => range_grown (row_rangeC HR1.out) y
  have hg2 := cell_grown hc2
  have hq : ∀ w, (Op.equalIn 10000 30 (.agg (idA t.hash)) (.agg (idA x))).run Try.prog w = .ok (t.hash == x) w := fun w => eqI w t.hash x HTL.out HX.out
  clear hbt hrg htd
  obtain ⟨bx, hbx⟩ : ∃ bx : Bool, (t.hash == x) = bx := ⟨_, rfl⟩
  have HBX := Lib.hid hbx
  rw [hbx] at hq
  clear hbx
  have HDE : Hid (discE ds x = if bx = true then (if ds.length < 2 then 20 else 0) else 19) := by
    show _ = _; unfold discE; rw [HL.out]; dsimp only; rw [HBX.out]
  cases bx with
  | false =>
    have HD : Hid (discE ds x = 19) := by show _ = _; rw [HDE.out]; simp
    go_wp2_with fail
    refine wp_region_grow (by kernel_rfl) (by kernel_rfl) ?_
    repeat (first
      | ((with_reducible refine wpQuietGd ?_); (with_reducible refine wpQuiet_skip ?_ ?_); (· rfl); simp only [Act.put, List.setIfInBounds_toArray, List.set_cons_zero, List.set_cons_succ])
      | ((with_reducible refine wpQuietAt 19 ?_); refine wpQuiet_load rfl 30 _ rfl bb (oo + i * 65) rfl (idA t.hash) _ HRG.out Try.underlying30 rfl (infoI _ (by rw [idA_size, HTL.out])) ?_)
      | ((with_reducible refine wpQuietAt 20 ?_); refine wpQuiet_load rfl 30 _ rfl (w.heap.size + 1) 0 rfl (idA x) _ HRX.out Try.underlying30 rfl (infoI _ (by rw [idA_size, HX.out])) ?_)
      | quiet_step (fail))
    refine wpQuiet_nil ?_
    intro w4 hb4
    have HR04 := Lib.hid (Below.keepOld hb4 HR0.out)
    have HR24 := Lib.hid (Below.keepOld hb4 HR2.out)
    have HB4 := Lib.hid (HB3.out.trans (hb4.mono HB3.out.size))
    clear hb4 hc2 hg2 hq
    have HBF := Lib.hid (below_setRow HB4.out (show w.heap.size ≤ w.heap.size + 1 + 1 by omega) RC)
    have HSF := Lib.hid (setRow_heap _ _ _ RC _ _ HR24.out)
    go_wp2_with (first
      | ((with_reducible refine wpAt 23 ?_); refine wpList_load_row rfl 41 _ rfl w.heap.size rfl 41 RC (0, 0) _ HR04.out Try.underlying41 rfl (infoRC _ HRS.out) ?_)
      | ((with_reducible refine wpStoreAt 4 ?_); refine wpList_store_row rfl 41 _ _ rfl (w.heap.size + 1 + 1) RC rfl rfl 41 Z HR24.out (infoRC _ HRS.out) (by rw [hZ.out, HRS.out]) HRO.out ?_))
    refine bodyPost_ret (results_row_tmp rfl _ _ _ _ _ _ _ rfl HSF.out Try.underlying41 rfl (infoRC _ HRS.out)) rfl ?_
    exact ⟨by rw [HD.out, if_neg (by omega), ← HRC.out]; rfl, HBF.out⟩
  | true =>
    go_wp2_with fail
    refine wp_region_grow (by kernel_rfl) (by kernel_rfl) ?_
    repeat (first
      | ((with_reducible refine wpQuietGd ?_); (with_reducible refine wpQuiet_skip ?_ ?_); (· rfl); simp only [Act.put, List.setIfInBounds_toArray, List.set_cons_zero, List.set_cons_succ])
      | ((with_reducible refine wpQuietAt 19 ?_); refine wpQuiet_load rfl 30 _ rfl bb (oo + i * 65) rfl (idA t.hash) _ HRG.out Try.underlying30 rfl (infoI _ (by rw [idA_size, HTL.out])) ?_)
      | ((with_reducible refine wpQuietAt 20 ?_); refine wpQuiet_load rfl 30 _ rfl (w.heap.size + 1) 0 rfl (idA x) _ HRX.out Try.underlying30 rfl (infoI _ (by rw [idA_size, HX.out])) ?_)
      | quiet_step (fail))
    refine wpQuiet_nil ?_
    intro w4 hb4
    have HR04 := Lib.hid (Below.keepOld hb4 HR0.out)
    have HR24 := Lib.hid (Below.keepOld hb4 HR2.out)
    have HB4 := Lib.hid (HB3.out.trans (hb4.mono HB3.out.size))
    clear hb4 hc2 hg2 hq
    by_cases h1 : ds.length = 1
    · have HD : Hid (discE ds x = 20) := by show _ = _; rw [HDE.out]; simp; omega
      have h1b : ((ds.length : Int) == 1) = true := by rw [beq_iff_eq]; omega
      have HBF := Lib.hid (below_setRow HB4.out (show w.heap.size ≤ w.heap.size + 1 + 1 by omega) RC)
      have HSF := Lib.hid (setRow_heap _ _ _ RC _ _ HR24.out)
      clear h1
      go_wp2_with (first
        | ((with_reducible refine wpAt 26 ?_); refine wpList_load_row rfl 41 _ rfl w.heap.size rfl 41 RC (0, 0) _ HR04.out Try.underlying41 rfl (infoRC _ HRS.out) ?_)
        | ((with_reducible refine wpStoreAt 4 ?_); refine wpList_store_row rfl 41 _ _ rfl (w.heap.size + 1 + 1) RC rfl rfl 41 Z HR24.out (infoRC _ HRS.out) (by rw [hZ.out, HRS.out]) HRO.out ?_))
      refine bodyPost_ret (results_row_tmp rfl _ _ _ _ _ _ _ rfl HSF.out Try.underlying41 rfl (infoRC _ HRS.out)) rfl ?_
      exact ⟨by rw [HD.out, if_neg (by omega), ← HRC.out]; rfl, HBF.out⟩
    · have HD : Hid (discE ds x = 0) := by show _ = _; rw [HDE.out]; simp; omega
      have h1b : ((ds.length : Int) == 1) = false := by rw [beq_eq_false_iff_ne]; omega
      go_wp2_with fail
      refine wp_region_tail 11 (by kernel_rfl) (by kernel_rfl) ?_
      simp only [List.take_succ_cons, List.take_zero, List.drop_succ_cons, List.drop_zero]
      have HBD := Lib.hid (HB4.out.trans (below_drew1 w.heap.size w4))
      have HR0D : Hid (w4.drew.heap[w.heap.size]? = some (.cells RC 41 (0, 0))) := HR04.out
      have HR2D : Hid (w4.drew.heap[w.heap.size + 1 + 1]? = some (.cells Z 41 (0, 0))) := HR24.out
      generalize w4.drew = wd at *
      have hcd0 : wd.cell? ⟨w.heap.size, 0, none⟩ = some (.int .i64 dep) := by rw [cell_of_row _ _ _ _ _ _ HR0D.out, HRC.out]; rfl
      have hcd1 : wd.cell? ⟨w.heap.size, 1, none⟩ = some (.int .u32 (height : Int)) := by rw [cell_of_row _ _ _ _ _ _ HR0D.out, HRC.out]; rfl
      have hcd2 : wd.cell? ⟨w.heap.size, 2, none⟩ = some (.slice (some ⟨bb, oo, none⟩) ds.length c) := by rw [cell_of_row _ _ _ _ _ _ HR0D.out, HRC.out]; rfl
      have hwh : IntKind.u32.wrap ((height : Int) - 1) = (height : Int) - 1 := IntWalk.u32_in _ (by omega)
      have hic : i ≤ c := by omega
      have hil : i ≤ ds.length := by omega
      repeat still_step
      refine wpStill_build (by rfl) 41 _ rfl [(0, .int .i64 dep), (1, .int .u32 ((height : Int) - 1)), (2, .slice (some ⟨bb, oo, none⟩) i c)] rfl _ (build_rc4 _ _ _ _ _) ?_
      refine wpStill_nil ?_
      have hcast : ((height - 1 : Nat) : Int) = (height : Int) - 1 := by omega
      obtain ⟨N, hN⟩ : ∃ N, N = (#[.int .i64 dep, .int .u32 ((height : Int) - 1), .slice (some ⟨bb, oo, none⟩) i c] : Array Value) := ⟨_, rfl⟩
      rw [← hN]
      have HNE : Hid (N = rcA dep (height - 1) (some ⟨bb, oo, none⟩) (ds.length - 1) c) := by show _ = _; rw [hN]; unfold rcA; rw [hcast, show ds.length - 1 = i by omega]
      have HNS : Hid (N.size = 3) := by show _ = _; rw [hN]; rfl
      have HNO : Hid (N.all (·.oneCell') = true) := by show _ = _; rw [HNE.out]; exact rcA_one _ _ _ _ _
      clear hN hcast
      have HBF := Lib.hid (below_setRow HBD.out (show w.heap.size ≤ w.heap.size + 1 + 1 by omega) N)
      have HSF := Lib.hid (setRow_heap _ _ _ N _ _ HR2D.out)
      go_wp2_with ((with_reducible refine wpStoreAt 4 ?_); refine wpList_store_row rfl 41 _ _ rfl (w.heap.size + 1 + 1) N rfl rfl 41 Z HR2D.out (infoRC _ HNS.out) (by rw [hZ.out, HNS.out]) HNO.out ?_)
      refine bodyPost_ret (results_row_tmp rfl _ _ _ _ _ _ _ rfl HSF.out Try.underlying41 rfl (infoRC _ HNS.out)) rfl ?_
      exact ⟨by rw [HD.out, if_pos rfl, ← HNE.out]; rfl, HBF.out⟩
end Go.Proofs.Ytepemfgiigceoaa.Chn

namespace Go.Proofs.Ytepemfgiigceoaa.Chn
open Go.RowKit Go.Mir Go.Mir.Parts Go.Proofs.Ytepemfgiigceoaa.Blk

theorem sl_take {w : World} {p : Option Addr} {n c size k : Nat} {vs : List Value} (h : Sl w p n c size vs) (hk : k ≤ n) : Sl w p k c size (vs.take (k * size)) :=
  ⟨by rw [List.length_take, h.len]; exact Nat.min_eq_left (Nat.mul_le_mul_right _ hk), Nat.le_trans hk h.le, h.max, h.nil0, fun a ha j u hu => by
    rw [List.getElem?_take] at hu
    split at hu
    · exact h.cell a ha j u hu
    · cases hu⟩
theorem flatten_take {size : Nat} : ∀ (k : Nat) (rs : List (List Value)), (∀ r ∈ rs, r.length = size) → rs.flatten.take (k * size) = (rs.take k).flatten
  | 0, rs, _ => by simp
  | k + 1, [], _ => by simp
  | k + 1, r :: rs, hr => by
    have h1 := hr r (by simp)
    rw [List.take_succ_cons, List.flatten_cons, List.flatten_cons, ← flatten_take k rs (fun x hx => hr x (by simp [hx])), List.take_append, List.take_of_length_le (by rw [h1, Nat.succ_mul]; omega)]
    congr 2
    rw [h1, Nat.succ_mul]; omega
theorem Bks.taken {w : World} {p : Option Addr} {n c : Nat} {ds : List BlkD} {rows : List (List Value)} (h : Bks w p n c ds rows) (k : Nat) (hk : k ≤ n) : Bks w p k c (ds.take k) (rows.take k) := by
  have hs := sl_take h.rs.sl hk
  rw [flatten_take k rows h.rs.each] at hs
  refine ⟨⟨hs, fun r hr => h.rs.each r (List.mem_of_mem_take hr), by rw [List.length_take, h.rs.count]; exact Nat.min_eq_left hk⟩, by rw [List.length_take, h.count]; exact Nat.min_eq_left hk, fun i r d h1 h2 => ?_⟩
  rw [List.getElem?_take] at h1 h2
  split at h1
  · rename_i hi
    rw [if_pos hi] at h2
    exact h.each i r d h1 h2
  · cases h1
/-- may such a chain be? -/
def rightC (depth height : Nat) (ds : List BlkD) : Bool := decide (ds.length ≤ depth + 1) && decide (ds.length ≤ height) && goesB ds ds.length

set_option maxRecDepth 100000 in
theorem rRightC_out (dep : Int) (height : Nat) (p : Option Addr) (n c : Nat) (w : World) (h : dep < 1 ∨ 16 < dep) :
    Calls Try.prog 31 #[.agg (rcA dep height p n c)] w fun e w' => e = .returned (.bool false) ∧ Below w.heap.size w w' := by
  obtain ⟨RC, hRC⟩ : ∃ RC, RC = rcA dep height p n c := ⟨_, rfl⟩
  rw [← hRC]
  have HB := Lib.hid (Below.allocs w (.cells RC 41))
  have hc0 : (w.alloc (.cells RC 41)).cell? ⟨w.heap.size, 0, none⟩ = some (.int .i64 dep) := by rw [cell_of_row _ _ _ _ _ _ (heap_alloc_last _ _), hRC]; rfl
  clear hRC
  by_cases h1 : dep < 1
  · have e1 : decide (dep < 1) = true := decide_eq_true h1
    clear h
    go_enter Try.func31, Try.ntmps31
    go_upto_region 1 with fail
    generalize w.alloc (.cells RC 41) = w1 at *
    go_wp2_with fail
    go_ret
    exact ⟨rfl, HB.out⟩
  · have e1 : decide (dep < 1) = false := decide_eq_false h1
    have h2 : 16 < dep := by omega
    have e2 : decide (16 < dep) = true := decide_eq_true h2
    clear h h1
    go_enter Try.func31, Try.ntmps31
    go_upto_region 1 with fail
    generalize w.alloc (.cells RC 41) = w1 at *
    go_wp2_with fail
    go_ret
    exact ⟨rfl, HB.out⟩

set_option maxRecDepth 100000 in
set_option maxHeartbeats 1600000 in
theorem rRightC_any (depth height : Nat) (hd : 1 ≤ depth ∧ depth ≤ 16) (hh : height ≤ 4294967295) (ds : List BlkD) (hn : ds.length ≤ 1000) (p : Option Addr) (c : Nat) (rows : List (List Value)) (w : World) (hW : Bks w p ds.length c ds rows) :
    Calls Try.prog 31 #[.agg (rcA (depth : Int) height p ds.length c)] w fun e w' => e = .returned (.bool (rightC depth height ds)) ∧ Below w.heap.size w w' := by
  obtain ⟨RC, hRC⟩ : ∃ RC, RC = rcA (depth : Int) height p ds.length c := ⟨_, rfl⟩
  rw [← hRC]
  have HB := Lib.hid (Below.allocs w (.cells RC 41))
  have HR := Lib.hid (heap_alloc_last w (.cells RC 41))
  have HW := Lib.hid hW
  have HD := Lib.hid hd
  have hle := hW.rs.sl.le
  have hmax := hW.rs.sl.max
  have HRC := Lib.hid hRC
  obtain ⟨hd1, hd2⟩ := hd
  have e1 : decide ((depth : Int) < 1) = false := decide_eq_false (by omega)
  have e2 : decide (16 < (depth : Int)) = false := decide_eq_false (by omega)
  have hw1 : IntKind.i64.wrap ((depth : Int) + 1) = (depth : Int) + 1 := IntWalk.i64_in _ (by omega)
  have hc0 : (w.alloc (.cells RC 41)).cell? ⟨w.heap.size, 0, none⟩ = some (.int .i64 (depth : Int)) := by rw [cell_of_row _ _ _ _ _ _ HR.out, hRC]; rfl
  have hc1 : (w.alloc (.cells RC 41)).cell? ⟨w.heap.size, 1, none⟩ = some (.int .u32 (height : Int)) := by rw [cell_of_row _ _ _ _ _ _ HR.out, hRC]; rfl
  have hc2 : (w.alloc (.cells RC 41)).cell? ⟨w.heap.size, 2, none⟩ = some (.slice p ds.length c) := by rw [cell_of_row _ _ _ _ _ _ HR.out, hRC]; rfl
  clear hW hRC
  by_cases hl1 : (depth : Int) + 1 < (ds.length : Int)
  · have e3 : decide ((depth : Int) + 1 < (ds.length : Int)) = true := decide_eq_true hl1
    have HE : Hid (rightC depth height ds = false) := by
      show _ = _; unfold rightC; rw [decide_eq_false (by omega)]; rfl
    go_enter Try.func31, Try.ntmps31
    go_upto_region 1 with fail
    generalize w.alloc (.cells RC 41) = w1 at *
    go_wp2_with fail
    go_ret
    exact ⟨by rw [HE.out]; rfl, HB.out⟩
  have e3 : decide ((depth : Int) + 1 < (ds.length : Int)) = false := decide_eq_false hl1
  by_cases hl2 : (height : Int) < (ds.length : Int)
  · have e4 : decide ((height : Int) < (ds.length : Int)) = true := decide_eq_true hl2
    have e5 : decide (height < ds.length) = true := decide_eq_true (by omega)
    have HE : Hid (rightC depth height ds = false) := by
      show _ = _; unfold rightC; rw [decide_eq_false (p := ds.length ≤ height) (by omega), Bool.and_false]; rfl
    go_enter Try.func31, Try.ntmps31
    go_upto_region 1 with fail
    generalize w.alloc (.cells RC 41) = w1 at *
    go_wp2_with fail
    go_ret
    exact ⟨by rw [HE.out]; rfl, HB.out⟩
  have e4 : decide ((height : Int) < (ds.length : Int)) = false := decide_eq_false hl2
  have e5 : decide (height < ds.length) = false := decide_eq_false (by omega)
  have HE : Hid (rightC depth height ds = goesB ds ds.length) := by
    show _ = _; unfold rightC; rw [decide_eq_true (by omega), decide_eq_true (by omega)]; rfl
  go_enter Try.func31, Try.ntmps31
  go_upto_region 1 with fail
  generalize w.alloc (.cells RC 41) = w1 at *
  go_wp2_with fail
  clear hc0 hc1 hc2 e1 e2 e3 e4 e5 hw1 hl1 hl2
  go_loopw [3] (fun j wr => ∃ k : Nat, k ≤ ds.length ∧ j = .int .i64 k ∧ goesB ds k = true ∧ Below w1.heap.size w1 wr) (fun j _ => ds.length - (intOf j).toNat)
  case atStart => exact ⟨0, by omega, rfl, rfl, Below.refl _ _⟩
  case round =>
    obtain ⟨k, hk, rfl, hgo, hbw⟩ := hrel
    have HGO := Lib.hid hgo
    have HBW := Lib.hid hbw
    have HBT := Lib.hid (HB.out.trans (hbw.mono HB.out.size))
    have HRCW := Lib.hid (Below.keepOld hbw HR.out)
    have hc2 : wr.cell? ⟨w.heap.size, 2, none⟩ = some (.slice p ds.length c) := by rw [cell_of_row _ _ _ _ _ _ HRCW.out, HRC.out]; rfl
    clear hgo hbw
    by_cases hlt : k < ds.length
    · have hd : decide ((k : Int) < (ds.length : Int)) = true := decide_eq_true (by omega)
      obtain ⟨b, o, rfl⟩ := HW.out.rs.sl.addr (by omega) (by omega)
      obtain ⟨q, cq, hbq, hrg⟩ := HW.out.at k hlt
      have HGS := Lib.hid (fun hm => goesB_step hlt HGO.out hm)
      have HGX := Lib.hid (fun hm => goesB_stop (ds := ds) hlt hm)
      have HTK := Lib.hid ((HW.out.below HBT.out).taken k hk)
      generalize hdk : ds[k] = d at *
      have HDK := Lib.hid hdk
      obtain ⟨A, hA⟩ : ∃ A, A = blkA d.hash d.par q d.txs.length cq := ⟨_, rfl⟩
      rw [← hA] at hbq hrg
      have HBQ := Lib.hid (hbq.below HBT.out)
      have HAS := Lib.hid hbq.size
      have HHL := Lib.hid hbq.hlen
      have HPL := Lib.hid hbq.plen
      have HMA : Hid (A.toList = bytesV d.hash ++ bytesV d.par ++ [Value.slice q d.txs.length cq]) := by show _ = _; rw [hA, blkA_toList]
      have HRG : Hid (∀ y : Grown wr, y.v.rangeAt b (o + k * 65) A.toList) := fun y => range_grown (range_below hrg HBT.out) y
      have HRH : Hid (∀ y : Grown wr, y.v.rangeAt b (o + k * 65) (idA d.hash).toList) := fun y j v hv => by
        refine HRG.out y j v ?_
        rw [HMA.out, List.append_assoc, List.getElem?_append_left (by have := (List.getElem?_eq_some_iff.1 hv).1; rwa [idA_toList] at this)]
        rwa [idA_toList] at hv
      have HRP : Hid (∀ y : Grown wr, y.v.rangeAt b (o + k * 65 + 32) (idA d.par).toList) := fun y j v hv => by
        have := HRG.out y (32 + j) v (by
          rw [HMA.out, List.append_assoc, List.getElem?_append_right (by rw [bytesV_length, HHL.out]; omega), bytesV_length, HHL.out, Nat.add_sub_cancel_left, List.getElem?_append_left (by have := (List.getElem?_eq_some_iff.1 hv).1; rwa [idA_toList] at this)]
          rwa [idA_toList] at hv)
        rwa [Nat.add_assoc (o + k * 65)]
      have hg2 := cell_grown hc2
      clear hbq hrg hA hdk
      have HRR : ∀ bb, rightB d = bb → ∀ x : Grown wr, Calls Try.prog 42 #[.agg A] x.v fun e w' => e = .returned (.bool bb) ∧ Below x.v.heap.size x.v w' := fun bb hb x => by
        rw [← hb]; exact rRight_any A d q _ cq _ (HBQ.out.below (Grown.b _))
      cases hr : rightB d with
      | false =>
        have HCR := Lib.hid (HRR false hr)
        have HRES : Hid (rightC depth height ds = false) := by
          show _ = _; rw [HE.out]
          refine HGX.out ?_
          unfold mayE; rw [if_pos hr]; omega
        clear HRR hr
        go_wp2_with fail
        refine wp_region_grow (by kernel_rfl) (by kernel_rfl) ?_
        repeat (first
          | ((with_reducible refine wpQuietGd ?_); (with_reducible refine wpQuiet_skip ?_ ?_); (· rfl); simp only [Act.put, List.setIfInBounds_toArray, List.set_cons_zero, List.set_cons_succ])
          | ((with_reducible refine wpQuietAt 42 ?_); refine wpQuiet_load rfl 33 _ rfl b (o + k * 65) rfl A _ HRG.out Try.underlying33 rfl (infoBlk _ HAS.out) ?_)
          | quiet_step ((first | (go_at_call 42; exact Calls.grow_of (HCR.out _)))))
        refine wpQuiet_nil ?_
        intro w4 hb4
        have HB4 := Lib.hid (HBT.out.trans (hb4.mono HBT.out.size))
        clear hb4 hg2 hc2
        go_wp2_with fail
        go_ret
        exact ⟨by rw [HRES.out]; rfl, HB4.out⟩
      | true =>
        have HCR := Lib.hid (HRR true hr)
        have HRT := Lib.hid hr
        clear HRR hr
        have hkc : k ≤ c := by omega
        by_cases hk0 : k = 0
        · have hz : decide ((0 : Int) < (k : Int)) = false := decide_eq_false (by omega)
          have hz2 : decide (0 < k) = false := decide_eq_false (by omega)
          have HTIP : Hid (TipOk (ds.take k) d) := .inl (by rw [hk0]; rfl)
          clear hk0
          go_wp2_with fail
          refine wp_region_grow (by kernel_rfl) (by kernel_rfl) ?_
          repeat (first
            | ((with_reducible refine wpQuietGd ?_); (with_reducible refine wpQuiet_skip ?_ ?_); (· rfl); simp only [Act.put, List.setIfInBounds_toArray, List.set_cons_zero, List.set_cons_succ])
            | ((with_reducible refine wpQuietAt 42 ?_); refine wpQuiet_load rfl 33 _ rfl b (o + k * 65) rfl A _ HRG.out Try.underlying33 rfl (infoBlk _ HAS.out) ?_)
            | ((with_reducible refine wpQuietAt 75 ?_); refine wpQuiet_load rfl 30 _ rfl b (o + k * 65) rfl (idA d.hash) _ HRH.out Try.underlying30 rfl (infoI _ (by rw [idA_size, HHL.out])) ?_)
            | quiet_step ((first | (go_at_call 42; exact Calls.grow_of (HCR.out _)) | (go_at_call 43; exact Calls.grow_of (rhas_any (ds.take k) _ _ c (rows.take k) d.hash _ (HTK.out.below (Grown.b _)) HHL.out)))))
          refine wpQuiet_nil ?_
          intro w4 hb4
          have HB4 := Lib.hid (HBT.out.trans (hb4.mono HBT.out.size))
          have HBL := Lib.hid (HBW.out.trans (hb4.mono HBW.out.size))
          clear hb4 hg2 hc2
          cases hth : (findR (ds.take k) 0 d.hash).2 with
          | true =>
            have hx : decide ((0 : Int) ≤ hasR (ds.take k) d.hash) = true := (hasR_ge _ 0 d.hash).trans hth
            have hxl : (0 : Int) ≤ hasR (ds.take k) d.hash := of_decide_eq_true hx
            have HRES : Hid (rightC depth height ds = false) := by
              show _ = _; rw [HE.out]
              refine HGX.out ?_
              rw [mayE_ok HRT.out HTIP.out, hth]; decide
            clear hth
            generalize hasR (ds.take k) d.hash = E at *
            go_wp2_with fail
            go_ret
            exact ⟨by rw [HRES.out]; rfl, HB4.out⟩
          | false =>
            have hx : decide ((0 : Int) ≤ hasR (ds.take k) d.hash) = false := (hasR_ge _ 0 d.hash).trans hth
            have hxl : hasR (ds.take k) d.hash < 0 := by have := of_decide_eq_false hx; omega
            have HNX : Hid (goesB ds (k + 1) = true) := HGS.out (by rw [mayE_ok HRT.out HTIP.out, hth]; simp)
            clear hth
            generalize hasR (ds.take k) d.hash = E at *
            go_wp2_with fail
            go_roundw
            case rel => exact ⟨k + 1, by omega, by go_num, HNX.out, HBL.out⟩
            case measure => simp [intOf]; omega
        · have hz : decide ((0 : Int) < (k : Int)) = true := decide_eq_true (by omega)
          have hz2 : decide (0 < k) = true := decide_eq_true (by omega)
          obtain ⟨i, hi⟩ : ∃ i, i + 1 = k := ⟨k - 1, by omega⟩
          have hsub : (k : Int) - 1 = (i : Int) := by omega
          have hwi : IntKind.i64.wrap ((k : Int) - 1) = (i : Int) := by rw [hsub]; exact IntWalk.i64_in _ (by omega)
          have hwi2 : IntKind.i64.wrap (i : Int) = (i : Int) := IntWalk.i64_in _ (by omega)
          have hin : (i : Int) < (ds.length : Int) := by omega
          have hi0 : (0 : Int) ≤ (i : Int) := by omega
          obtain ⟨q', c', hbt, hrgt⟩ := HW.out.at i (by omega)
          have HLAST : Hid ((ds.take k).getLast? = some (ds[i]'(by omega))) := by
            show _ = _
            rw [List.getLast?_eq_getElem?, List.length_take, Nat.min_eq_left hk, show k - 1 = i by omega, List.getElem?_take, if_pos (by omega), List.getElem?_eq_getElem (by omega)]
          generalize (ds[i]'(by omega)) = t at *
          have HTL := Lib.hid hbt.hlen
          have HRGT : Hid (∀ y : Grown wr, y.v.rangeAt b (o + i * 65) (idA t.hash).toList) := fun y => by
            have h1 := range_grown (range_below hrgt HBT.out) y
            intro j v hv
            refine h1 j v ?_
            rw [blkA_toList, List.append_assoc, List.getElem?_append_left (by have := (List.getElem?_eq_some_iff.1 hv).1; rwa [idA_toList] at this)]
            rwa [idA_toList] at hv
          have hq : ∀ w, (Op.equalIn 10000 30 (.agg (idA d.par)) (.agg (idA t.hash))).run Try.prog w = .ok (d.par == t.hash) w := fun w => eqI w d.par t.hash HPL.out HTL.out
          clear hbt hrgt hk0
          by_cases hpar : t.hash = d.par
          · have hpb : (d.par == t.hash) = true := by rw [beq_iff_eq]; exact hpar.symm
            have HTIP : Hid (TipOk (ds.take k) d) := .inr ⟨t, HLAST.out, hpar⟩
            clear hpar
            go_wp2_with fail
            refine wp_region_grow (by kernel_rfl) (by kernel_rfl) ?_
            repeat (first
              | ((with_reducible refine wpQuietGd ?_); (with_reducible refine wpQuiet_skip ?_ ?_); (· rfl); simp only [Act.put, List.setIfInBounds_toArray, List.set_cons_zero, List.set_cons_succ])
              | ((with_reducible refine wpQuietAt 42 ?_); refine wpQuiet_load rfl 33 _ rfl b (o + k * 65) rfl A _ HRG.out Try.underlying33 rfl (infoBlk _ HAS.out) ?_)
              | ((with_reducible refine wpQuietAt 54 ?_); refine wpQuiet_load rfl 30 _ rfl b (o + k * 65 + 32) rfl (idA d.par) _ HRP.out Try.underlying30 rfl (infoI _ (by rw [idA_size, HPL.out])) ?_)
              | ((with_reducible refine wpQuietAt 61 ?_); refine wpQuiet_load rfl 30 _ rfl b (o + i * 65) rfl (idA t.hash) _ HRGT.out Try.underlying30 rfl (infoI _ (by rw [idA_size, HTL.out])) ?_)
              | ((with_reducible refine wpQuietAt 75 ?_); refine wpQuiet_load rfl 30 _ rfl b (o + k * 65) rfl (idA d.hash) _ HRH.out Try.underlying30 rfl (infoI _ (by rw [idA_size, HHL.out])) ?_)
              | quiet_step ((first | (go_at_call 42; exact Calls.grow_of (HCR.out _)) | (go_at_call 43; exact Calls.grow_of (rhas_any (ds.take k) _ _ c (rows.take k) d.hash _ (HTK.out.below (Grown.b _)) HHL.out)))))
            refine wpQuiet_nil ?_
            intro w4 hb4
            have HB4 := Lib.hid (HBT.out.trans (hb4.mono HBT.out.size))
            have HBL := Lib.hid (HBW.out.trans (hb4.mono HBW.out.size))
            clear hb4 hg2 hq hc2
            cases hth : (findR (ds.take k) 0 d.hash).2 with
            | true =>
              have hx : decide ((0 : Int) ≤ hasR (ds.take k) d.hash) = true := (hasR_ge _ 0 d.hash).trans hth
              have hxl : (0 : Int) ≤ hasR (ds.take k) d.hash := of_decide_eq_true hx
              have HRES : Hid (rightC depth height ds = false) := by
                show _ = _; rw [HE.out]
                refine HGX.out ?_
                rw [mayE_ok HRT.out HTIP.out, hth]; decide
              clear hth
              generalize hasR (ds.take k) d.hash = E at *
              go_wp2_with fail
              go_ret
              exact ⟨by rw [HRES.out]; rfl, HB4.out⟩
            | false =>
              have hx : decide ((0 : Int) ≤ hasR (ds.take k) d.hash) = false := (hasR_ge _ 0 d.hash).trans hth
              have hxl : hasR (ds.take k) d.hash < 0 := by have := of_decide_eq_false hx; omega
              have HNX : Hid (goesB ds (k + 1) = true) := HGS.out (by rw [mayE_ok HRT.out HTIP.out, hth]; simp)
              clear hth
              generalize hasR (ds.take k) d.hash = E at *
              go_wp2_with fail
              go_roundw
              case rel => exact ⟨k + 1, by omega, by go_num, HNX.out, HBL.out⟩
              case measure => simp [intOf]; omega
          · have hpb : (d.par == t.hash) = false := by rw [beq_eq_false_iff_ne]; exact fun e => hpar e.symm
            have HRES : Hid (rightC depth height ds = false) := by
              show _ = _; rw [HE.out]
              refine HGX.out ?_
              unfold mayE; rw [HRT.out, HLAST.out]
              simp [hpb]
            clear hpar
            go_wp2_with fail
            refine wp_region_grow (by kernel_rfl) (by kernel_rfl) ?_
            repeat (first
              | ((with_reducible refine wpQuietGd ?_); (with_reducible refine wpQuiet_skip ?_ ?_); (· rfl); simp only [Act.put, List.setIfInBounds_toArray, List.set_cons_zero, List.set_cons_succ])
              | ((with_reducible refine wpQuietAt 42 ?_); refine wpQuiet_load rfl 33 _ rfl b (o + k * 65) rfl A _ HRG.out Try.underlying33 rfl (infoBlk _ HAS.out) ?_)
              | ((with_reducible refine wpQuietAt 54 ?_); refine wpQuiet_load rfl 30 _ rfl b (o + k * 65 + 32) rfl (idA d.par) _ HRP.out Try.underlying30 rfl (infoI _ (by rw [idA_size, HPL.out])) ?_)
              | ((with_reducible refine wpQuietAt 61 ?_); refine wpQuiet_load rfl 30 _ rfl b (o + i * 65) rfl (idA t.hash) _ HRGT.out Try.underlying30 rfl (infoI _ (by rw [idA_size, HTL.out])) ?_)
              | quiet_step ((first | (go_at_call 42; exact Calls.grow_of (HCR.out _)))))
            refine wpQuiet_nil ?_
            intro w4 hb4
            have HB4 := Lib.hid (HBT.out.trans (hb4.mono HBT.out.size))
            clear hb4 hg2 hq hc2
            go_wp2_with fail
            go_ret
            exact ⟨by rw [HRES.out]; rfl, HB4.out⟩
    · have hd : decide ((k : Int) < (ds.length : Int)) = false := decide_eq_false (by omega)
      obtain rfl : k = ds.length := by omega
      have HRES : Hid (rightC depth height ds = true) := HE.out.trans HGO.out
      go_wp2_with fail
      go_ret
      exact ⟨by rw [HRES.out]; rfl, HBT.out⟩
end Go.Proofs.Ytepemfgiigceoaa.Chn

namespace Go.Proofs.Ytepemfgiigceoaa.Chn
open Go.RowKit Go.Mir Go.Mir.Parts Go.Proofs.Ytepemfgiigceoaa.Blk

/-- a chain, and blocks that an earlier call told -/
def Rel (W : World) (B cb d : Nat) (po : Option Addr) (co Bo : Nat) (ds0 : List BlkD) (rowso : List (List Value)) (wr : World) (h : Nat) (ds : List BlkD) : Prop :=
  ∃ p c rows, ChAt wr B cb d h ds p c rows ∧ ds.length ≤ h ∧ Own wr Bo po ds0.length co ds0 rowso ∧ (∀ k, (Value.slice po ds0.length co).ownBlock = some k → ¬ ChOwn cb p ds.length c k) ∧ B ≤ wr.heap.size ∧ W.heap.size ≤ B ∧ Below W.heap.size W wr
section
variable {W : World} {B cb d : Nat} {po : Option Addr} {co Bo : Nat} {ds0 : List BlkD} {rowso : List (List Value)} {wr : World} {h : Nat} {ds : List BlkD}
theorem Rel.belowW (hR : Rel W B cb d po co Bo ds0 rowso wr h ds) : Below W.heap.size W wr := hR.choose_spec.choose_spec.choose_spec.2.2.2.2.2.2
theorem Rel.blks (hR : Rel W B cb d po co Bo ds0 rowso wr h ds) : Bks wr po ds0.length co ds0 rowso := by
  obtain ⟨p, c, rows, h1, h2, h3, h4, h5, h6, h7⟩ := hR
  exact h3.bks
theorem Rel.few (hR : Rel W B cb d po co Bo ds0 rowso wr h ds) : ∀ x ∈ ds, x.txs.length ≤ 1099511627776 := by
  obtain ⟨p, c, rows, h1, h2, h3, h4, h5, h6, h7⟩ := hR
  exact h1.few
theorem Rel.len (hR : Rel W B cb d po co Bo ds0 rowso wr h ds) : ds.length ≤ d + 1 ∧ ds.length ≤ h ∧ h ≤ 4294967295 ∧ 1 ≤ d ∧ d ≤ 16 := by
  obtain ⟨p, c, rows, h1, h2, h3, h4, h5, h6, h7⟩ := hR
  exact ⟨h1.many.1, h2, h1.many.2, h1.depth1.1, h1.depth1.2⟩
theorem Rel.below {w' : World} (hR : Rel W B cb d po co Bo ds0 rowso wr h ds) (hb : Below wr.heap.size wr w') : Rel W B cb d po co Bo ds0 rowso w' h ds := by
  obtain ⟨p, c, rows, h1, h2, h3, h4, h5, h6, h7⟩ := hR
  exact ⟨p, c, rows, h1.below hb, h2, h3.below hb, h4, Nat.le_trans h5 hb.size, h6, h7.trans (hb.mono h7.size)⟩
theorem Rel.turn {w' : World} {p p' : Option Addr} {c c' h' : Nat} {ds' : List BlkD} {rows rows' : List (List Value)} (h1 : ChAt wr B cb d h ds p c rows) (h2' : ds'.length ≤ h') (h3 : Own wr Bo po ds0.length co ds0 rowso) (h4 : ∀ k, (Value.slice po ds0.length co).ownBlock = some k → ¬ ChOwn cb p ds.length c k) (h5 : B ≤ wr.heap.size) (h6 : W.heap.size ≤ B) (h7 : Below W.heap.size W wr)
    (hc : ChAt w' B cb d h' ds' p' c' rows') (ht : Turns (ChOwn cb p ds.length c) wr w') (hn : ∀ k, (Value.slice p' ds'.length c').ownBlock = some k → (Value.slice p ds.length c).ownBlock = some k ∨ wr.heap.size ≤ k) : Rel W B cb d po co Bo ds0 rowso w' h' ds' := by
  refine ⟨p', c', rows', hc, h2', h3.touch ht h1.mid.noId h4, fun k hk hs => ?_, Nat.le_trans h5 ht.size, h6, h7.trans (ht.below h7.size (fun i hi => Nat.le_trans h6 (h1.ownLow i hi)))⟩
  rcases hs with hs | hs
  · exact h4 k hk (.inl hs)
  · rcases hn k hs with hn | hn
    · exact h4 k hk (.inr hn)
    · have := (h3.own.lt k hk).2
      omega
/-- Connect -/
def ConnR (W wr : World) (B cb d : Nat) (po : Option Addr) (co Bo : Nat) (ds0 : List BlkD) (rowso : List (List Value)) (h : Nat) (ds : List BlkD) (b : BlkD) (e : Ending) (w' : World) : Prop :=
  e = .returned (.int .i64 (mayE ds h b)) ∧ (mayE ds h b = 0 → Rel W B cb d po co Bo ds0 rowso w' (h + 1) (cutD d (ds ++ [b]))) ∧ (¬ mayE ds h b = 0 → Rel W B cb d po co Bo ds0 rowso w' h ds ∧ Below wr.heap.size wr w')
theorem conn_rel (hR : Rel W B cb d po co Bo ds0 rowso wr h ds) (M : Array Value) (b : BlkD) (q : Option Addr) (n cc : Nat) (hM : BlkAt wr M b q n cc) (hn : n ≤ 1099511627776) :
    Calls Try.prog 13 #[.pointer (some ⟨cb, 0, none⟩), .agg M] wr (ConnR W wr B cb d po co Bo ds0 rowso h ds b) := by
  have hR0 := hR
  obtain ⟨p, c, rows, h1, h2, h3, h4, h5, h6, h7⟩ := hR
  by_cases hm : mayE ds h b = 0
  · refine (connect_ok wr h1 h5 M b q n cc hM hn hm).mono ?_
    rintro e w' ⟨rfl, p', c', rows', hc, _, ht, hnn⟩
    exact ⟨by rw [hm], fun _ => Rel.turn h1 (cutD_len h2) h3 h4 h5 h6 h7 hc ht hnn, fun hx => absurd hm hx⟩
  · refine (connect_not wr h1 M b q n cc hM hm).mono ?_
    rintro e w' ⟨rfl, hb⟩
    exact ⟨rfl, fun hx => absurd hx hm, fun _ => ⟨hR0.below hb, hb⟩⟩
/-- Disconnect -/
def DiscR (W wr : World) (B cb d : Nat) (po : Option Addr) (co Bo : Nat) (ds0 : List BlkD) (rowso : List (List Value)) (h : Nat) (ds : List BlkD) (x : List UInt8) (e : Ending) (w' : World) : Prop :=
  e = .returned (.int .i64 (discE ds x)) ∧ (discE ds x = 0 → Rel W B cb d po co Bo ds0 rowso w' (h - 1) ds.dropLast) ∧ (¬ discE ds x = 0 → Rel W B cb d po co Bo ds0 rowso w' h ds ∧ Below wr.heap.size wr w')
theorem disc_two {ds : List BlkD} {x : List UInt8} (h : discE ds x = 0) : 2 ≤ ds.length := by
  unfold discE at h
  cases hl : ds.getLast? with
  | none => rw [hl] at h; simp at h
  | some t =>
    rw [hl] at h
    dsimp only at h
    split at h
    · split at h
      · exact absurd h (by decide)
      · omega
    · exact absurd h (by decide)
theorem disc_rel (hR : Rel W B cb d po co Bo ds0 rowso wr h ds) (x : List UInt8) (hx : x.length = 32) :
    Calls Try.prog 14 #[.pointer (some ⟨cb, 0, none⟩), .agg (idA x)] wr (DiscR W wr B cb d po co Bo ds0 rowso h ds x) := by
  have hR0 := hR
  obtain ⟨p, c, rows, h1, h2, h3, h4, h5, h6, h7⟩ := hR
  refine (disc_any wr h1 h2 x hx).mono ?_
  rintro e w' ⟨rfl, hno, hok⟩
  refine ⟨rfl, fun hz => ?_, fun hz => ⟨hR0.below (hno hz), hno hz⟩⟩
  obtain ⟨c', rows', hc, ht⟩ := hok hz
  refine Rel.turn h1 (by have := disc_two hz; rw [List.length_dropLast]; omega) h3 h4 h5 h6 h7 hc ht (fun k hk => .inl ?_)
  cases p with
  | none => simp [Value.ownBlock] at hk
  | some a => exact hk
theorem tip_rel (hR : Rel W B cb d po co Bo ds0 rowso wr h ds) : Calls Try.prog 16 #[.pointer (some ⟨cb, 0, none⟩)] wr (TipQ ds wr) := by
  obtain ⟨p, c, rows, h1, h2, h3, h4, h5, h6, h7⟩ := hR
  exact tip_q wr h1
theorem win_rel (hR : Rel W B cb d po co Bo ds0 rowso wr h ds) : Calls Try.prog 12 #[.pointer (some ⟨cb, 0, none⟩)] wr (WinP ds wr) := by
  obtain ⟨p, c, rows, h1, h2, h3, h4, h5, h6, h7⟩ := hR
  exact window_any wr h1
theorem height_rel (hR : Rel W B cb d po co Bo ds0 rowso wr h ds) : Calls Try.prog 15 #[.pointer (some ⟨cb, 0, none⟩)] wr fun e w' => e = .returned (.int .u32 (h : Int)) ∧ wr = w' := by
  obtain ⟨p, c, rows, h1, h2, h3, h4, h5, h6, h7⟩ := hR
  exact (height_any wr h1).mono fun e w' ⟨he, hw⟩ => ⟨he, hw.symm⟩
/-- the window kept from here on -/
theorem Rel.keep {w' : World} {p2 : Option Addr} {c2 : Nat} {rows2 : List (List Value)} (hR : Rel W B cb d po co Bo ds0 rowso wr h ds) (ho : Own w' wr.heap.size p2 ds.length c2 ds rows2) (hb : Below wr.heap.size wr w') : Rel W B cb d p2 c2 wr.heap.size ds rows2 w' h ds := by
  obtain ⟨p, c, rows, h1, h2, h3, h4, h5, h6, h7⟩ := hR
  refine ⟨p, c, rows, h1.below hb, h2, ho, fun k hk hs => ?_, Nat.le_trans h5 hb.size, h6, h7.trans (hb.mono h7.size)⟩
  have hk2 := (ho.own.lt k hk).1
  rcases hs with hs | hs
  · have := (Array.getElem?_eq_some_iff.1 h1.row).1; omega
  · have := (keeps_lt h1.keeps k hs).2; omega
end
theorem Bks.dropped {w : World} {b o n c : Nat} {ds : List BlkD} {rows : List (List Value)} (h : Bks w (some ⟨b, o, none⟩) n c ds rows) (k : Nat) (hk : k ≤ n) : Bks w (some ⟨b, o + k * 65, none⟩) (n - k) (c - k) (ds.drop k) (rows.drop k) := by
  have hs := sl_dropped h.rs.sl hk
  have hf : ∀ (k : Nat) (rs : List (List Value)), (∀ r ∈ rs, r.length = 65) → rs.flatten.drop (k * 65) = (rs.drop k).flatten := by
    intro k
    induction k with
    | zero => intro rs _; simp
    | succ k ih =>
      intro rs hr
      cases rs with
      | nil => simp
      | cons r rs =>
        rw [List.drop_succ_cons, ← ih rs (fun x hx => hr x (by simp [hx])), List.flatten_cons, List.drop_append, List.drop_of_length_le (by have := hr r (by simp); omega), List.nil_append]
        congr 1
        have := hr r (by simp)
        omega
  rw [hf k rows h.rs.each] at hs
  refine ⟨⟨hs, fun r hr => h.rs.each r (List.mem_of_mem_drop hr), by rw [List.length_drop, h.rs.count]⟩, by rw [List.length_drop, h.count], fun i r d h1 h2 => ?_⟩
  rw [List.getElem?_drop] at h1 h2
  exact h.each _ r d h1 h2
end Go.Proofs.Ytepemfgiigceoaa.Chn

namespace Go.Proofs.Ytepemfgiigceoaa.Chn
open Go.RowKit Go.Mir Go.Mir.Parts Go.Proofs.Ytepemfgiigceoaa.Blk

theorem build_ch (dep h : Int) (p : Option Addr) (n c : Nat) : Try.prog.built 70 [(0, .int .i64 dep), (1, .int .u32 h), (2, .slice p n c)] = some #[.int .i64 dep, .int .u32 h, .slice p n c] := by kernel_rfl
def CloneP (depth height : Nat) (ds : List BlkD) (w : World) (e : Ending) (w' : World) : Prop := ∃ cb p c rows, e = .returned (.pointer (some ⟨cb, 0, none⟩)) ∧ w.heap.size ≤ cb ∧ ChAt w' w.heap.size cb depth height ds p c rows ∧ Below w.heap.size w w'

set_option maxRecDepth 100000 in
set_option maxHeartbeats 400000 in
theorem clone_any {base cb depth height : Nat} {ds : List BlkD} {p : Option Addr} {c : Nat} {rows : List (List Value)} (w : World) (h : ChAt w base cb depth height ds p c rows) :
    Calls Try.prog 35 #[.pointer (some ⟨cb, 0, none⟩)] w (CloneP depth height ds w) := by
  have H := Lib.hid h
  clear h
  go_enter Try.func35, Try.ntmps35
  go_wp2_with fail
  refine (none_any cb depth _ H.out.cells.1 H.out.depth1.1).mono ?_
  rintro e w' ⟨rfl, hw⟩
  obtain rfl : w = w' := hw.symm
  go_wp2_with fail
  have hkc : Hid (∀ w', Below w.heap.size w w' → w'.cell? ⟨cb, 0, none⟩ = some (.int .i64 (depth : Int)) ∧ w'.cell? ⟨cb, 1, none⟩ = some (.int .u32 (height : Int))) := fun w' hb => ⟨cell_below H.out.cells.1 hb, cell_below H.out.cells.2.1 hb⟩
  refine wp_region_eager [(0, true), (1, true), (2, true), (3, true), (4, true), (5, true), (6, true), (7, true), (8, true), (9, false), (10, true), (11, false), (12, true)] (by kernel_rfl) (by kernel_rfl) (eagerOpen rfl ?_)
  have hy0 : Below w.heap.size w w.drew := below_drew1 _ _
  repeat (first
    | (first | (apply wpEager_take; (· rfl); (· (intro w' hb'; go_simp; try with_reducible rfl)); (try simp only [Act.put, List.setIfInBounds_toArray, List.set_cons_zero, List.set_cons_succ]); (try refine eagerOpen rfl ?_)) | (refine wpEager_skip (by rfl) ?_; (try simp only [Act.put, List.setIfInBounds_toArray, List.set_cons_zero, List.set_cons_succ]); (try refine eagerOpen rfl ?_)) | (refine wpEager_off (by rfl) ?_; (try simp only [Act.put, List.setIfInBounds_toArray, List.set_cons_zero, List.set_cons_succ]); (try refine eagerOpen rfl ?_)))
    | (apply wpEager_take; (· rfl); (· (intro w' hb'; have hk' := (hkc.out) w' hb'; go_split_ands; go_simp; try with_reducible rfl)); (try simp only [Act.put, List.setIfInBounds_toArray, List.set_cons_zero, List.set_cons_succ]); (try refine eagerOpen rfl ?_)))
  (refine wpEager_op (by rfl) (fun K hK => ?_); go_simp; (refine (window_any _ (H.out.below (below_drew1 _ _))).mono ?_; rintro e y ⟨p2, c2, rows2, rfl, hown, hb⟩; have HOW := Lib.hid hown; have hy1 : Below w.heap.size w y := hy0.trans hb; clear hown hb); refine Shut.out hK _ _ (by assumption) ?_; clear hK K; (try simp only [Act.put, List.setIfInBounds_toArray, List.set_cons_zero, List.set_cons_succ]); (try refine eagerOpen rfl ?_))
  repeat (first
    | ((with_reducible refine eagerAt 15 ?_); refine wpEager_build (by rfl) 70 _ rfl [(0, .int .i64 (depth : Int)), (1, .int .u32 (height : Int)), (2, .slice p2 ds.length c2)] rfl _ (build_ch _ _ _ _ _) ?_; (try simp only [Act.put, List.setIfInBounds_toArray, List.set_cons_zero, List.set_cons_succ]); (try refine eagerOpen rfl ?_))
    | (first | (apply wpEager_take; (· rfl); (· (intro w' hb'; go_simp; try with_reducible rfl)); (try simp only [Act.put, List.setIfInBounds_toArray, List.set_cons_zero, List.set_cons_succ]); (try refine eagerOpen rfl ?_)) | (refine wpEager_skip (by rfl) ?_; (try simp only [Act.put, List.setIfInBounds_toArray, List.set_cons_zero, List.set_cons_succ]); (try refine eagerOpen rfl ?_)) | (refine wpEager_off (by rfl) ?_; (try simp only [Act.put, List.setIfInBounds_toArray, List.set_cons_zero, List.set_cons_succ]); (try refine eagerOpen rfl ?_))))
  refine wpEager_op (by rfl) (fun K hK => ?_)
  go_simp
  have hy2 : Below w.heap.size w (y.alloc (.cells (chA depth height p2 ds.length c2) 70)) := hy1.alloc hy1.size _
  refine Shut.out hK _ _ hy2 ?_
  clear hK K
  (try simp only [Act.put, List.setIfInBounds_toArray, List.set_cons_zero, List.set_cons_succ]); (try refine eagerOpen rfl ?_)
  repeat (first | (apply wpEager_take; (· rfl); (· (intro w' hb'; go_simp; try with_reducible rfl)); (try simp only [Act.put, List.setIfInBounds_toArray, List.set_cons_zero, List.set_cons_succ]); (try refine eagerOpen rfl ?_)) | (refine wpEager_skip (by rfl) ?_; (try simp only [Act.put, List.setIfInBounds_toArray, List.set_cons_zero, List.set_cons_succ]); (try refine eagerOpen rfl ?_)) | (refine wpEager_off (by rfl) ?_; (try simp only [Act.put, List.setIfInBounds_toArray, List.set_cons_zero, List.set_cons_succ]); (try refine eagerOpen rfl ?_)))
  refine eagerEnd ?_
  have HE : Hid (CloneP depth height ds w (.returned (.pointer (some ⟨y.heap.size, 0, none⟩))) (y.alloc (.cells (chA depth height p2 ds.length c2) 70))) := by
    have hb3 := Below.allocs y (.cells (chA depth height p2 ds.length c2) 70)
    have ho := HOW.out.below hb3
    exact ⟨y.heap.size, p2, c2, rows2, rfl, hy1.size, ⟨heap_alloc_last _ _, hy1.size, keeps_of_owns ho.own, ho.count, ho.each, H.out.depth1, H.out.many, H.out.few⟩, hy2⟩
  clear hy0 hy1 hy2
  go_wp2_with fail
  go_ret
  exact HE.out
end Go.Proofs.Ytepemfgiigceoaa.Chn
