/- BLOCKS, plain: their bytes, and what is read of any bytes. Conditions: none. -/
import Derived.Test.YtdaigkcbmdcbcaaDoorBlk10
import Derived.Test.YtdaigkcbmdcbcaaDoorCodQ
namespace Go.Proofs.YtdaigkcbmdcbcaaDoor.Blk
open Go.Mir Go.Mir.Parts Wr Cod Rdr

def _root_.Go.Mir.BlkD.zero : BlkD := ⟨zeros, zeros, []⟩
structure _root_.Go.Mir.BlkD.wf (d : BlkD) : Prop where
  hlen : d.hash.length = 32
  plen : d.par.length = 32
  each : ∀ x ∈ d.txs, x.length = 32
theorem zero_wf : BlkD.zero.wf := ⟨rfl, rfl, fun x hx => (nomatch hx)⟩
def _root_.Go.Mir.BlkD.enc (d : BlkD) : List UInt8 × Int := if rightB d = true then (encL d, 0) else ([], 1)
theorem right_le {d : BlkD} (h : rightB d = true) : d.txs.length ≤ 32 := by
  unfold rightB at h
  simp only [Bool.and_eq_true, decide_eq_true_eq] at h
  exact h.1.1
theorem encL_len {d : BlkD} (hw : d.wf) : (encL d).length = 65 + 32 * d.txs.length := by
  unfold encL
  simp only [List.length_append, hw.hlen, hw.plen, List.length_cons, List.length_nil, flat_len _ hw.each]
/-- the count, and what is read where all is right -/
def cn (b : List UInt8) : Nat := beN ((b.drop 64).take 1)
def getB (b : List UInt8) : BlkD := ⟨b.take 32, (b.drop 32).take 32, chunks (b.drop 65) (cn b)⟩
def decB (b : List UInt8) : BlkD × Int :=
  if b.length < 65 then (.zero, 2) else if 32 < cn b then (.zero, 4) else if b.length < 65 + 32 * cn b then (.zero, 2) else if 65 + 32 * cn b < b.length then (.zero, 3)
  else if rightB (getB b) = true then (getB b, 0) else (.zero, 4)
theorem chunks_len (L : List UInt8) (k : Nat) : (chunks L k).length = k := by unfold chunks; simp
theorem chunks_each (L : List UInt8) (k : Nat) (h : 32 * k ≤ L.length) : ∀ x ∈ chunks L k, x.length = 32 := fun x hx => by
  simp only [chunks, List.mem_map, List.mem_range] at hx
  obtain ⟨i, hi, rfl⟩ := hx
  rw [List.length_take, List.length_drop]
  omega
theorem chunks_all (L : List UInt8) : ∀ k, 32 * k ≤ L.length → (chunks L k).flatten = L.take (32 * k)
  | 0, _ => by simp [chunks]
  | k + 1, h => by
    have ih := chunks_all L k (by omega)
    unfold chunks at ih ⊢
    rw [List.range_succ, List.map_append, List.flatten_append, ih, Nat.mul_add, List.take_add]
    simp
theorem getB_wf {b : List UInt8} (h : 65 + 32 * cn b ≤ b.length) : (getB b).wf :=
  ⟨by show (b.take 32).length = 32; rw [List.length_take]; omega, by show ((b.drop 32).take 32).length = 32; rw [List.length_take, List.length_drop]; omega, chunks_each _ _ (by rw [List.length_drop]; omega)⟩
theorem cn_encL {d : BlkD} (hw : d.wf) (h : d.txs.length ≤ 32) (r : List UInt8) : cn (encL d ++ r) = d.txs.length := by
  unfold cn encL
  have h1 : d.hash ++ d.par ++ [UInt8.ofNat d.txs.length] ++ d.txs.flatten ++ r = (d.hash ++ d.par) ++ ([UInt8.ofNat d.txs.length] ++ (d.txs.flatten ++ r)) := by simp
  have h2 := drop_mid (a := d.hash ++ d.par) (b := [UInt8.ofNat d.txs.length]) (c := d.txs.flatten ++ r) 64 (by rw [List.length_append, hw.hlen, hw.plen])
  rw [h1, show (1 : Nat) = [UInt8.ofNat d.txs.length].length from rfl, h2, beN_one, UInt8.toNat_ofNat']
  exact Nat.mod_eq_of_lt (by omega)
theorem getB_encL {d : BlkD} (hw : d.wf) (h : d.txs.length ≤ 32) : getB (encL d) = d := by
  have hc := cn_encL hw h []
  rw [List.append_nil] at hc
  obtain ⟨hash, par, txs⟩ := d
  have h1 : hash.length = 32 := hw.hlen
  have h2 : par.length = 32 := hw.plen
  have e1 : (encL ⟨hash, par, txs⟩).take 32 = hash := by
    unfold encL
    rw [← h1, List.append_assoc, List.append_assoc, List.take_left]
  have e2 : ((encL ⟨hash, par, txs⟩).drop 32).take 32 = par := by
    unfold encL
    have := drop_mid (a := hash) (b := par) (c := [UInt8.ofNat txs.length] ++ txs.flatten) 32 h1
    rw [h2] at this
    simpa using this
  have e3 : (encL ⟨hash, par, txs⟩).drop 65 = txs.flatten := by
    unfold encL
    have h9 : (hash ++ par ++ [UInt8.ofNat txs.length]).length = 65 := by simp [h1, h2]
    show ((hash ++ par ++ [UInt8.ofNat txs.length]) ++ txs.flatten).drop 65 = txs.flatten
    rw [← h9, List.drop_left]
  unfold getB
  rw [e1, e2, e3, hc]
  show (⟨hash, par, chunks txs.flatten txs.length⟩ : BlkD) = _
  rw [chunks_of txs hw.each]
theorem dec_enc {d : BlkD} (hw : d.wf) (h : rightB d = true) : decB (encL d) = (d, 0) := by
  have hl := encL_len hw
  have hn := right_le h
  have hc := cn_encL hw hn []
  rw [List.append_nil] at hc
  unfold decB
  rw [hc, getB_encL hw hn, hl, if_neg (by omega), if_neg (by omega), if_neg (by omega), if_neg (by omega), if_pos h]
theorem dec_less {d : BlkD} (hw : d.wf) (h : rightB d = true) : (decB ((encL d).take ((encL d).length - 1))).2 = 2 := by
  have hl := encL_len hw
  have hn := right_le h
  have hc := cn_encL hw hn []
  rw [List.append_nil] at hc
  have hl2 : ((encL d).take ((encL d).length - 1)).length = 64 + 32 * d.txs.length := by rw [List.length_take]; omega
  unfold decB
  rw [hl2]
  by_cases h0 : d.txs.length = 0
  · rw [if_pos (by omega)]
  · have hc2 : cn ((encL d).take ((encL d).length - 1)) = d.txs.length := by
      unfold cn at hc ⊢
      rw [mid_take _ _ _ _ (by omega), hc]
    rw [hc2, if_neg (by omega), if_neg (by omega), if_pos (by omega)]
theorem dec_more {d : BlkD} (hw : d.wf) (h : rightB d = true) (x : UInt8) : (decB (encL d ++ [x])).2 = 3 := by
  have hl := encL_len hw
  have hn := right_le h
  unfold decB
  rw [cn_encL hw hn, List.length_append, hl]
  simp only [List.length_cons, List.length_nil]
  rw [if_neg (by omega), if_neg (by omega), if_neg (by omega), if_pos (by omega)]
theorem dec_zero {b : List UInt8} (h : (decB b).2 ≠ 0) : (decB b).1 = .zero := by
  unfold decB at h ⊢
  split
  · rfl
  split
  · rfl
  split
  · rfl
  split
  · rfl
  split
  · rename_i a1 a2 a3 a4 a5
    rw [if_neg a1, if_neg a2, if_neg a3, if_neg a4, if_pos a5] at h
    exact absurd rfl h
  · rfl
theorem dec_back {b : List UInt8} (h : (decB b).2 = 0) : rightB (decB b).1 = true ∧ encL (decB b).1 = b := by
  unfold decB at h ⊢
  split at h
  · cases h
  split at h
  · cases h
  split at h
  · cases h
  split at h
  · cases h
  split at h
  · rename_i a1 a2 a3 a4 a5
    rw [if_neg a1, if_neg a2, if_neg a3, if_neg a4, if_pos a5]
    refine ⟨a5, ?_⟩
    have hcl : (getB b).txs.length = cn b := chunks_len _ _
    have hcb : cn b < 256 := by
      have := beN_take (l := b) (i := 64) (k := 1) (by omega)
      simpa [cn] using this
    have h1 : [UInt8.ofNat (cn b)] = (b.drop 64).take 1 := by
      rw [← be_one]
      exact be_take (by omega) (by omega)
    unfold encL
    rw [hcl, h1]
    show b.take 32 ++ (b.drop 32).take 32 ++ (b.drop 64).take 1 ++ (chunks (b.drop 65) (cn b)).flatten = b
    rw [chunks_all (b.drop 65) (cn b) (by rw [List.length_drop]; omega), List.take_of_length_le (l := b.drop 65) (by rw [List.length_drop]; omega)]
    rw [List.append_assoc, List.append_assoc, cut2 b 64 1, cut2 b 32 32, List.take_append_drop]
  · cases h
theorem dec_wf (b : List UInt8) : (decB b).1.wf := by
  unfold decB
  split
  · exact zero_wf
  split
  · exact zero_wf
  split
  · exact zero_wf
  split
  · exact zero_wf
  split
  · exact getB_wf (by omega)
  · exact zero_wf
/-! ### the program's chain -/
def s1P (l : List UInt8) : RD := (RD.new l).takeS 32 true
def s2P (l : List UInt8) : RD := (s1P l).takeS 32 true
def nP (l : List UInt8) : Int := (s2P l).cntV 1 32
def s3P (l : List UInt8) : RD := (s2P l).cntS 1 32
def idsP (l : List UInt8) : List UInt8 := (s3P l).takeB (32 * nP l) true
def s4P (l : List UInt8) : RD := (s3P l).takeS (32 * nP l) true
def blkP (l : List UInt8) : BlkD := ⟨(RD.new l).idV 32, (s1P l).idV 32, chunks (idsP l) ((idsP l).length / 32)⟩
def dQ (l : List UInt8) : BlkD × Int := if (s4P l).done ≠ 0 then (.zero, (s4P l).done) else if rightB (blkP l) = true then (blkP l, 0) else (.zero, 4)
theorem dQ_bad {l : List UInt8} {e : Int} (he : e ≠ 0) (h : (s4P l).done = e) : dQ l = (.zero, e) := by
  unfold dQ; rw [h, if_pos he]
theorem s4_bad {l : List UInt8} {pos : Nat} {e : Int} (h : s3P l = ⟨l, pos, some e⟩) (he : e ≠ 0) : (s4P l).done = e := by
  unfold s4P
  rw [h, (take_bad _ true).2]
  exact done_bad he
theorem dQ_dec (l : List UInt8) : dQ l = decB l := by
  have c32 : (32 : Int) = ((32 : Nat) : Int) := rfl
  have c1 : (1 : Int) = ((1 : Nat) : Int) := rfl
  unfold decB
  by_cases h65 : l.length < 65
  · rw [if_pos h65]
    refine dQ_bad (by decide) ?_
    suffices h : ∃ pos, s3P l = ⟨l, pos, some 2⟩ by
      obtain ⟨pos, h⟩ := h
      exact s4_bad h (by decide)
    unfold s3P s2P s1P RD.new
    by_cases h32 : l.length < 32
    · obtain ⟨_, b⟩ := take_short (l := l) (pos := 0) (k := 32) (by omega)
      rw [← c32] at b
      rw [b, (take_bad 32 true).2, (cnt_bad 1 32 (by omega)).2]
      exact ⟨_, rfl⟩
    obtain ⟨_, b1⟩ := take_in (l := l) (pos := 0) (m := 32) (by omega)
    rw [← c32] at b1
    rw [b1]
    by_cases h64 : l.length < 64
    · obtain ⟨_, b⟩ := take_short (l := l) (pos := 0 + 32) (k := 32) (by omega)
      rw [← c32] at b
      rw [b, (cnt_bad 1 32 (by omega)).2]
      exact ⟨_, rfl⟩
    obtain ⟨_, b2⟩ := take_in (l := l) (pos := 0 + 32) (m := 32) (by omega)
    rw [← c32] at b2
    rw [b2]
    obtain ⟨_, b⟩ := cnt_short (l := l) (pos := 0 + 32 + 32) (k := 1) 32 (by omega) (by omega) (by omega) (by omega)
    rw [← c1] at b
    rw [b]
    exact ⟨_, rfl⟩
  rw [if_neg h65]
  obtain ⟨a1, b1⟩ := id_fit (l := l) (pos := 0) 32 (by omega)
  obtain ⟨a2, b2⟩ := id_fit (l := l) (pos := 32) 32 (by omega)
  have e1 : s1P l = ⟨l, 32, none⟩ := by unfold s1P RD.new; rw [c32, b1]
  have e2 : s2P l = ⟨l, 64, none⟩ := by unfold s2P; rw [e1, c32, b2]
  by_cases hov : 32 < cn l
  · rw [if_pos hov]
    refine dQ_bad (by decide) (s4_bad (pos := 64 + 1) ?_ (by decide))
    unfold s3P
    rw [e2]
    exact (cnt_over (l := l) (pos := 64) (k := 1) (m := 32) (by omega) (by omega) (by omega) hov).2
  rw [if_neg hov]
  obtain ⟨a3, b3⟩ := cnt_fit (l := l) (pos := 64) (k := 1) (m := 32) (by omega) (by omega) (by omega) (show beN ((l.drop 64).take 1) ≤ 32 by unfold cn at hov; omega)
  have e3 : s3P l = ⟨l, 65, none⟩ := by unfold s3P; rw [e2]; exact b3
  have en : nP l = (cn l : Int) := by unfold nP; rw [e2]; exact a3
  have e32 : 32 * (cn l : Int) = ((32 * cn l : Nat) : Int) := by omega
  by_cases hs : l.length < 65 + 32 * cn l
  · rw [if_pos hs]
    refine dQ_bad (by decide) ?_
    unfold s4P
    rw [e3, en, e32, (take_short hs).2]
    exact done_bad (by decide)
  rw [if_neg hs]
  obtain ⟨a4, b4⟩ := take_in (l := l) (pos := 65) (m := 32 * cn l) (by omega)
  have e4 : s4P l = ⟨l, 65 + 32 * cn l, none⟩ := by unfold s4P; rw [e3, en, e32, b4]
  by_cases hg : 65 + 32 * cn l < l.length
  · rw [if_pos hg]
    refine dQ_bad (by decide) ?_
    rw [e4]
    exact done_left hg
  rw [if_neg hg]
  have hd : (s4P l).done = 0 := by rw [e4]; exact done_all (by omega)
  have eb : blkP l = getB l := by
    unfold blkP getB
    have ei : idsP l = l.drop 65 := by
      unfold idsP
      rw [e3, en, e32, a4]
      exact List.take_of_length_le (by rw [List.length_drop]; omega)
    rw [ei, e1, a2, List.length_drop, show (l.length - 65) / 32 = cn l by omega]
    congr 1
  unfold dQ
  rw [hd, if_neg (by simp), eb]
end Go.Proofs.YtdaigkcbmdcbcaaDoor.Blk
