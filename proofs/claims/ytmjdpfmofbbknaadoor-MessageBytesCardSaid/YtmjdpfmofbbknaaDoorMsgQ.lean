/- MESSAGES, plain: what the program's chain of reads comes to. Conditions: none. -/
import Derived.Test.YtmjdpfmofbbknaaDoorMsg5
namespace Go.Proofs.YtmjdpfmofbbknaaDoor.Msg
open Go.Mir Wr Cod Rdr

theorem num_fit {l : List UInt8} {pos k : Nat} (h1 : 1 ≤ k) (h8 : k ≤ 8) (h : pos + k ≤ l.length) : RD.numV ⟨l, pos, none⟩ (k : Int) = beN ((l.drop pos).take k) ∧ RD.numS ⟨l, pos, none⟩ (k : Int) = ⟨l, pos + k, none⟩ := by
  obtain ⟨a, b⟩ := take_in h
  have hf : fitsW (k : Int) = true := by unfold fitsW; rw [decide_eq_true (by omega), decide_eq_true (by omega)]; rfl
  unfold RD.numV RD.numS
  rw [hf, a, b]
  exact ⟨rfl, rfl⟩
theorem take_short {l : List UInt8} {pos k : Nat} (h : l.length < pos + k) : RD.takeB ⟨l, pos, none⟩ (k : Int) true = [] ∧ RD.takeS ⟨l, pos, none⟩ (k : Int) true = ⟨l, pos, some 2⟩ := by
  constructor
  · unfold RD.takeB
    rw [if_neg]
    rintro ⟨_, _, _, h'⟩
    dsimp only at h'
    omega
  · unfold RD.takeS
    rw [if_neg (by simp), if_neg (by rintro (h' | h'); (· cases h'); (· omega)), if_pos (by dsimp only; omega)]
theorem take_bad {l : List UInt8} {pos : Nat} {e : Int} (n : Int) (f : Bool) : RD.takeB ⟨l, pos, some e⟩ n f = [] ∧ RD.takeS ⟨l, pos, some e⟩ n f = ⟨l, pos, some e⟩ := by
  constructor
  · unfold RD.takeB; rw [if_neg (by simp)]
  · unfold RD.takeS; rw [if_pos (by simp)]
theorem num_short {l : List UInt8} {pos k : Nat} (h1 : 1 ≤ k) (h8 : k ≤ 8) (h : l.length < pos + k) : RD.numV ⟨l, pos, none⟩ (k : Int) = 0 ∧ RD.numS ⟨l, pos, none⟩ (k : Int) = ⟨l, pos, some 2⟩ := by
  obtain ⟨a, b⟩ := take_short h
  have hf : fitsW (k : Int) = true := by unfold fitsW; rw [decide_eq_true (by omega), decide_eq_true (by omega)]; rfl
  unfold RD.numV RD.numS
  rw [hf, a, b]
  exact ⟨rfl, rfl⟩
theorem num_bad {l : List UInt8} {pos : Nat} {e : Int} (k : Int) : RD.numV ⟨l, pos, some e⟩ k = 0 ∧ RD.numS ⟨l, pos, some e⟩ k = ⟨l, pos, some e⟩ := by
  unfold RD.numV RD.numS
  rw [(take_bad k _).1, (take_bad k _).2]
  exact ⟨rfl, rfl⟩
theorem cnt_bad {l : List UInt8} {pos : Nat} {e : Int} (k m : Int) (hm : 0 ≤ m) : RD.cntV ⟨l, pos, some e⟩ k m = 0 ∧ RD.cntS ⟨l, pos, some e⟩ k m = ⟨l, pos, some e⟩ := by
  have hS : RD.cntS ⟨l, pos, some e⟩ k m = ⟨l, pos, some e⟩ := by
    unfold RD.cntS
    rw [(num_bad k).1, (num_bad k).2, if_neg (by omega)]
  refine ⟨?_, hS⟩
  unfold RD.cntV
  rw [hS, if_neg (by simp)]
theorem cnt_short {l : List UInt8} {pos k : Nat} (m : Int) (hm : 0 ≤ m) (h1 : 1 ≤ k) (h8 : k ≤ 8) (h : l.length < pos + k) : RD.cntV ⟨l, pos, none⟩ (k : Int) m = 0 ∧ RD.cntS ⟨l, pos, none⟩ (k : Int) m = ⟨l, pos, some 2⟩ := by
  obtain ⟨a, b⟩ := num_short h1 h8 h
  have hS : RD.cntS ⟨l, pos, none⟩ (k : Int) m = ⟨l, pos, some 2⟩ := by
    unfold RD.cntS
    rw [a, b, if_neg (by omega)]
  refine ⟨?_, hS⟩
  unfold RD.cntV
  rw [hS, if_neg (by simp)]
theorem cnt_over {l : List UInt8} {pos k m : Nat} (h1 : 1 ≤ k) (h8 : k ≤ 8) (h : pos + k ≤ l.length) (hm : m < beN ((l.drop pos).take k)) : RD.cntV ⟨l, pos, none⟩ (k : Int) (m : Int) = 0 ∧ RD.cntS ⟨l, pos, none⟩ (k : Int) (m : Int) = ⟨l, pos + k, some 4⟩ := by
  obtain ⟨a, b⟩ := num_fit h1 h8 h
  have hS : RD.cntS ⟨l, pos, none⟩ (k : Int) (m : Int) = ⟨l, pos + k, some 4⟩ := by
    unfold RD.cntS
    rw [a, b, if_pos (by omega)]
    unfold RD.fail
    rw [if_pos ⟨rfl, by decide⟩]
  refine ⟨?_, hS⟩
  unfold RD.cntV
  rw [hS, if_neg (by simp)]
theorem cnt_fit {l : List UInt8} {pos k m : Nat} (h1 : 1 ≤ k) (h8 : k ≤ 8) (h : pos + k ≤ l.length) (hm : beN ((l.drop pos).take k) ≤ m) : RD.cntV ⟨l, pos, none⟩ (k : Int) (m : Int) = beN ((l.drop pos).take k) ∧ RD.cntS ⟨l, pos, none⟩ (k : Int) (m : Int) = ⟨l, pos + k, none⟩ := by
  obtain ⟨a, b⟩ := num_fit h1 h8 h
  have hS : RD.cntS ⟨l, pos, none⟩ (k : Int) (m : Int) = ⟨l, pos + k, none⟩ := by
    unfold RD.cntS
    rw [a, b, if_neg (by omega)]
  refine ⟨?_, hS⟩
  unfold RD.cntV
  rw [hS, if_pos rfl, a]
theorem done_bad {l : List UInt8} {pos : Nat} {e : Int} (he : e ≠ 0) : RD.done ⟨l, pos, some e⟩ = e := by
  unfold RD.done
  rw [if_pos (by show (e : Int) ≠ 0; exact he)]
  rfl
theorem done_all {l : List UInt8} {pos : Nat} (h : l.length ≤ pos) : RD.done ⟨l, pos, none⟩ = 0 := by
  unfold RD.done
  rw [if_neg (by show ¬ (0 : Int) ≠ 0; simp), if_pos (by dsimp only; omega)]
theorem done_left {l : List UInt8} {pos : Nat} (h : pos < l.length) : RD.done ⟨l, pos, none⟩ = 3 := by
  unfold RD.done
  rw [if_neg (by show ¬ (0 : Int) ≠ 0; simp), if_neg (by dsimp only; omega)]
theorem dQ_bad (l : List UInt8) (m : MsgD) (s : RD) (h : dP l = (m, s)) (e : Int) (he : e ≠ 0) (hd : s.done = e) : dQ l = (.zero, e) := by
  unfold dQ
  rw [h]
  dsimp only
  rw [hd, if_pos he]
theorem dQ_ok (l : List UInt8) (m : MsgD) (s : RD) (h : dP l = (m, s)) (hd : s.done = 0) : dQ l = (m, 0) := by
  unfold dQ
  rw [h]
  dsimp only
  rw [hd, if_neg (by simp)]
theorem dUp_eq (l : List UInt8) (hl : 1 ≤ l.length) : ∃ m s, dUp ⟨l, 1, none⟩ = (m, s) ∧
    ((l.length < 27 ∧ s.done = 2) ∨ (27 ≤ l.length ∧ 1000 < beN ((l.drop 25).take 2) ∧ s.done = 4) ∨ (27 ≤ l.length ∧ beN ((l.drop 25).take 2) ≤ 1000 ∧ ((l.length < 27 + beN ((l.drop 25).take 2) ∧ s.done = 2) ∨ (27 + beN ((l.drop 25).take 2) < l.length ∧ s.done = 3) ∨
      (l.length = 27 + beN ((l.drop 25).take 2) ∧ s.done = 0 ∧ m = ⟨2, beN ((l.drop 1).take 4), beN ((l.drop 5).take 4), 0, (l.drop 9).take 16, (l.drop 27).take (beN ((l.drop 25).take 2))⟩)))) := by
  unfold dUp
  refine ⟨_, _, rfl, ?_⟩
  have c4 : (4 : Int) = ((4 : Nat) : Int) := rfl
  have c16 : (16 : Int) = ((16 : Nat) : Int) := rfl
  have c2 : (2 : Int) = ((2 : Nat) : Int) := rfl
  have c1000 : (1000 : Int) = ((1000 : Nat) : Int) := rfl
  by_cases h5 : l.length < 5
  · obtain ⟨_, b⟩ := num_short (l := l) (pos := 1) (k := 4) (by omega) (by omega) (by omega)
    rw [← c4] at b
    rw [b, (num_bad 4).2, (take_bad 16 true).2, (cnt_bad 2 1000 (by omega)).2, (take_bad _ true).2]
    exact .inl ⟨by omega, done_bad (by decide)⟩
  obtain ⟨a1, b1⟩ := num_fit (l := l) (pos := 1) (k := 4) (by omega) (by omega) (by omega)
  rw [← c4] at a1 b1
  rw [b1]
  by_cases h9 : l.length < 9
  · obtain ⟨_, b⟩ := num_short (l := l) (pos := 1 + 4) (k := 4) (by omega) (by omega) (by omega)
    rw [← c4] at b
    rw [b, (take_bad 16 true).2, (cnt_bad 2 1000 (by omega)).2, (take_bad _ true).2]
    exact .inl ⟨by omega, done_bad (by decide)⟩
  obtain ⟨a2, b2⟩ := num_fit (l := l) (pos := 1 + 4) (k := 4) (by omega) (by omega) (by omega)
  rw [← c4] at a2 b2
  rw [b2]
  by_cases h25 : l.length < 25
  · obtain ⟨_, b⟩ := take_short (l := l) (pos := 1 + 4 + 4) (k := 16) (by omega)
    rw [← c16] at b
    rw [b, (cnt_bad 2 1000 (by omega)).2, (take_bad _ true).2]
    exact .inl ⟨by omega, done_bad (by decide)⟩
  obtain ⟨a3, b3⟩ := take_in (l := l) (pos := 1 + 4 + 4) (m := 16) (by omega)
  have hid : RD.idV ⟨l, 1 + 4 + 4, none⟩ 16 = (l.drop 9).take 16 := by
    unfold RD.idV
    rw [a3]
    have : ((l.drop (1 + 4 + 4)).take 16).length = 16 := by rw [List.length_take, List.length_drop]; omega
    rw [this]
    simp
  rw [← c16] at b3
  rw [b3, hid]
  by_cases h27 : l.length < 27
  · obtain ⟨_, b⟩ := cnt_short (l := l) (pos := 1 + 4 + 4 + 16) (k := 2) 1000 (by omega) (by omega) (by omega) (by omega)
    rw [← c2] at b
    rw [b, (take_bad _ true).2]
    exact .inl ⟨by omega, done_bad (by decide)⟩
  by_cases hov : 1000 < beN ((l.drop 25).take 2)
  · obtain ⟨_, b⟩ := cnt_over (l := l) (pos := 1 + 4 + 4 + 16) (k := 2) (m := 1000) (by omega) (by omega) (by omega) hov
    rw [← c2, ← c1000] at b
    rw [b, (take_bad _ true).2]
    exact .inr (.inl ⟨by omega, hov, done_bad (by decide)⟩)
  obtain ⟨a5, b5⟩ := cnt_fit (l := l) (pos := 1 + 4 + 4 + 16) (k := 2) (m := 1000) (by omega) (by omega) (by omega) (show beN ((l.drop 25).take 2) ≤ 1000 by omega)
  rw [← c2, ← c1000] at a5 b5
  rw [a5, b5, a1, a2]
  simp only [Nat.reduceAdd]
  refine .inr (.inr ⟨by omega, by omega, ?_⟩)
  generalize hN : beN ((l.drop 25).take 2) = N at *
  by_cases hs : l.length < 27 + N
  · obtain ⟨_, b⟩ := take_short (l := l) (pos := 27) (k := N) hs
    rw [b]
    exact .inl ⟨hs, done_bad (by decide)⟩
  obtain ⟨a6, b6⟩ := take_in (l := l) (pos := 27) (m := N) (by omega)
  rw [a6, b6]
  by_cases hg : 27 + N < l.length
  · exact .inr (.inl ⟨hg, done_left hg⟩)
  · exact .inr (.inr ⟨by omega, done_all (by omega), rfl⟩)
theorem dQ_dec (l : List UInt8) : dQ l = decM l := by
  have c1 : (1 : Int) = ((1 : Nat) : Int) := rfl
  have c2 : (2 : Int) = ((2 : Nat) : Int) := rfl
  have c4 : (4 : Int) = ((4 : Nat) : Int) := rfl
  cases hl : l with
  | nil =>
    obtain ⟨a, b⟩ := num_short (l := ([] : List UInt8)) (pos := 0) (k := 1) (by omega) (by omega) (by simp)
    rw [← c1] at a b
    have h : dP [] = (⟨0, 0, 0, 0, z16, []⟩, ⟨[], 0, some 2⟩) := by
      unfold dP
      rw [show (RD.new []).numV 1 = 0 from a, show (RD.new []).numS 1 = ⟨[], 0, some 2⟩ from b, if_neg (by omega), if_neg (by omega), if_neg (by omega)]
      unfold RD.fail
      rw [if_neg (by simp)]
      rfl
    rw [dQ_bad _ _ _ h 2 (by decide) (done_bad (by decide))]
    rfl
  | cons k tl =>
    rw [← hl, dec_cons k tl l hl]
    have hlen : 1 ≤ l.length := by rw [hl]; simp
    obtain ⟨a, b⟩ := num_fit (l := l) (pos := 0) (k := 1) (by omega) (by omega) (by omega)
    have hv : beN ((l.drop 0).take 1) = k.toNat := by rw [hl]; simp [beN]
    rw [hv] at a
    rw [← c1] at a b
    have hP : dP l = (if k.toNat = 1 then (⟨1, 0, 0, RD.numV ⟨l, 1, none⟩ 2, z16, []⟩, RD.numS ⟨l, 1, none⟩ 2) else if k.toNat = 2 then dUp ⟨l, 1, none⟩ else if k.toNat = 3 ∨ k.toNat = 4 then (⟨(k.toNat : Int), RD.numV ⟨l, 1, none⟩ 4, 0, 0, z16, []⟩, RD.numS ⟨l, 1, none⟩ 4) else (⟨(k.toNat : Int), 0, 0, 0, z16, []⟩, RD.fail ⟨l, 1, none⟩ 4)) := by
      unfold dP
      rw [show (RD.new l).numV 1 = k.toNat from a, show (RD.new l).numS 1 = ⟨l, 1, none⟩ from b]
    by_cases h1 : k.toNat = 1
    · rw [if_pos h1] at hP ⊢
      by_cases h3 : l.length < 3
      · obtain ⟨x, y⟩ := num_short (l := l) (pos := 1) (k := 2) (by omega) (by omega) (by omega)
        rw [← c2] at x y
        rw [y] at hP
        rw [if_pos h3, dQ_bad _ _ _ hP 2 (by decide) (done_bad (by decide))]
      · obtain ⟨x, y⟩ := num_fit (l := l) (pos := 1) (k := 2) (by omega) (by omega) (by omega)
        rw [← c2] at x y
        rw [x, y] at hP
        rw [if_neg h3]
        by_cases h4 : 3 < l.length
        · rw [if_pos h4, dQ_bad _ _ _ hP 3 (by decide) (done_left (by omega))]
        · rw [if_neg h4, dQ_ok _ _ _ hP (done_all (by omega))]
    rw [if_neg h1] at hP ⊢
    by_cases h2 : k.toNat = 2
    · rw [if_pos h2] at hP ⊢
      obtain ⟨m, s, he, hc⟩ := dUp_eq l hlen
      rw [he] at hP
      rcases hc with ⟨h3, h4⟩ | ⟨h3, h4, h5⟩ | ⟨h3, h4, h5⟩
      · rw [if_pos h3, dQ_bad _ _ _ hP 2 (by decide) h4]
      · rw [if_neg (by omega), if_pos h4, dQ_bad _ _ _ hP 4 (by decide) h5]
      · rw [if_neg (by omega), if_neg (by omega)]
        rcases h5 with ⟨h6, h7⟩ | ⟨h6, h7⟩ | ⟨h6, h7, h8⟩
        · rw [if_pos h6, dQ_bad _ _ _ hP 2 (by decide) h7]
        · rw [if_neg (by omega), if_pos h6, dQ_bad _ _ _ hP 3 (by decide) h7]
        · rw [if_neg (by omega), if_neg (by omega), dQ_ok _ _ _ hP h7, h8]
    rw [if_neg h2] at hP ⊢
    by_cases h34 : k.toNat = 3 ∨ k.toNat = 4
    · rw [if_pos h34] at hP ⊢
      by_cases h3 : l.length < 5
      · obtain ⟨x, y⟩ := num_short (l := l) (pos := 1) (k := 4) (by omega) (by omega) (by omega)
        rw [← c4] at x y
        rw [y] at hP
        rw [if_pos h3, dQ_bad _ _ _ hP 2 (by decide) (done_bad (by decide))]
      · obtain ⟨x, y⟩ := num_fit (l := l) (pos := 1) (k := 4) (by omega) (by omega) (by omega)
        rw [← c4] at x y
        rw [x, y] at hP
        rw [if_neg h3]
        by_cases h4 : 5 < l.length
        · rw [if_pos h4, dQ_bad _ _ _ hP 3 (by decide) (done_left (by omega))]
        · rw [if_neg h4, dQ_ok _ _ _ hP (done_all (by omega))]
    · rw [if_neg h34] at hP ⊢
      have hf : RD.fail ⟨l, 1, none⟩ 4 = ⟨l, 1, some 4⟩ := by unfold RD.fail; rw [if_pos ⟨rfl, by decide⟩]
      rw [hf] at hP
      rw [dQ_bad _ _ _ hP 4 (by decide) (done_bad (by decide))]
end Go.Proofs.YtmjdpfmofbbknaaDoor.Msg
