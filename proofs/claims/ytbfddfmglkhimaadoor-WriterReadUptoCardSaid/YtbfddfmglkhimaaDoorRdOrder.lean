/- LAYER 9: bytes read in pieces are the bytes. Conditions: the laid cell of errors.errorType. -/
import Derived.Test.YtbfddfmglkhimaaDoorRdNum
namespace Go.Proofs.YtbfddfmglkhimaaDoor.Rdr
open Go.RowKit Go.Mir Go.Mir.Parts

/-- a reader whose bytes lie where they lay -/
def RFix (w : World) (base rb : Nat) (v : Value) (s : RD) : Prop := ∃ bv, RIn w base rb v bv s
theorem RFix.at {w : World} {base rb : Nat} {v : Value} {s : RD} (h : RFix w base rb v s) : RAt w base rb s := ⟨v, h⟩
theorem RFix.below {w w' : World} {base rb : Nat} {v : Value} {s : RD} (h : RFix w base rb v s) (hb : Below w.heap.size w w') : RFix w' base rb v s := by
  obtain ⟨bv, h⟩ := h
  exact ⟨bv, h.below hb⟩
theorem RFix.left {w w' : World} {base rb : Nat} {v : Value} {s s' : RD} (h : RFix w base rb v s) (hl : LeftR base rb s' w w') : RFix w' base rb v s' := by
  obtain ⟨bv, h⟩ := h
  obtain ⟨v', bv', h'⟩ := hl.there
  have e1 := h'.cells.2.1
  rw [hl.same1, h.cells.2.1] at e1
  obtain rfl := Option.some.inj e1
  exact ⟨bv', h'⟩
theorem RFix.high {S : Nat → Prop} {w w' : World} {base rb B : Nat} {v : Value} {l : List UInt8} {pos : Nat} (h : RFix w base rb v ⟨l, pos, none⟩) (hB : rb < B ∧ ∀ k, v.ownBlock = some k → k < B) (ht : Turns S w w') (hS : ∀ k, S k → B ≤ k) : RFix w' base rb v ⟨l, pos, none⟩ := by
  obtain ⟨bv, h⟩ := h
  refine ⟨bv, ⟨ht.keep h.row (fun hs => by have := hS _ hs; omega), h.low, ?_, h.fault, h.at1, h.len⟩⟩
  rcases h.bytes with h1 | ⟨g, cap, cur, h1, h2, h3, h4⟩
  · exact .inl h1
  · exact .inr ⟨g, cap, cur, h1, h2, ht.keep h3 (fun hs => by have h5 := hS _ hs; have h6 := hB.2 g (by rw [h1]; simp [Value.ownBlock]); omega), h4⟩
theorem RFix.new {w : World} {base rb : Nat} {s : RD} (h : RAt w base rb s) : ∃ v, RFix w base rb v s ∧ rb < w.heap.size ∧ ∀ k, v.ownBlock = some k → k < w.heap.size := by
  obtain ⟨v, bv, h⟩ := h
  refine ⟨v, ⟨bv, h⟩, h.lt, fun k hk => ?_⟩
  rcases h.bytes with ⟨h1, _⟩ | ⟨g, cap, cur, h1, h2, h3, h4⟩
  · rw [h1] at hk; simp [Value.ownBlock] at hk
  · rw [h1] at hk
    simp [Value.ownBlock] at hk
    subst hk
    exact (Array.getElem?_eq_some_iff.1 h3).1
theorem take_in {l : List UInt8} {pos m : Nat} (h : pos + m ≤ l.length) : RD.takeB ⟨l, pos, none⟩ (m : Int) true = (l.drop pos).take m ∧ RD.takeS ⟨l, pos, none⟩ (m : Int) true = ⟨l, pos + m, none⟩ := by
  constructor
  · unfold RD.takeB
    rw [if_pos ⟨rfl, rfl, by omega, by dsimp only; omega⟩]
    rfl
  · unfold RD.takeS
    rw [if_neg (by simp), if_neg (by rintro (h | h); (· cases h); (· omega)), if_neg (by dsimp only; omega)]
    rfl
theorem u8_add1 (v : UInt8) : ((v.toNat : Int) + 1) % 256 = ((v + 1).toNat : Int) := by
  rw [UInt8.toNat_add]; simp
theorem bytesV_set1 (m : List UInt8) (j : Nat) (y : UInt8) : bytesV (m.set j y) = (bytesV m).set j (.int .u8 (y.toNat : Int)) := by simp [bytesV, List.map_set]
set_option maxRecDepth 100000 in
set_option maxHeartbeats 6400000 in
theorem law_order (w : World) (hE : EType w) (p : Option Addr) (n c : Nat) (b : List UInt8) (hB : Bs w p n c b) (p2 : Option Addr) (m c2 : Nat) (cuts : List UInt8) (hC : Bs w p2 m c2 cuts) :
    Calls Tryd.prog 4 #[.slice p n c, .slice p2 m c2] w fun e w' => e = .returned (.bool true) ∧ Below w.heap.size w w' := by
  have HE := Lib.hid hE
  have HBS := Lib.hid hB
  have HCS := Lib.hid hC
  have hle := hB.le
  have hmax := hB.max
  have hle2 := hC.le
  have hmax2 := hC.max
  have HN := Lib.hid hB.length
  have HM := Lib.hid hC.length
  clear hE hB hC
  by_cases hbig : 1000 < n
  · have hd : decide ((1000 : Int) < (n : Int)) = true := decide_eq_true (by omega)
    go_enter Tryd.func4, Tryd.ntmps4
    go_wp2_with fail
    refine (alive9_any _ HE.out).mono ?_
    rintro e w' ⟨rfl, hb⟩
    have HB := Lib.hid hb
    clear hb
    go_wp2_with fail
    go_ret
    exact ⟨rfl, HB.out⟩
  by_cases hbig2 : 200 < m
  · have hd : decide ((1000 : Int) < (n : Int)) = false := decide_eq_false (by omega)
    have hd2 : decide ((200 : Int) < (m : Int)) = true := decide_eq_true (by omega)
    go_enter Tryd.func4, Tryd.ntmps4
    go_wp2_with fail
    refine (alive9_any _ HE.out).mono ?_
    rintro e w' ⟨rfl, hb⟩
    have HB := Lib.hid hb
    clear hb
    go_wp2_with fail
    go_ret
    exact ⟨rfl, HB.out⟩
  have hd : decide ((1000 : Int) < (n : Int)) = false := decide_eq_false (by omega)
  have hd2 : decide ((200 : Int) < (m : Int)) = false := decide_eq_false (by omega)
  have HO0 : Hid ((w.alloc (.cells #[] 5)).ownsRow w.heap.size 5 1 (.slice (some ⟨w.heap.size, 0, none⟩) 0 0) 0 []) := own_made0 w _ _ _ _ rfl (Nat.le_refl _)
  have HB0 := Lib.hid (Below.allocs w (.cells #[] 5))
  have HBS0 := Lib.hid (HBS.out.below HB0.out)
  go_enter Tryd.func4, Tryd.ntmps4
  go_wp2_with (at_builtin; refine wpList_append_nx rfl _ _ 25 rfl (base := w.heap.size) Tryd.underlying25 info8 rfl (by omega) rfl HO0.out rfl HBS0.out (bytesV_one _) ⟨by omega, by omega⟩ HB0.out.size ?_)
  intro p5 c5 w5 ho5 hg5 _ hnil5
  have HB5 : Hid (Below w.heap.size w w5) := HB0.out.trans ((Below.refl _ _).grown hg5 HB0.out.size (fun i hi => (HO0.out.lt i hi).1))
  have ho5 : w5.ownsRow w.heap.size 5 1 (.slice p5 n c5) n (bytesV b) := by simpa using ho5
  have HO5 := Lib.hid ho5
  obtain ⟨p5', c5', he5, HS5⟩ : ∃ p c, Value.slice p5 n c5 = .slice p n c ∧ Hid (Bs w5 p n c b) := own_sl ho5
  obtain ⟨rfl, _, rfl⟩ := Value.slice.inj he5
  have hcap5 := HS5.out.le
  have hmax5 := HS5.out.max
  clear ho5 hg5 he5 hnil5
  go_wp2_with fail
  refine (new_any w5 _ _ _ _ HS5.out (by omega)).mono ?_
  rintro e w6 ⟨rb, rfl, hr6, hb6⟩
  have HG := Lib.hid (HB5.out.size)
  have HE5 := Lib.hid (HE.out.below HB5.out HE.out.lt)
  have HB6 := Lib.hid (HB5.out.trans (hb6.mono HB5.out.size))
  have HO6 : Hid (w6.ownsRow w.heap.size 5 1 (.slice p5 n c5) n (bytesV b)) := own_touch HO5.out (Turns.of_below (S := fun _ => False) hb6) (fun _ _ h => h)
  have HOL : Hid (∀ k, (Value.slice p5 n c5).ownBlock = some k → w.heap.size ≤ k ∧ k < w5.heap.size) := HO5.out.lt
  have HR6 := Lib.hid hr6
  have H56 := Lib.hid hb6.size
  clear hr6 hb6
  go_wp2_with fail
  go_loopw [30] (fun j wr => ∃ (k : Nat) (l : List UInt8), k ≤ n ∧ j = .int .i64 k ∧ l.length = n ∧ wr.ownsRow w.heap.size 5 1 (.slice p5 n c5) n (bytesV l) ∧ Turns (fun i => (Value.slice p5 n c5).ownBlock = some i) w6 wr) (fun j _ => n - (intOf j).toNat)
  case atStart => exact ⟨0, b, by omega, rfl, HN.out, HO6.out, Turns.refl _ _⟩
  case round =>
    obtain ⟨k, l, hk, rfl, hll, hown, htu⟩ := hrel
    have HOW := Lib.hid hown
    have HTU := Lib.hid htu
    have HLL := Lib.hid hll
    clear hown htu hll
    by_cases hlt : k < n
    · have hdk : decide ((k : Int) < (n : Int)) = true := decide_eq_true (by omega)
      obtain ⟨g, cap, hp9, _, hcap1, hcap2⟩ := own_some HOW.out (by intro e; cases e; omega)
      cases hp9
      have hj : k < l.length := by rw [HLL.out]; omega
      have hcell : wr.cell? ⟨g, k, none⟩ = some (.int .u8 ((l[k]'hj).toNat : Int)) := by
        have := HOW.out.cellAt k (by omega)
        rw [this, bytesV_get _ _ hj]
      have hfz := HOW.out.frozenAt k
      have HSTO : Hid ((wr.setCell ⟨g, k, none⟩ (.int .u8 ((((l[k]'hj).toNat : Int) + 1) % 256))).ownsRow w.heap.size 5 1 (.slice (some ⟨g, 0, none⟩) n c5) n (bytesV (l.set k ((l[k]'hj) + 1)))) := by
        rw [u8_add1, bytesV_set1]
        exact (HOW.out.stored k _).1
      generalize l[k]'hj = y at *
      have hyl : y.toNat < 256 := y.toNat_lt
      go_wp2_with fail
      go_roundw
      case rel => exact ⟨k + 1, _, by omega, by go_num, by rw [List.length_set]; exact HLL.out, HSTO.out, HTU.out.setCell (p := ⟨g, k, none⟩) (fun _ => rfl) _⟩
      case measure => simp [intOf]; omega
    · obtain rfl : k = n := by omega
      obtain ⟨W1, hW1⟩ : ∃ W1, W1 = wr := ⟨_, rfl⟩
      subst hW1
      have HW1 : Hid (RAt W1 w5.heap.size rb (RD.new b)) := HR6.out.turnLow HTU.out (fun k hk => (HOL.out k hk).2)
      have HB7 : Hid (Below w.heap.size w W1) := HB6.out.trans (HTU.out.below (by have := HB6.out.size; omega) (fun i hi => (HOL.out i hi).1))
      obtain ⟨v, hfx, hrb, hvl⟩ := RFix.new HW1.out
      have HFX : Hid (RFix W1 w5.heap.size rb v ⟨b, 0, none⟩) := hfx
      have HVL : Hid (rb < W1.heap.size ∧ ∀ k, v.ownBlock = some k → k < W1.heap.size) := ⟨hrb, hvl⟩
      have HBB := Lib.hid HB7.out.size
      clear hfx hrb hvl HOW HTU HW1 HO6 HO5 HB6
      go_wp2_with fail
      go_loopw [8, 42] (fun vo j wq => ∃ (i pos : Nat) (po : Option Addr) (co : Nat), i ≤ m ∧ j = .int .i64 i ∧ vo = .slice po pos co ∧ pos ≤ k ∧ wq.ownsRow W1.heap.size 5 1 (.slice po pos co) pos (bytesV (b.take pos)) ∧ RFix wq w5.heap.size rb v ⟨b, pos, none⟩ ∧ Below w.heap.size w wq ∧ W1.heap.size ≤ wq.heap.size) (fun _ j _ => m - (intOf j).toNat)
      case atStart => exact ⟨0, 0, none, 0, by omega, rfl, rfl, by omega, ⟨rfl, .inl ⟨rfl, rfl⟩⟩, HFX.out, HB7.out, Nat.le_refl _⟩
      case round =>
        obtain ⟨i, pos, po, co, hi, rfl, rfl, hpos, hown, hfx, hbw, hsz⟩ := hrel
        have HOW := Lib.hid hown
        have HFX := Lib.hid hfx
        have HBW := Lib.hid hbw
        have HSZ := Lib.hid hsz
        clear hown hfx hbw
        obtain ⟨q, hq⟩ : ∃ q, b.length - pos = q := ⟨_, rfl⟩
        have HQ : Hid (b.length - pos = q ∧ q = k - pos) := ⟨hq, by rw [← hq, HN.out]⟩
        have hqk1 : q + pos ≤ k := by have := HQ.out.2; omega
        have hqk2 : k ≤ q + pos := by have := HQ.out.2; omega
        clear hq
        by_cases hlt : i < m
        · have hdi : decide ((i : Int) < (m : Int)) = true := decide_eq_true (by omega)
          have HCW : Hid (Bs wr p2 m c2 cuts) := HCS.out.below HBW.out
          obtain ⟨b', o', rfl⟩ := HCW.out.addr (by omega) (by omega)
          have hc' := Bs.byte HCW.out (j := i) (by rw [HM.out]; omega)
          generalize cuts[i]'(by rw [HM.out]; omega) = y8 at *
          obtain ⟨y, hy⟩ : ∃ y : Nat, y8.toNat = y := ⟨_, rfl⟩
          rw [hy] at hc'
          have hy8 : y < 256 := by rw [← hy]; exact y8.toNat_lt
          clear hy
          go_wp2_with fail
          refine (left_any wr HFX.out.at).mono ?_
          rintro e w8 ⟨rfl, hb8⟩
          rw [show (⟨b, pos, none⟩ : RD).l.length - (⟨b, pos, none⟩ : RD).pos = q from HQ.out.1]
          have HFX8 := Lib.hid (HFX.out.below hb8)
          have HOW8 := Lib.hid (own_touch HOW.out (Turns.of_below (S := fun _ => False) hb8) (fun _ _ h => h))
          have HBW8 := Lib.hid (HBW.out.trans (hb8.mono HBW.out.size))
          have HSZ8 := Lib.hid (Nat.le_trans hsz hb8.size)
          clear hb8
          obtain ⟨mm, hmm⟩ : ∃ mm, mm = min y q := ⟨_, rfl⟩
          have hmq : pos + mm ≤ k := by omega
          obtain ⟨ht1, ht2⟩ := take_in (l := b) (pos := pos) (m := mm) (by rw [HN.out]; exact hmq)
          have HXL : Hid (((b.drop pos).take mm).length = mm) := by show _ = _; rw [List.length_take, List.length_drop, HN.out]; omega
          have HTK : Hid (b.take (pos + mm) = b.take pos ++ (b.drop pos).take mm) := List.take_add
          have HTT : Hid (RD.takeB ⟨b, pos, none⟩ (mm : Int) true = (b.drop pos).take mm ∧ RD.takeS ⟨b, pos, none⟩ (mm : Int) true = ⟨b, pos + mm, none⟩) := ⟨ht1, ht2⟩
          generalize (b.drop pos).take mm = X at *
          clear ht1 ht2
          have hmain : ∀ z : Nat, z = mm → Calls Tryd.prog 13 #[.pointer (some ⟨rb, 0, none⟩), .int .i64 (z : Int)] w8 (fun e w9 => ∃ px cx, e = .returned (.slice px mm cx) ∧ w9.ownsRow w8.heap.size 5 1 (.slice px mm cx) mm (bytesV X) ∧ LeftR w5.heap.size rb ⟨b, pos + mm, none⟩ w8 w9) := by
            rintro z rfl
            refine (bytes_any w8 HFX8.out.at z (by omega)).mono ?_
            rintro e w9 ⟨px, cx, rfl, hox, hlx⟩
            rw [HTT.out.1, HXL.out] at hox ⊢
            rw [HTT.out.2] at hlx
            exact ⟨px, cx, rfl, hox, hlx⟩
          have HMAIN := Lib.hid hmain
          clear hmain
          by_cases hyq : y ≤ q
          · have HZ := Lib.hid (HMAIN.out y (by omega))
            clear hmm HMAIN
            go_wp2_with fail
            refine HZ.out.mono ?_
            rintro e w9 ⟨px, cx, rfl, hox, hlx⟩
            have hlt8 := HOW8.out.lt
            have HOW9 : Hid (w9.ownsRow W1.heap.size 5 1 (.slice po pos co) pos (bytesV (b.take pos))) := own_touch HOW8.out hlx.turn (fun a ha e => by have h1 := (hlt8 a ha).1; have h2 := HVL.out.1; omega)
            have HFX9 := Lib.hid (HFX8.out.left hlx)
            have HBW9 : Hid (Below w.heap.size w w9) := HBW8.out.trans (hlx.belowB HFX8.out.at HG.out)
            have HS89 := Lib.hid hlx.turn.size
            have hltx := hox.lt
            have HOX := Lib.hid hox
            obtain ⟨px', cx', hex, HSX⟩ : ∃ p c, Value.slice px mm cx = .slice p mm c ∧ Hid (Sl w9 p mm c 1 (bytesV X)) := own_sl hox
            obtain ⟨rfl, _, rfl⟩ := Value.slice.inj hex
            have hcx := HSX.out.le
            have hcxm := HSX.out.max
            have HLT := Lib.hid hlt8
            have HLTX := Lib.hid hltx
            have HB9S : Hid (W1.heap.size ≤ w9.heap.size) := Nat.le_trans HSZ8.out HS89.out
            clear hox hlx hltx hlt8 hex
            go_wp2_with (at_builtin; refine wpList_append_nx rfl _ _ 25 rfl (base := W1.heap.size) Tryd.underlying25 info8 rfl (by omega) rfl HOW9.out rfl HSX.out (bytesV_one _) ⟨by omega, by omega⟩ HB9S.out ?_)
            intro po2 co2 w10 ho10 hg10 hnx10 _
            have hT10 : Turns (fun a => (Value.slice po pos co).ownBlock = some a) w9 w10 := Turns.grown hg10 (fun a ha => ha)
            have HOW10 : Hid (w10.ownsRow W1.heap.size 5 1 (.slice po2 (pos + mm) co2) (pos + mm) (bytesV (b.take (pos + mm)))) := by
              rw [HTK.out, bytesV_append]
              exact ho10
            have HFX10 : Hid (RFix w10 w5.heap.size rb v ⟨b, pos + mm, none⟩) := HFX9.out.high HVL.out hT10 (fun a ha => (HLT.out a ha).1)
            have HOX10 : Hid (w10.ownsRow w8.heap.size 5 1 (.slice px mm cx) mm (bytesV X)) := own_touch HOX.out hT10 (fun a ha hb => by have h1 := (HLTX.out a ha).1; have h2 := (HLT.out a hb).2; omega)
            have HBW10 : Hid (Below w.heap.size w w10) := HBW9.out.trans (hT10.below HBW9.out.size (fun a ha => by have h1 := (HLT.out a ha).1; have h2 := HBB.out; omega))
            have HNE : Hid (∀ a, (Value.slice po2 (pos + mm) co2).ownBlock = some a → ¬ (Value.slice px mm cx).ownBlock = some a) := fun a ha hb => by
              have h1 := HLTX.out a hb
              rcases hnx10 a ha with h | h
              · have h2 := (HLT.out a h).2; omega
              · omega
            have HS910 := Lib.hid hT10.size
            clear ho10 hg10 hnx10 hT10
            go_wp2_with fail
            go_loopw [58] (fun j wz => ∃ (x : Nat) (l : List UInt8), x ≤ mm ∧ j = .int .i64 x ∧ l.length = mm ∧ wz.ownsRow w8.heap.size 5 1 (.slice px mm cx) mm (bytesV l) ∧ Turns (fun i => (Value.slice px mm cx).ownBlock = some i) w10 wz) (fun j _ => mm - (intOf j).toNat)
            case atStart => exact ⟨0, X, by omega, rfl, HXL.out, HOX10.out, Turns.refl _ _⟩
            case round =>
              obtain ⟨x, l, hx, rfl, hll, hown, htu⟩ := hrel
              have HOW := Lib.hid hown
              have HTU := Lib.hid htu
              have HLL := Lib.hid hll
              clear hown htu hll
              by_cases hltx : x < mm
              · have hdk : decide ((x : Int) < (mm : Int)) = true := decide_eq_true (by omega)
                obtain ⟨g, cap, hp9, _, hcap1, hcap2⟩ := own_some HOW.out (by intro e; cases e; omega)
                cases hp9
                have hj : x < l.length := by rw [HLL.out]; omega
                have hcell : wr.cell? ⟨g, x, none⟩ = some (.int .u8 ((l[x]'hj).toNat : Int)) := by
                  have := HOW.out.cellAt x (by omega)
                  rw [this, bytesV_get _ _ hj]
                have hfz := HOW.out.frozenAt x
                have HSTO : Hid ((wr.setCell ⟨g, x, none⟩ (.int .u8 ((((l[x]'hj).toNat : Int) + 1) % 256))).ownsRow w8.heap.size 5 1 (.slice (some ⟨g, 0, none⟩) mm cx) mm (bytesV (l.set x ((l[x]'hj) + 1)))) := by
                  rw [u8_add1, bytesV_set1]
                  exact (HOW.out.stored x _).1
                generalize l[x]'hj = y9 at *
                have hyl : y9.toNat < 256 := y9.toNat_lt
                go_wp2_with fail
                go_roundw
                case rel => exact ⟨x + 1, _, by omega, by go_num, by rw [List.length_set]; exact HLL.out, HSTO.out, HTU.out.setCell (p := ⟨g, x, none⟩) (fun _ => rfl) _⟩
                case measure => simp [intOf]; omega
              · obtain rfl : x = mm := by omega
                have HOWZ : Hid (wr.ownsRow W1.heap.size 5 1 (.slice po2 (pos + x) co2) (pos + x) (bytesV (b.take (pos + x)))) := own_touch HOW10.out HTU.out (fun a ha => HNE.out a ha)
                have HFXZ : Hid (RFix wr w5.heap.size rb v ⟨b, pos + x, none⟩) := HFX10.out.high HVL.out HTU.out (fun a ha => Nat.le_trans HSZ8.out (HLTX.out a ha).1)
                have HBWZ : Hid (Below w.heap.size w wr) := HBW10.out.trans (HTU.out.below HBW10.out.size (fun a ha => by have h1 := (HLTX.out a ha).1; have h2 := HBB.out; have h3 := HSZ8.out; omega))
                have HSZZ : Hid (W1.heap.size ≤ wr.heap.size) := Nat.le_trans HB9S.out (Nat.le_trans HS910.out HTU.out.size)
                go_wp2_with fail
                go_roundw
                case rel => exact ⟨i + 1, pos + x, po2, co2, by omega, by go_num, rfl, hmq, HOWZ.out, HFXZ.out, HBWZ.out, HSZZ.out⟩
                case measure => simp [intOf]; omega
          · have HZ := Lib.hid (HMAIN.out q (by omega))
            clear hmm HMAIN
            go_wp2_with fail
            refine HZ.out.mono ?_
            rintro e w9 ⟨px, cx, rfl, hox, hlx⟩
            have hlt8 := HOW8.out.lt
            have HOW9 : Hid (w9.ownsRow W1.heap.size 5 1 (.slice po pos co) pos (bytesV (b.take pos))) := own_touch HOW8.out hlx.turn (fun a ha e => by have h1 := (hlt8 a ha).1; have h2 := HVL.out.1; omega)
            have HFX9 := Lib.hid (HFX8.out.left hlx)
            have HBW9 : Hid (Below w.heap.size w w9) := HBW8.out.trans (hlx.belowB HFX8.out.at HG.out)
            have HS89 := Lib.hid hlx.turn.size
            have hltx := hox.lt
            have HOX := Lib.hid hox
            obtain ⟨px', cx', hex, HSX⟩ : ∃ p c, Value.slice px mm cx = .slice p mm c ∧ Hid (Sl w9 p mm c 1 (bytesV X)) := own_sl hox
            obtain ⟨rfl, _, rfl⟩ := Value.slice.inj hex
            have hcx := HSX.out.le
            have hcxm := HSX.out.max
            have HLT := Lib.hid hlt8
            have HLTX := Lib.hid hltx
            have HB9S : Hid (W1.heap.size ≤ w9.heap.size) := Nat.le_trans HSZ8.out HS89.out
            clear hox hlx hltx hlt8 hex
            go_wp2_with (at_builtin; refine wpList_append_nx rfl _ _ 25 rfl (base := W1.heap.size) Tryd.underlying25 info8 rfl (by omega) rfl HOW9.out rfl HSX.out (bytesV_one _) ⟨by omega, by omega⟩ HB9S.out ?_)
            intro po2 co2 w10 ho10 hg10 hnx10 _
            have hT10 : Turns (fun a => (Value.slice po pos co).ownBlock = some a) w9 w10 := Turns.grown hg10 (fun a ha => ha)
            have HOW10 : Hid (w10.ownsRow W1.heap.size 5 1 (.slice po2 (pos + mm) co2) (pos + mm) (bytesV (b.take (pos + mm)))) := by
              rw [HTK.out, bytesV_append]
              exact ho10
            have HFX10 : Hid (RFix w10 w5.heap.size rb v ⟨b, pos + mm, none⟩) := HFX9.out.high HVL.out hT10 (fun a ha => (HLT.out a ha).1)
            have HOX10 : Hid (w10.ownsRow w8.heap.size 5 1 (.slice px mm cx) mm (bytesV X)) := own_touch HOX.out hT10 (fun a ha hb => by have h1 := (HLTX.out a ha).1; have h2 := (HLT.out a hb).2; omega)
            have HBW10 : Hid (Below w.heap.size w w10) := HBW9.out.trans (hT10.below HBW9.out.size (fun a ha => by have h1 := (HLT.out a ha).1; have h2 := HBB.out; omega))
            have HNE : Hid (∀ a, (Value.slice po2 (pos + mm) co2).ownBlock = some a → ¬ (Value.slice px mm cx).ownBlock = some a) := fun a ha hb => by
              have h1 := HLTX.out a hb
              rcases hnx10 a ha with h | h
              · have h2 := (HLT.out a h).2; omega
              · omega
            have HS910 := Lib.hid hT10.size
            clear ho10 hg10 hnx10 hT10
            go_wp2_with fail
            go_loopw [58] (fun j wz => ∃ (x : Nat) (l : List UInt8), x ≤ mm ∧ j = .int .i64 x ∧ l.length = mm ∧ wz.ownsRow w8.heap.size 5 1 (.slice px mm cx) mm (bytesV l) ∧ Turns (fun i => (Value.slice px mm cx).ownBlock = some i) w10 wz) (fun j _ => mm - (intOf j).toNat)
            case atStart => exact ⟨0, X, by omega, rfl, HXL.out, HOX10.out, Turns.refl _ _⟩
            case round =>
              obtain ⟨x, l, hx, rfl, hll, hown, htu⟩ := hrel
              have HOW := Lib.hid hown
              have HTU := Lib.hid htu
              have HLL := Lib.hid hll
              clear hown htu hll
              by_cases hltx : x < mm
              · have hdk : decide ((x : Int) < (mm : Int)) = true := decide_eq_true (by omega)
                obtain ⟨g, cap, hp9, _, hcap1, hcap2⟩ := own_some HOW.out (by intro e; cases e; omega)
                cases hp9
                have hj : x < l.length := by rw [HLL.out]; omega
                have hcell : wr.cell? ⟨g, x, none⟩ = some (.int .u8 ((l[x]'hj).toNat : Int)) := by
                  have := HOW.out.cellAt x (by omega)
                  rw [this, bytesV_get _ _ hj]
                have hfz := HOW.out.frozenAt x
                have HSTO : Hid ((wr.setCell ⟨g, x, none⟩ (.int .u8 ((((l[x]'hj).toNat : Int) + 1) % 256))).ownsRow w8.heap.size 5 1 (.slice (some ⟨g, 0, none⟩) mm cx) mm (bytesV (l.set x ((l[x]'hj) + 1)))) := by
                  rw [u8_add1, bytesV_set1]
                  exact (HOW.out.stored x _).1
                generalize l[x]'hj = y9 at *
                have hyl : y9.toNat < 256 := y9.toNat_lt
                go_wp2_with fail
                go_roundw
                case rel => exact ⟨x + 1, _, by omega, by go_num, by rw [List.length_set]; exact HLL.out, HSTO.out, HTU.out.setCell (p := ⟨g, x, none⟩) (fun _ => rfl) _⟩
                case measure => simp [intOf]; omega
              · obtain rfl : x = mm := by omega
                have HOWZ : Hid (wr.ownsRow W1.heap.size 5 1 (.slice po2 (pos + x) co2) (pos + x) (bytesV (b.take (pos + x)))) := own_touch HOW10.out HTU.out (fun a ha => HNE.out a ha)
                have HFXZ : Hid (RFix wr w5.heap.size rb v ⟨b, pos + x, none⟩) := HFX10.out.high HVL.out HTU.out (fun a ha => Nat.le_trans HSZ8.out (HLTX.out a ha).1)
                have HBWZ : Hid (Below w.heap.size w wr) := HBW10.out.trans (HTU.out.below HBW10.out.size (fun a ha => by have h1 := (HLTX.out a ha).1; have h2 := HBB.out; have h3 := HSZ8.out; omega))
                have HSZZ : Hid (W1.heap.size ≤ wr.heap.size) := Nat.le_trans HB9S.out (Nat.le_trans HS910.out HTU.out.size)
                go_wp2_with fail
                go_roundw
                case rel => exact ⟨i + 1, pos + x, po2, co2, by omega, by go_num, rfl, hmq, HOWZ.out, HFXZ.out, HBWZ.out, HSZZ.out⟩
                case measure => simp [intOf]; omega
        · obtain rfl : i = m := by omega
          have hdi : decide ((i : Int) < (i : Int)) = false := by simp
          obtain ⟨ht1, ht2⟩ := take_in (l := b) (pos := pos) (m := q) (by rw [HN.out]; omega)
          have HXL : Hid (((b.drop pos).take q).length = q) := by show _ = _; rw [List.length_take, List.length_drop, HN.out]; omega
          have HTK : Hid (b.take pos ++ (b.drop pos).take q = b) := by
            show _ = _
            rw [← List.take_add, List.take_of_length_le (by rw [HN.out]; omega)]
          have HTT : Hid (RD.takeB ⟨b, pos, none⟩ (q : Int) true = (b.drop pos).take q ∧ RD.takeS ⟨b, pos, none⟩ (q : Int) true = ⟨b, pos + q, none⟩) := ⟨ht1, ht2⟩
          have HPQ : Hid (pos + q = k) := by show _ = _; omega
          generalize (b.drop pos).take q = X at *
          clear ht1 ht2
          go_wp2_with fail
          refine (left_any wr HFX.out.at).mono ?_
          rintro e w8 ⟨rfl, hb8⟩
          rw [show (⟨b, pos, none⟩ : RD).l.length - (⟨b, pos, none⟩ : RD).pos = q from HQ.out.1]
          have HFX8 := Lib.hid (HFX.out.below hb8)
          have HOW8 := Lib.hid (own_touch HOW.out (Turns.of_below (S := fun _ => False) hb8) (fun _ _ h => h))
          have HBW8 := Lib.hid (HBW.out.trans (hb8.mono HBW.out.size))
          have HSZ8 := Lib.hid (Nat.le_trans hsz hb8.size)
          clear hb8
          have hz : Calls Tryd.prog 13 #[.pointer (some ⟨rb, 0, none⟩), .int .i64 (q : Int)] w8 (fun e w9 => ∃ px cx, e = .returned (.slice px q cx) ∧ w9.ownsRow w8.heap.size 5 1 (.slice px q cx) q (bytesV X) ∧ LeftR w5.heap.size rb ⟨b, k, none⟩ w8 w9) := by
            refine (bytes_any w8 HFX8.out.at q (by omega)).mono ?_
            rintro e w9 ⟨px, cx, rfl, hox, hlx⟩
            rw [HTT.out.1, HXL.out] at hox ⊢
            rw [HTT.out.2, HPQ.out] at hlx
            exact ⟨px, cx, rfl, hox, hlx⟩
          have HZ := Lib.hid hz
          clear hz
          go_wp2_with fail
          refine HZ.out.mono ?_
          rintro e w9 ⟨px, cx, rfl, hox, hlx⟩
          have HLT := Lib.hid HOW8.out.lt
          have HOW9 : Hid (w9.ownsRow W1.heap.size 5 1 (.slice po pos co) pos (bytesV (b.take pos))) := own_touch HOW8.out hlx.turn (fun a ha e => by have h1 := (HLT.out a ha).1; have h2 := HVL.out.1; omega)
          have HFX9 := Lib.hid (HFX8.out.left hlx)
          have HBW9 : Hid (Below w.heap.size w w9) := HBW8.out.trans (hlx.belowB HFX8.out.at HG.out)
          have HS89 := Lib.hid hlx.turn.size
          obtain ⟨px', cx', hex, HSX⟩ : ∃ p c, Value.slice px q cx = .slice p q c ∧ Hid (Sl w9 p q c 1 (bytesV X)) := own_sl hox
          obtain ⟨rfl, _, rfl⟩ := Value.slice.inj hex
          have hcx := HSX.out.le
          have hcxm := HSX.out.max
          have HB9S : Hid (W1.heap.size ≤ w9.heap.size) := Nat.le_trans HSZ8.out HS89.out
          clear hox hlx hex
          go_wp2_with (at_builtin; refine wpList_append_nx rfl _ _ 25 rfl (base := W1.heap.size) Tryd.underlying25 info8 rfl (by omega) rfl HOW9.out rfl HSX.out (bytesV_one _) ⟨by omega, by omega⟩ HB9S.out ?_)
          intro po2 co2 w10 ho10 hg10 hnx10 _
          have hT10 : Turns (fun a => (Value.slice po pos co).ownBlock = some a) w9 w10 := Turns.grown hg10 (fun a ha => ha)
          have hoq : w10.ownsRow W1.heap.size 5 1 (.slice po2 k co2) k (bytesV b) := by
            have h1 := ho10
            rw [← bytesV_append, HTK.out, HPQ.out] at h1
            exact h1
          obtain ⟨po3, co3, heq3, HS10⟩ : ∃ p c, Value.slice po2 k co2 = .slice p k c ∧ Hid (Bs w10 p k c b) := own_sl hoq
          obtain ⟨rfl, _, rfl⟩ := Value.slice.inj heq3
          have HFX10 : Hid (RFix w10 w5.heap.size rb v ⟨b, k, none⟩) := HFX9.out.high HVL.out hT10 (fun a ha => (HLT.out a ha).1)
          have HBW10 : Hid (Below w.heap.size w w10) := HBW9.out.trans (hT10.below HBW9.out.size (fun a ha => by have h1 := (HLT.out a ha).1; have h2 := HBB.out; omega))
          have HB10 : Hid (Bs w10 p k c b) := HBS.out.below HBW10.out
          rw [HPQ.out]
          have hcv := run_conv (P := Tryd.prog) 25 9 5 Tryd.underlying25 Tryd.underlying5 Tryd.underlying9 HS10.out
          have hcv2 := run_conv (P := Tryd.prog) 25 9 5 Tryd.underlying25 Tryd.underlying5 Tryd.underlying9 HB10.out
          have HE10 := Lib.hid (HE.out.below HBW10.out HE.out.lt)
          have HGE : Hid (0 < w5.heap.size) := HE5.out.lt
          have HD : Hid (RD.done ⟨b, k, none⟩ = 0 ∧ b.length - k = 0) := by
            have h1 : b.length - k = 0 := by rw [HN.out]; omega
            refine ⟨?_, h1⟩
            unfold RD.done
            rw [if_neg (by show ¬ (0 : Int) ≠ 0; simp), if_pos h1]
          clear ho10 hg10 hnx10 hT10 hoq heq3
          go_wp2_with fail
          clear hcv hcv2
          refine (done_any w10 HFX10.out.at HE10.out).mono ?_
          rintro e w11 ⟨rfl, hb11⟩
          rw [HD.out.1]
          have HFX11 := Lib.hid (HFX10.out.below hb11)
          have HBW11 := Lib.hid (HBW10.out.trans (hb11.mono HBW10.out.size))
          have HE11 := Lib.hid (HE10.out.below hb11 HE10.out.lt)
          clear hb11
          go_wp2_with fail
          refine (left_any w11 HFX11.out.at).mono ?_
          rintro e w12 ⟨rfl, hb12⟩
          rw [show (⟨b, k, none⟩ : RD).l.length - (⟨b, k, none⟩ : RD).pos = 0 from HD.out.2]
          have HFX12 := Lib.hid (HFX11.out.below hb12)
          have HBW12 := Lib.hid (HBW11.out.trans (hb12.mono HBW11.out.size))
          have HE12 := Lib.hid (HE11.out.below hb12 HE11.out.lt)
          clear hb12
          go_wp2_with fail
          refine (at_any w12 HFX12.out.at).mono ?_
          rintro e w13 ⟨rfl, rfl⟩
          go_wp2_with fail
          refine (alive9_any _ HE12.out).mono ?_
          rintro e w13 ⟨rfl, hb13⟩
          have HBW13 := Lib.hid (HBW12.out.trans (hb13.mono HBW12.out.size))
          clear hb13
          go_wp2_with fail
          go_ret
          exact ⟨rfl, HBW13.out⟩
end Go.Proofs.YtbfddfmglkhimaaDoor.Rdr
