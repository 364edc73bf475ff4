/- FRAMES: All, and its function. Conditions: the laid cell of errors.errorType; at most 4000 bytes. -/
import Derived.Test.YtjbjlmdfgpoadaaDoorFrm8
import Derived.Test.YtjbjlmdfgpoadaaDoorRange
namespace Go.Proofs.YtjbjlmdfgpoadaaDoor.Frm
open Go.RowKit Go.Mir Go.Mir.Parts Go.Shelf Wr Cod Cut Rdr
attribute [local go_sem] Oper.semAt_some

theorem all_any (p : Option Addr) (n c : Nat) (w : World) :
    Calls Tryd.prog 15 #[.slice p n c] w fun e w' => e = .returned (.func (.func 30) #[] #[.pointer (some ⟨w.heap.size, 0, none⟩)]) ∧ w' = w.alloc (.cells #[.slice p n c] 22) := by
  go_enter Tryd.func15, Tryd.ntmps15
  go_wp2_with fail
  go_ret
  exact ⟨rfl, rfl⟩
structure FX where
  at_ : Nat
  p : Option Addr
  c : Nat
  body : List UInt8
def FX.enc (x : FX) : Array Value := #[.int .i64 (x.at_ : Int), .slice x.p x.body.length x.c]
def bodies (xs : List FX) : List (List UInt8) := xs.map (·.body)
theorem bodies_snoc (xs : List FX) (x : FX) : bodies (xs ++ [x]) = bodies xs ++ [x.body] := by simp [bodies]
def FG (l : List UInt8) (n₀ : Nat) (pre : List FX) (x : FX) (W : World) : Prop := (At l (bodies pre) x.at_ ∧ (one (l.drop x.at_)).2.2 = 0 ∧ x.body = (one (l.drop x.at_)).1) ∧ W.ownsRow n₀ 5 1 (.slice x.p x.body.length x.c) x.body.length (bytesV x.body)
theorem own_own {β : Type} (n₀ e size : Nat) (v : β → Value) (k : β → Nat) (f : β → List Value) : Own (fun s W => W.ownsRow n₀ e size (v s) (k s) (f s)) := by
  rintro s X Y row hr hg hrow
  refine hr.kept hg ?_
  rcases hr.2 with ⟨h0, _⟩ | ⟨g, cap, cur, hv, _, hgb, _⟩
  · exact .inl (by rw [h0]; rfl)
  · refine .inr fun e' => ?_
    rw [hv] at e'
    obtain ⟨o, ho, hc⟩ := hrow g (by simpa [Value.ownBlock] using e'.symm)
    rw [hgb] at ho; cases ho; cases hc
theorem fg_own (l : List UInt8) (n₀ B : Nat) : OwnFrom B (fun (s : List FX × FX) W => FG l n₀ s.1 s.2 W) :=
  fun s A C row hs hg hr => ⟨hs.1, (own_own (β := List FX × FX) n₀ 5 1 (fun s => .slice s.2.p s.2.body.length s.2.c) (fun s => s.2.body.length) (fun s => bytesV s.2.body)) s A C row hs.2 hg (fun r e => (hr r e).2)⟩
def FT (n₀ Bn : Nat) (k : Nat) : Prop := n₀ ≤ k ∧ ¬ k = Bn
set_option maxRecDepth 100000 in
set_option maxHeartbeats 2000000 in
theorem all1_seq (m : Nat) (hm : 1 ≤ m) (Bn n₀ b₀ : Nat) (p : Option Addr) (n c : Nat) (l : List UInt8) (w : World) (hE : EType w) (hE0 : 0 < n₀) (hn0 : b₀ ≤ w.heap.size) (hc : w.cell? ⟨Bn, 0, none⟩ = some (.slice p n c)) (hB : ∀ W', Turns (FT n₀ Bn) w W' → Bs W' p n c l) (hn : n ≤ 1000000) :
    SeqG Tryd.prog m 30 #[.pointer (some ⟨Bn, 0, none⟩)] FX.enc (FT n₀ Bn) (FG l b₀) (fun xs => ∃ k, At l (bodies xs) k ∧ ¬ (one (l.drop k)).2.2 = 0) (fun _ => True) w := by
  intro y J Jx W hW hJ hJx hY h0
  have HB := Lib.hid hB
  have hb0 := hB w (Turns.refl _ _)
  have HN := Lib.hid hb0.length
  have hle := hb0.le
  have hmax := hb0.max
  have HE := Lib.hid hE
  have HW := Lib.hid (Turns.of_below (S := FT n₀ Bn) hW)
  have HY := Lib.hid hY
  clear hB hb0 hE hW hY
  refine callsIn_of_wp Tryd.func30 rfl trivial ?_ rfl
  simp only [Tryd.ntmps30, List.size_toArray, List.length_cons, List.length_nil, Nat.reduceAdd, Nat.reduceSub, Array.replicate_succ, Array.replicate_zero, List.push_toArray, List.append_toArray, List.nil_append, List.cons_append]
  gi_wp2
  gi_loopw [3] (fun i wr => ∃ (k : Nat) (pre : List FX), i = .int .i64 k ∧ At l (bodies pre) k ∧ J pre wr ∧ Turns (FT n₀ Bn) w wr) (fun i _ => n - (intOf i).toNat)
  case atStart => exact ⟨0, [], rfl, At.zero l, h0, HW.out⟩
  case round =>
    obtain ⟨k, pre, rfl, hat, hJp, htu⟩ := hrel
    have hk : k ≤ n := by rw [← HN.out]; exact hat.1
    have HAT := Lib.hid hat
    have HJ := Lib.hid hJp
    have HT := Lib.hid htu
    have hcc := htu.cell hc (fun h => h.2 rfl)
    have hbs := HB.out wr htu
    have hcut := cutR hbs k (k : Int) rfl hk
    have hE1 : EType wr := htu.cell HE.out (fun h => Nat.not_le_of_lt hE0 h.1)
    have hone := one_any _ _ _ _ wr hE1 (bs_drop hbs k hk) (by omega)
    have HONE := Lib.hid hone
    clear hat hJp htu hbs hone hE1
    gi_wp2_with fail
    refine ⟨trivial, ?_⟩
    refine (callsIn_wide.2 HONE.out).mono ?_
    rintro e w1 ⟨p1, c1, rfl, ho1, hb1⟩
    have HJ1 := Lib.hid (hJ _ _ _ HJ.out hb1)
    have HT1 := Lib.hid (HT.out.trans (Turns.of_below (S := FT n₀ Bn) hb1) (fun _ _ h => h))
    have HSZ := Lib.hid HT.out.size
    have HO1 := Lib.hid ho1
    obtain ⟨body, mm, ev, hoe⟩ : ∃ body mm ev, one (l.drop k) = (body, mm, ev) := ⟨_, _, _, rfl⟩
    clear ho1 hb1 HONE HJ HT hcut
    rw [hoe] at HO1 ⊢
    have HOE := Lib.hid hoe
    clear hoe
    by_cases hev : ev = 0
    · subst hev
      have hok := one_ok (l := l.drop k) (by rw [HOE.out])
      have hnx := HAT.out.next (by rw [HOE.out])
      rw [HOE.out] at hok hnx
      rw [List.length_drop, HN.out] at hok
      dsimp only at hok hnx
      have HOK := Lib.hid hok
      obtain ⟨ok1, ok2, _⟩ := hok
      have hx : FG l b₀ pre ⟨k, p1, c1, body⟩ w1 := ⟨⟨HAT.out, by rw [HOE.out], by rw [HOE.out]⟩, own_base HO1.out (fun i hi => by have h1 := (HO1.out.lt i hi).1; have h2 := HSZ.out; omega)⟩
      obtain ⟨fn, tmps, assign, bod, hy, hR⟩ := HY.out pre ⟨k, p1, c1, body⟩ w1 HJ1.out hx
      dsimp only [FX.enc] at hy
      have HR := Lib.hid hR
      have HNX := Lib.hid hnx
      have hw : IntKind.i64.wrap ((k : Int) + (mm : Int)) = ((k + mm : Nat) : Int) := by rw [IntWalk.i64_in _ (by omega)]; omega
      clear hnx HOE HAT hR hx
      gi_wp2_with fail
      refine HR.out.mono ?_
      rintro e w2 (⟨rfl, hJ2, hk2⟩ | ⟨rfl, hJ2⟩)
      · have HT2 := Lib.hid (HT1.out.trans hk2 (fun _ _ h => h))
        have HJ2 := Lib.hid hJ2
        clear hJ2 hk2 HJ1 HT1 HR
        gi_wp2
        go_roundw
        case rel => exact ⟨k + mm, _, by go_num, by rw [bodies_snoc]; exact HNX.out, HJ2.out, HT2.out⟩
        case measure => simp [intOf]; omega
      · have HJ2 := Lib.hid hJ2
        clear hJ2 HJ1 HT1 HR
        gi_wp2
        refine bodyPost_ret (results_none rfl _ _ _) rfl ?_
        exact ⟨⟨_, rfl⟩, .inr ⟨_, trivial, HJ2.out⟩⟩
    · have hz : (ev != 0) = true := by rw [bne_iff_ne]; exact hev
      have HS : Hid (∃ k, At l (bodies pre) k ∧ ¬ (one (l.drop k)).2.2 = 0) := ⟨k, HAT.out, by rw [HOE.out]; exact hev⟩
      clear hev HOE HAT
      gi_wp2_with fail
      refine ⟨fun _ h => (by cases h), ?_⟩
      gi_wp2
      refine bodyPost_ret (results_none rfl _ _ _) rfl ?_
      exact ⟨⟨_, rfl⟩, .inl ⟨pre, HS.out, HJ1.out⟩⟩
end Go.Proofs.YtjbjlmdfgpoadaaDoor.Frm
