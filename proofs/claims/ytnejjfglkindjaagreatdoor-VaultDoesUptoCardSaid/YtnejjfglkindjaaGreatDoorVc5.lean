/- PARTS, JOINED: A RANGE OVER A FUNCTION WHOSE ROUNDS ARE HANDED MEMORY THAT THE ITERATOR HAS LAID: the iterator tells of each element what it knows of the world ('G'). No program is named. Conditions: none. FRAMES: All, and its function. Conditions: the laid cell of errors.errorType; at most 4000 bytes. FRAMES: Scan. Conditions: the laid cell of errors.errorType; at most 4000 bytes. FRAMES: the reference's Same: are lists of bytes the same? Conditions: none. CRC: the walk of the statement CrcTurned. FRAMES, plain: there and back, torn, turned, one behind the other. Conditions: none. PLAIN PART OF THE ROLL: what it does to a disk of one file, and what a crash leaves. Conditions: none. A DISK BESIDE OTHER MEMORY: what its calls leave, and what they leave alone. Conditions: none. PLAIN PART OF SLOTS: what a file tells, which file is current, what a snapshot put does to a disk. Conditions: none. SLOTS BESIDE OTHER MEMORY: their row, what their calls leave. Conditions: none. SLOTS: the function that reads a file; none, Get, Turn, File. Conditions: the laid cell of errors.errorType. SLOTS: wrap, file, Open. Conditions: the laid cell of errors.errorType. VAULTS: numbers ahead of bytes (split, join). Conditions: the laid cell of errors.errorType. SLOTS: the calls that Put lays, one behind the other. Conditions: steps that fit. -/
import Derived.Test.YtnejjfglkindjaaGreatDoorVc1
import Derived.Test.YtnejjfglkindjaaGreatDoorVc2
import Derived.Test.YtnejjfglkindjaaGreatDoorVc3
import Derived.Test.YtnejjfglkindjaaGreatDoorVc4
import Derived.RangeFuncNested
import Derived.RangeFuncBound
import Derived.RangeFuncCalls
import Derived.RangeFuncLeaves
import Derived.RangeFuncBox
import Derived.Shelf.Abstract
import Derived.Shelf.RegionOpen
import Derived.WalkKit
import Derived.OwnWalkIn
import Derived.TacticsInMore
import Derived.LoopNIn
import Derived.LoopIn
import Derived.Maps.AppendAt
import Derived.BigRegion
import Derived.Laws.ShiftsVar
namespace Go.Mir
open Go.RowKit
theorem grown_of_below {A B : World} (h : Below A.heap.size A B) (row : Option Nat) : A.grownBy B row := ⟨h.os, h.tape, h.output, h.size, fun k hk _ => h.block k hk⟩
theorem ownFrom_grow {β : Type} {b : Nat} {I : β → World → Prop} (h : OwnFrom b I) {s : β} {A B : World} (hs : I s A) (hb : Below A.heap.size A B) : I s B :=
 h s A B none hs (grown_of_below hb none) (fun r e => by cases e)
def SeqG {α : Type} (P : Program) (n : Nat) (gf : Nat) (lb : Array Value) (encs : α → Array Value) (T : Nat → Prop) (G : List α → α → World → Prop) (S Sp : List α → Prop) (w : World) : Prop :=
 ∀ (l : Nat) (J Jx : List α → World → Prop) (W : World), Below w.heap.size w W → (∀ s A B, J s A → Below A.heap.size A B → J s B) → (∀ s A B, Jx s A → Below A.heap.size A B → Jx s B) →
  (∀ pre x W1, J pre W1 → G pre x W1 → YieldAt Fence.wide (n - 1) P l (encs x) W1 fun e W' => (e = .returned (.bool true) ∧ J (pre ++ [x]) W' ∧ Turns T W1 W') ∨ (e = .returned (.bool false) ∧ Jx (pre ++ [x]) W')) →
  J [] W → CallsIn Fence.wide n P gf (#[.func (.yield l) #[] #[]] ++ lb) W fun e W' => (∃ v, e = .returned v) ∧ ((∃ xs, S xs ∧ J xs W') ∨ ∃ pre, Sp pre ∧ Jx pre W')
def roundEnd {α : Type} (B : Nat) (T : Nat → Prop) (I : List α → World → Prop) (Ix : Code → List α → World → Prop) (xs : List α) (W : World) : Exit → Act → World → Prop
 | .normal, _, W' => KeepsFrom B W W' ∧ Turns T W W' ∧ I xs W'
 | .ret, _, W' => KeepsFrom B W W' ∧ Ix .ret xs W'
 | .exit id, _, W' => KeepsFrom B W W' ∧ Ix (.exit id) xs W'
 | .goto t, _, W' => KeepsFrom B W W' ∧ Ix (.goto t) xs W'
 | .panic _, _, _ => False
 | .outgrown, _, _ => False
structure LoopAt (b : Nat) (r : Loop) (W : World) : Prop where
 loop : W.heap[b + 1]? = some (.loop r)
 calls : W.heap[b]? = some (.deferred (some []))
theorem LoopAt.lt {b : Nat} {r : Loop} {W : World} (h : LoopAt b r W) : b + 1 < W.heap.size := (Array.getElem?_eq_some_iff.1 h.loop).1
theorem LoopAt.keep {b : Nat} {r : Loop} {W W' : World} (h : LoopAt b r W) (hk : KeepsFrom b W W') : LoopAt b r W' := ⟨hk.same _ _ (by omega) h.loop rfl, hk.same _ _ (Nat.le_refl _) h.calls rfl⟩
theorem LoopAt.set {b : Nat} {r : Loop} {W : World} (h : LoopAt b r W) (r' : Loop) : LoopAt b r' (W.putObj (b + 1) (.loop r')) := ⟨World.putObj_heap_same h.lt, (World.putObj_heap_other (by omega)).trans h.calls⟩
theorem LoopAt.below {b : Nat} {r : Loop} {W W' : World} (h : LoopAt b r W) (hb : Below W.heap.size W W') : LoopAt b r W' := ⟨Below.keepOld hb h.loop, Below.keepOld hb h.calls⟩
variable {P : Program}
theorem rangeG {α : Type} {g : Operand} {ps : Array Tmp} {assign body : Code} {Q : Exit → Act → World → Prop} {a : Act} {w w0 : World} {n : Nat} (_h1 : 1 ≤ n)
  {gf : Nat} {lb : Array Value} (hg : a.eval g = .func (.func gf) #[] lb) (eg : ∀ args w, (callFunc gf args).run P w = .ok (.enter gf args) w)
  {encs : α → Array Value} {T : Nat → Prop} {G : List α → α → World → Prop} {S Sp : List α → Prop} (hseq : SeqG P (n - 1) gf lb encs T G S Sp w0) (hT : ∀ k, w.heap.size ≤ k → T k) (hb0 : Below w0.heap.size w0 w) (hps : ∀ x, (encs x).size = ps.size)
  (hG : OwnFrom w.heap.size (fun (s : List α × α) W => G s.1 s.2 W)) (I : List α → World → Prop) (Ix : Code → List α → World → Prop) (hI : OwnFrom w.heap.size I) (hIx : ∀ c, OwnFrom w.heap.size (Ix c)) (h0 : I [] w) (a₁ : α → Act)
  (hassign : ∀ (l : Nat) (x : α) (W : World) (K : Act → World → Prop), K (a₁ x) W →
   assign.wpIn (Fence.wide.inRound l) (n - 1 - 1) P (Exit.then K (fun _ _ _ => False)) { tmps := (ps.zip (encs x)).foldl (fun t (p, v) => t.setIfInBounds p v) a.tmps, defers := [] } W)
  (hbody : ∀ (l : Nat) (pre : List α) (x : α) (W : World), I pre W → G pre x W → body.wpIn (Fence.wide.inRound l) (n - 1 - 1) P (roundEnd w.heap.size T I Ix (pre ++ [x]) W) (a₁ x) W)
  (hdone : ∀ (D : Nat) (xs : List α) (W : World), w.heap.size ≤ D → S xs → I xs W → W.heap[D]? = some (.deferred (some [])) → Q .normal { a with defers := { target := .collected D, args := #[] } :: a.defers } W)
  (hstop : ∀ (D : Nat) (c : Code) (pre : List α) (W : World), w.heap.size ≤ D → Sp pre → Ix c pre W → W.heap[D]? = some (.deferred (some [])) → c.wpIn Fence.wide n P Q { a with defers := { target := .collected D, args := #[] } :: a.defers } W) :
  (Code.rangeFunc g ps assign body).wpIn Fence.wide n P Q a w := by
 refine wpIn_rangeFunc fun fn hfn => ?_
 obtain ⟨b, hb⟩ : ∃ b, w.heap.size = b := ⟨_, rfl⟩
 let rec' : LoopState → Option Code → Loop := fun st pe => { state := st, pending := pe, fn, tmps := a.tmps, params := ps, assign, body, defers := b }
 obtain ⟨W1, hW1⟩ : ∃ W1, W1 = (w.alloc (.deferred (some []))).alloc (.loop (rec' .ready none)) := ⟨_, rfl⟩
 have hsz : W1.heap.size = b + 2 := by rw [hW1]; simp [hb]
 have hL1 : LoopAt b (rec' .ready none) W1 := by
  rw [hW1, ← hb]
  exact ⟨by have := World.alloc_heap_new (w.alloc (.deferred (some []))) (.loop (rec' .ready none)); rwa [World.size_alloc] at this, (Below.heap_alloc _ _ _ (by simp)).trans (World.alloc_heap_new w _)⟩
 have hww : Below w.heap.size w W1 := by rw [hW1]; exact ((Below.refl _ w).alloc (Nat.le_refl _) _).alloc (by simp) _
 rw [hb] at hI hIx hG hT hbody hdone hstop
 have turn : ∀ {s : List α} {W : World} {r : Loop} (r' : Loop), I s W → LoopAt b r W → I s (W.putObj (b + 1) (.loop r')) := fun r' hi hl => hI.putObj _ hi (by omega) hl.loop rfl
 have turnB : ∀ {W : World} {r : Loop} (r' : Loop), LoopAt b r W → Turns T W (W.putObj (b + 1) (.loop r')) := fun {W} {r} r' hl =>
  Turns.grown (grownBy_putObj' W (b + 1) _) (fun k e => by cases e; exact hT _ (by omega))
 refine ⟨b + 1, [{ target := .collected b, args := #[] }], W1, { target := .fn (.func gf) lb, args := #[.func (.yield (b + 1)) #[] #[]] }, W1, gf, #[.func (.yield (b + 1)) #[] #[]] ++ lb, W1, ?_, ?_, fun _ _ => trivial, ?_, fun h => by simp [Fence.wide] at h, ?_⟩
 ·have := run_enterLoop_outer (P := P) (w := w) fn a.tmps ps assign body
  rw [hb] at this
  rw [hW1]
  exact this
 ·simp only [resolve, hg]
  simp [go_sem]
 ·simp [invoke, go_sem, eg]
 refine (hseq (b + 1) (fun pre W => I pre W ∧ LoopAt b (rec' .ready none) W) (fun pre W => ∃ c, Ix c pre W ∧ LoopAt b (rec' .done (some c)) W) W1
  (hb0.trans (hww.mono hb0.size)) (fun s A B hs hbl => ⟨ownFrom_grow hI hs.1 hbl, hs.2.below hbl⟩) (fun s A B ⟨c, hc, hl⟩ hbl => ⟨c, ownFrom_grow (hIx c) hc hbl, hl.below hbl⟩) ?_ ⟨ownFrom_grow hI h0 hww, hL1⟩).mono ?_
 ·rintro pre x W ⟨hi, hl⟩ hx
  refine ⟨fn, _, assign, body, run_yield (P := P) (args := encs x) hl.loop (hps x), roundIn_of_wpIn hfn (hassign _ x W _ ⟨_, run_beginRound hl.loop rfl, ?_⟩)⟩
  have hx2 : G pre x (W.putObj (b + 1) (.loop { rec' .ready none with state := .busy })) := hG.putObj (s := (pre, x)) _ hx (by omega) hl.loop rfl
  refine wpIn_mono (hbody _ pre x _ (turn _ hi hl) hx2) ?_
  have hl2 := hl.set { rec' .ready none with state := .busy }
  have leave : ∀ (c : Code) (W3 : World), KeepsFrom b (W.putObj (b + 1) (.loop { rec' .ready none with state := .busy })) W3 → Ix c (pre ++ [x]) W3 →
    ∃ v w', (Instr.endRound (b + 1) (some c)).run P W3 = .ok v w' ∧ (fun (e : Ending) (W' : World) => (e = .returned (.bool true) ∧ (I (pre ++ [x]) W' ∧ LoopAt b (rec' .ready none) W') ∧ Turns T W W') ∨ (e = .returned (.bool false) ∧ ∃ c, Ix c (pre ++ [x]) W' ∧ LoopAt b (rec' .done (some c)) W')) (.returned v) w' := fun c W3 hk hc => by
   have hl3 := hl2.keep hk
   exact ⟨_, _, run_endRound (P := P) (some c) hl3.loop, .inr ⟨rfl, c, (hIx c).putObj _ hc (by omega) hl3.loop rfl, hl3.set _⟩⟩
  rintro e a3 W3 hp
  cases e with
  | normal =>
   have hl3 := hl2.keep hp.1
   exact ⟨_, _, run_endRound (P := P) none hl3.loop, .inl ⟨rfl, ⟨turn _ hp.2.2 hl3, hl3.set _⟩, ((turnB _ hl).trans hp.2.1 (fun _ _ h => h)).trans (turnB _ hl3) (fun _ _ h => h)⟩⟩
  | ret => exact leave .ret W3 hp.1 hp.2
  | exit id => exact leave (.exit id) W3 hp.1 hp.2
  | goto t => exact leave (.goto t) W3 hp.1 hp.2
  | panic ch => exact hp.elim
  | outgrown => exact hp.elim
 ·rintro e W2 ⟨⟨v, rfl⟩, ⟨xs, hS, hi, hl⟩ | ⟨pre, hS, c, hi, hl⟩⟩
  ·exact ⟨none, _, run_endLoop (P := P) hl.loop (by simp [rec']), hdone _ xs _ (Nat.le_refl _) hS (turn _ hi hl) (hl.set _).calls⟩
  ·exact ⟨some c, _, run_endLoop (P := P) hl.loop (by simp [rec']), hstop _ c pre _ (Nat.le_refl _) hS ((hIx c).putObj _ hi (by omega) hl.loop rfl) (hl.set _).calls⟩
end Go.Mir
namespace Go.Proofs.YtnejjfglkindjaaGreatDoor.Frm
open Go.RowKit Go.Mir Go.Mir.Parts Go.Shelf Wr Cod Cut Rdr
attribute [local go_sem] Oper.semAt_some
theorem all_any (p : Option Addr) (n c : Nat) (w : World) :
  Calls Tryz.prog 126 #[.slice p n c] w fun e w' => e = .returned (.func (.func 131) #[] #[.pointer (some ⟨w.heap.size, 0, none⟩)]) ∧ w' = w.alloc (.cells #[.slice p n c] 22) := by
 go_enter Tryz.func126, Tryz.ntmps126
 go_wp2_with fail
 go_ret
 exact ⟨rfl, rfl⟩
structure FX where
 at_ : Nat
 p : Option Addr
 c : Nat
 body : List UInt8
def FX.enc (x : FX) : Array Value := #[.int .i64 (x.at_ : Int), .slice x.p x.body.length x.c]
def bodies (xs : List FX) : List (List UInt8) := xs.map (·.body)
theorem bodies_snoc (xs : List FX) (x : FX) : bodies (xs ++ [x]) = bodies xs ++ [x.body] := by simp [bodies]
def FG (l : List UInt8) (n₀ : Nat) (pre : List FX) (x : FX) (W : World) : Prop := (At l (bodies pre) x.at_ ∧ (one (l.drop x.at_)).2.2 = 0 ∧ x.body = (one (l.drop x.at_)).1) ∧ W.ownsRow n₀ 5 1 (.slice x.p x.body.length x.c) x.body.length (bytesV x.body)
theorem own_own {β : Type} (n₀ e size : Nat) (v : β → Value) (k : β → Nat) (f : β → List Value) : Own (fun s W => W.ownsRow n₀ e size (v s) (k s) (f s)) := by
 rintro s X Y row hr hg hrow
 refine hr.kept hg ?_
 rcases hr.2 with ⟨h0, _⟩ | ⟨g, cap, cur, hv, _, hgb, _⟩
 ·exact .inl (by rw [h0]; rfl)
 ·refine .inr fun e' => ?_
  rw [hv] at e'
  obtain ⟨o, ho, hc⟩ := hrow g (by simpa [Value.ownBlock] using e'.symm)
  rw [hgb] at ho; cases ho; cases hc
theorem fg_own (l : List UInt8) (n₀ B : Nat) : OwnFrom B (fun (s : List FX × FX) W => FG l n₀ s.1 s.2 W) :=
 fun s A C row hs hg hr => ⟨hs.1, (own_own (β := List FX × FX) n₀ 5 1 (fun s => .slice s.2.p s.2.body.length s.2.c) (fun s => s.2.body.length) (fun s => bytesV s.2.body)) s A C row hs.2 hg (fun r e => (hr r e).2)⟩
def FT (n₀ Bn : Nat) (k : Nat) : Prop := n₀ ≤ k ∧ ¬ k = Bn
set_option maxRecDepth 100000 in
set_option maxHeartbeats 2000000 in
theorem all1_seq (m : Nat) (hm : 1 ≤ m) (Bn n₀ b₀ : Nat) (p : Option Addr) (n c : Nat) (l : List UInt8) (w : World) (hE : EType w) (hE0 : 0 < n₀) (hn0 : b₀ ≤ w.heap.size) (hc : w.cell? ⟨Bn, 0, none⟩ = some (.slice p n c)) (hB : ∀ W', Turns (FT n₀ Bn) w W' → Bs W' p n c l) (hn : n ≤ 1000000) :
  SeqG Tryz.prog m 131 #[.pointer (some ⟨Bn, 0, none⟩)] FX.enc (FT n₀ Bn) (FG l b₀) (fun xs => ∃ k, At l (bodies xs) k ∧ ¬ (one (l.drop k)).2.2 = 0) (fun _ => True) w := by
 intro y J Jx W hW hJ hJx hY h0
 have HB := Lib.hid hB
 have hb0 := hB w (Turns.refl _ _)
 have HN := Lib.hid hb0.length
 have hle := hb0.le
 have hmax := hb0.max
 have HE := Lib.hid hE
 have HW := Lib.hid (Turns.of_below (S := FT n₀ Bn) hW)
 have HY := Lib.hid hY
 clear hB hb0 hE hW hY
 refine callsIn_of_wp Tryz.func131 rfl trivial ?_ rfl
 simp only [Tryz.ntmps131, List.size_toArray, List.length_cons, List.length_nil, Nat.reduceAdd, Nat.reduceSub, Array.replicate_succ, Array.replicate_zero, List.push_toArray, List.append_toArray, List.nil_append, List.cons_append]
 gi_wp2
 gi_loopw [3] (fun i wr => ∃ (k : Nat) (pre : List FX), i = .int .i64 k ∧ At l (bodies pre) k ∧ J pre wr ∧ Turns (FT n₀ Bn) w wr) (fun i _ => n - (intOf i).toNat)
 case atStart => exact ⟨0, [], rfl, At.zero l, h0, HW.out⟩
 case round =>
  obtain ⟨k, pre, rfl, hat, hJp, htu⟩ := hrel
  have hk : k ≤ n := by rw [← HN.out]; exact hat.1
  have HAT := Lib.hid hat
  have HJ := Lib.hid hJp
  have HT := Lib.hid htu
  have hcc := htu.cell hc (fun h => h.2 rfl)
  have hbs := HB.out wr htu
  have hcut := cutR hbs k (k : Int) rfl hk
  have hE1 : EType wr := htu.cell HE.out (fun h => Nat.not_le_of_lt hE0 h.1)
  have hone := one_any _ _ _ _ wr hE1 (bs_drop hbs k hk) (by omega)
  have HONE := Lib.hid hone
  clear hat hJp htu hbs hone hE1
  gi_wp2_with fail
  refine ⟨trivial, ?_⟩
  refine (callsIn_wide.2 HONE.out).mono ?_
  rintro e w1 ⟨p1, c1, rfl, ho1, hb1⟩
  have HJ1 := Lib.hid (hJ _ _ _ HJ.out hb1)
  have HT1 := Lib.hid (HT.out.trans (Turns.of_below (S := FT n₀ Bn) hb1) (fun _ _ h => h))
  have HSZ := Lib.hid HT.out.size
  have HO1 := Lib.hid ho1
  obtain ⟨body, mm, ev, hoe⟩ : ∃ body mm ev, one (l.drop k) = (body, mm, ev) := ⟨_, _, _, rfl⟩
  clear ho1 hb1 HONE HJ HT hcut
  rw [hoe] at HO1 ⊢
  have HOE := Lib.hid hoe
  clear hoe
  by_cases hev : ev = 0
  ·subst hev
   have hok := one_ok (l := l.drop k) (by rw [HOE.out])
   have hnx := HAT.out.next (by rw [HOE.out])
   rw [HOE.out] at hok hnx
   rw [List.length_drop, HN.out] at hok
   dsimp only at hok hnx
   have HOK := Lib.hid hok
   obtain ⟨ok1, ok2, _⟩ := hok
   have hx : FG l b₀ pre ⟨k, p1, c1, body⟩ w1 := ⟨⟨HAT.out, by rw [HOE.out], by rw [HOE.out]⟩, own_base HO1.out (fun i hi => by have h1 := (HO1.out.lt i hi).1; have h2 := HSZ.out; omega)⟩
   obtain ⟨fn, tmps, assign, bod, hy, hR⟩ := HY.out pre ⟨k, p1, c1, body⟩ w1 HJ1.out hx
   dsimp only [FX.enc] at hy
   have HR := Lib.hid hR
   have HNX := Lib.hid hnx
   have hw : IntKind.i64.wrap ((k : Int) + (mm : Int)) = ((k + mm : Nat) : Int) := by rw [IntWalk.i64_in _ (by omega)]; omega
   clear hnx HOE HAT hR hx
   gi_wp2_with fail
   refine HR.out.mono ?_
   rintro e w2 (⟨rfl, hJ2, hk2⟩ | ⟨rfl, hJ2⟩)
   ·have HT2 := Lib.hid (HT1.out.trans hk2 (fun _ _ h => h))
    have HJ2 := Lib.hid hJ2
    clear hJ2 hk2 HJ1 HT1 HR
    gi_wp2
    go_roundw
    case rel => exact ⟨k + mm, _, by go_num, by rw [bodies_snoc]; exact HNX.out, HJ2.out, HT2.out⟩
    case measure => simp [intOf]; omega
   ·have HJ2 := Lib.hid hJ2
    clear hJ2 HJ1 HT1 HR
    gi_wp2
    refine bodyPost_ret (results_none rfl _ _ _) rfl ?_
    exact ⟨⟨_, rfl⟩, .inr ⟨_, trivial, HJ2.out⟩⟩
  ·have hz : (ev != 0) = true := by rw [bne_iff_ne]; exact hev
   have HS : Hid (∃ k, At l (bodies pre) k ∧ ¬ (one (l.drop k)).2.2 = 0) := ⟨k, HAT.out, by rw [HOE.out]; exact hev⟩
   clear hev HOE HAT
   gi_wp2_with fail
   refine ⟨fun _ h => (by cases h), ?_⟩
   gi_wp2
   refine bodyPost_ret (results_none rfl _ _ _) rfl ?_
   exact ⟨⟨_, rfl⟩, .inl ⟨pre, HS.out, HJ1.out⟩⟩
end Go.Proofs.YtnejjfglkindjaaGreatDoor.Frm
namespace Go.Proofs.YtnejjfglkindjaaGreatDoor.Frm
open Go.RowKit Go.Mir Go.Mir.Parts Go.Shelf Wr Cod Cut Rdr
attribute [local go_sem] Oper.semAt_some
theorem own_kept {w w' : World} {base e size n : Nat} {v : Value} {vs : List Value} (h : w.ownsRow base e size v n vs) {row : Option Nat} (hg : w.grownBy w' row) (hr : ∀ r, row = some r → ∃ o : Obj, w.heap[r]? = some o ∧ o.isCells = false) : w'.ownsRow base e size v n vs :=
 (own_own (β := Unit) base e size (fun _ => v) (fun _ => n) (fun _ => vs)) () _ _ row h hg hr
theorem ls_kept {w w' : World} {base : Nat} {v : Value} {ls : List (List UInt8)} (h : LsO w base v ls) {row : Option Nat} (hg : w.grownBy w' row) (hr : ∀ r, row = some r → ∃ o : Obj, w.heap[r]? = some o ∧ o.isCells = false) : LsO w' base v ls := by
 obtain ⟨hs, h1, h2⟩ := h.all
 refine ⟨hs, own_kept h1 hg hr, fun j hj => ?_⟩
 obtain ⟨q, k, a, b⟩ := h2 j hj
 exact ⟨q, k, a, own_kept b hg hr⟩
theorem boxed_kept {w w' : World} {B : Nat} {t : TypeId} {v : Value} (h : Boxed w B t v) {row : Option Nat} (hg : w.grownBy w' row) (hr : ∀ r, row = some r → ∃ o : Obj, w.heap[r]? = some o ∧ o.isCells = false) : Boxed w' B t v :=
 h.kept hg (fun e => by
  obtain ⟨o, ho, hc⟩ := hr B e.symm
  rw [show w.heap[B]? = _ from h] at ho; cases ho; cases hc)
structure SI (w : World) (l : List UInt8) (pre : List FX) (W : World) : Prop where
 out : ∃ v, Boxed W w.heap.size 31 v ∧ LsO W (w.heap.size + 3) v (bodies pre)
 stop : ∃ k : Nat, Boxed W (w.heap.size + 1) 3 (.int .i64 (k : Int)) ∧ At l (bodies pre) k
 low : Below w.heap.size w W
 big : w.heap.size + 3 ≤ W.heap.size
theorem si_own (w : World) (l : List UInt8) (B : Nat) (hB : w.heap.size ≤ B) : OwnFrom B (SI w l) := fun s A C row hs hg hr => by
 have hr' : ∀ r, row = some r → ∃ o : Obj, A.heap[r]? = some o ∧ o.isCells = false := fun r e => (hr r e).2
 obtain ⟨⟨v, b1, l1⟩, ⟨k, b2, a2⟩, lo, bg⟩ := hs
 exact ⟨⟨v, boxed_kept b1 hg hr', ls_kept l1 hg hr'⟩, ⟨k, boxed_kept b2 hg hr', a2⟩, lo.grown hg lo.size (fun k e => by have := (hr k e).1; omega), Nat.le_trans bg hg.size⟩
def ScanO (l : List UInt8) (w : World) (e : Ending) (w' : World) : Prop := ∃ v, e = .returned (.tuple #[v, .int .i64 ((scan l).2 : Int)]) ∧ LsO w' w.heap.size v (scan l).1 ∧ Below w.heap.size w w'
theorem LsO.low {w : World} {base base' : Nat} {v : Value} {ls : List (List UInt8)} (h : LsO w base v ls) (hb : base' ≤ base) : LsO w base' v ls := by
 obtain ⟨hs, h1, h2⟩ := h.all
 exact ⟨hs, own_base h1 (fun k hk => by have := (h1.lt k hk).1; omega), fun j hj => by
  obtain ⟨q, k, a, b⟩ := h2 j hj
  exact ⟨q, k, a, own_base b (fun i hi => by have := (b.lt i hi).1; omega)⟩⟩
set_option maxRecDepth 100000 in
set_option maxHeartbeats 2000000 in
theorem scanO_any (p : Option Addr) (n c : Nat) (l : List UInt8) (w : World) (hE : EType w) (hB : Bs w p n c l) (hpb : 0 < n → ∀ a, p = some a → a.block < w.heap.size) (hn : n ≤ 1000000) :
  Calls Tryz.prog 112 #[.slice p n c] w (ScanO l w) := by
 have HB := Lib.hid hB
 have HN := Lib.hid hB.length
 have hle := hB.le
 have hmax := hB.max
 refine (callsIn_wide (n := 9)).1 ?_
 refine callsIn_of_wp_marks Tryz.func112 rfl trivial ?_ rfl
 simp only [Tryz.ntmps112, List.size_toArray, List.length_cons, List.length_nil, Nat.reduceAdd, Nat.reduceSub, Array.replicate_succ, Array.replicate_zero, List.push_toArray, List.append_toArray, List.nil_append, List.cons_append]
 gi_wp2_with (refine ⟨trivial, ?_⟩; gi_at_call 126; refine (callsIn_wide.2 (all_any p n c _)).mono ?_; rintro e w' ⟨rfl, rfl⟩)
 have bO := Boxed.new w 31 (.slice none 0 0)
 have bE := Boxed.new (w.alloc (.cells #[.slice none 0 0] 31)) 3 (.int .i64 0)
 have bN := Boxed.new ((w.alloc (.cells #[.slice none 0 0] 31)).alloc (.cells #[.int .i64 0] 3)) 22 (.slice p n c)
 rw [World.size_alloc] at bE
 rw [World.size_alloc, World.size_alloc] at bN
 have hB0 : Below w.heap.size w (((w.alloc (.cells #[.slice none 0 0] 31)).alloc (.cells #[.int .i64 0] 3)).alloc (.cells #[.slice p n c] 22)) := (((Below.refl _ w).alloc (Nat.le_refl _) _).alloc (by simp) _).alloc (by simp; omega) _
 have hs0 : (((w.alloc (.cells #[.slice none 0 0] 31)).alloc (.cells #[.int .i64 0] 3)).alloc (.cells #[.slice p n c] 22)).heap.size = w.heap.size + 3 := by simp
 have bO := (bO.alloc (.cells #[.int .i64 0] 3)).alloc (.cells #[.slice p n c] 22)
 have bE := bE.alloc (.cells #[.slice p n c] 22)
 generalize ((w.alloc (.cells #[.slice none 0 0] 31)).alloc (.cells #[.int .i64 0] 3)).alloc (.cells #[.slice p n c] 22) = W0 at *
 have hE0 := hE.lt
 have hseq := all1_seq 8 (by omega) (w.heap.size + 2) w.heap.size (w.heap.size + 3) p n c l W0 (hE.below hB0 hE0) hE0 (by omega) bN.cell (fun W' ht => bs_touch (hB.below hB0) ht (fun h0 a ha h => by have := hpb h0 a ha; have := h.1; omega)) hn
 have HSI : Hid (SI w l [] W0) := ⟨⟨_, bO, LsO.nil _ _⟩, ⟨0, bE, At.zero l⟩, hB0, by omega⟩
 refine rangeG (by omega) rfl (enters_of Tryz.func131 (by kernel_rfl) rfl) hseq (fun k hk => ⟨by omega, by omega⟩) (Below.refl _ _) (fun _ => rfl) (fg_own l _ _) (SI w l) (fun _ _ _ => False) (si_own w l _ (by omega)) (fun _ _ _ _ _ hs _ _ => hs) HSI.out
  (fun x => { tmps := #[.slice p n c, undef, .slice none 0 0, .int .i64 0, .pointer (some ⟨w.heap.size, 0, none⟩), .pointer (some ⟨w.heap.size + 1, 0, none⟩), .int .i64 (x.at_ : Int), .slice x.p x.body.length x.c, .slice p n c, .func (.func 131) #[] #[.pointer (some ⟨w.heap.size + 1 + 1, 0, none⟩)], .int .i64 (x.at_ : Int), .slice x.p x.body.length x.c, undef, undef, undef, undef, undef, undef, undef, undef, undef, undef], defers := [] }) ?assign ?body ?done ?stop
 case assign =>
  intro l x W K hK
  unfold FX.enc
  gi_wp2
  exact hK
 case body =>
  rintro L pre x W ⟨⟨v, b1, l1⟩, ⟨k, b2, a2⟩, lo, hWs⟩ ⟨⟨g1, g2, g3⟩, g4⟩
  have hc1 := b1.cell
  have hf1 := b1.frozen
  have hc2 := b2.cell
  have hf2 := b2.frozen
  obtain ⟨hs, h1, h2⟩ := l1.all
  obtain ⟨i0, hi, hz0, hz1, hz2⟩ := info_parts infoS
  have hpl : 9 * (bodies pre).length ≤ x.at_ ∧ x.at_ ≤ n := by have := g1.1; have := g1.2.1.1; have := hB.length; omega
  have hnx := g1.next g2
  rw [← g3, ← bodies_snoc] at hnx
  have hsz1 := one_ok g2
  rw [← g3] at hsz1
  obtain ⟨sz1, sz2, sz3, _⟩ := hsz1
  rw [sz3] at hnx
  rw [List.length_drop, hB.length] at sz2
  have hxl : x.body.length ≤ 1000000 := by omega
  have HNX := Lib.hid hnx
  clear hnx g1 g2 g3
  gi_wp2_with (first
   | (gi_at_builtin; refine wpListIn_append_own _ rfl _ _ 31 rfl (w.heap.size + 3) 22 i0 (.slice none 0 0) 1 24 Tryz.underlying31 hi hz0 hz1 hz2 rfl (by decide) _ _ _ rfl (h1.alloc _) ⟨W.heap.size, 0, none⟩ 1 1 [.slice x.p x.body.length x.c] rfl rfl (cell_one_new _ _ _) (by simp [Value.oneCell']) (by simp [maxLen]; omega) (by omega) (by simp; omega) ?_; intro v' w1 hown' hgrow _; obtain ⟨g', cap', rfl⟩ := ownsRow_succ hown'; obtain ⟨hv1, hv2, hr2, hk2, hb2⟩ := b1.appended (by decide) (own_base (base' := w.heap.size) h1 (fun i hi => by have := (h1.lt i hi).1; omega)) lo.size (Nat.le_refl _) (own_base (base' := w.heap.size) hown' (fun i hi => by have := (hown'.lt i hi).1; omega)) hgrow; have hc1 := hv1.cell; have hf1 := hv1.frozen; have bE2 := ((b2.alloc _).kept hgrow (b2.not_row (by decide) h1)).other (show w.heap.size + 1 ≠ w.heap.size by omega) (.slice (some ⟨g', 0, none⟩) ((bodies pre).length + 1) cap'); have hc3 := bE2.cell; have hf3 := bE2.frozen)
   | (refine ⟨trivial, ?_⟩; gi_at_call 116; refine (CallsIn.inRound L (callsIn_wide.2 (size_any _ _ _ (by omega) _))).mono ?_; rintro e w' ⟨rfl, rfl⟩))
  have hpu := (LsO.push h1 h2 g4 hown' hgrow).set hv1 (by decide) (by decide) (.slice (some ⟨g', 0, none⟩) ((bodies pre).length + 1) cap')
  rw [← bodies_snoc] at hpu
  have hcast : (x.at_ : Int) + (8 + (x.body.length : Int)) = ((x.at_ + (8 + x.body.length) : Nat) : Int) := by omega
  rw [hcast]
  refine ⟨(hk2.from _).trans ((KeepsOthers.setCell _ _ _).from _), ?_, ⟨_, hv2.other (by omega) _, hpu.set bE2 (by decide) (by decide) _⟩, ⟨_, bE2.set _, HNX.out⟩, (lo.trans hb2).setCell (p := ⟨w.heap.size + 1, 0, none⟩) (by simp) _, ?_⟩
  rotate_left
  ·have := hgrow.size; simp [World.setCell] at this ⊢; omega
  exact (((Turns.of_below (Below.allocs W _)).trans (Turns.grown hgrow (fun i hi => ⟨by have := (h1.lt i hi).1; omega, by have := (h1.lt i hi).1; omega⟩)) (fun _ _ h => h)).setCell (p := ⟨w.heap.size, 0, none⟩) (fun _ => ⟨Nat.le_refl _, by simp⟩) _).setCell (p := ⟨w.heap.size + 1, 0, none⟩) (fun _ => ⟨by simp, by simp⟩) _
 case done =>
  rintro D xs W hD ⟨k, hk, hk2⟩ ⟨⟨v, b1, l1⟩, ⟨k1, b2, a2⟩, lo, hWs⟩ hK
  have hc1 := b1.cell
  have hc2 := b2.cell
  have hsc := hk.last hk2 a2
  have HSC := Lib.hid hsc
  clear hsc hk hk2 a2
  gi_wp2
  refine wpIn_wide.2 ?_
  go_region
  gi_wp2
  refine ⟨by simp, .inl ⟨_, _, rfl, run_takeDeferred (w := W.drew) hK, ?_⟩⟩
  have hput : Below w.heap.size w (W.drew.putObj D (.deferred none)) := lo.drew.trans (belowK_b (w := w) (Nat.le_refl _) W.drew D _ _ (by omega) hK rfl rfl)
  have hl2 := ls_kept (w := W.drew) (l1.below (below_drew1 _ _)) (w' := W.drew.putObj D (.deferred none)) (row := some D) (grownBy_putObj' W.drew D (.deferred none)) (fun r e => by cases e; exact ⟨_, hK, rfl⟩)
  refine ⟨_, results_tmp2 rfl _ _ _, v, by rw [HSC.out]; rfl, ?_, hput⟩
  rw [HSC.out]
  exact LsO.low hl2 (by omega)
 case stop =>
  rintro D c pre W _ _ h _
  exact h.elim
end Go.Proofs.YtnejjfglkindjaaGreatDoor.Frm
namespace Go.Proofs.YtnejjfglkindjaaGreatDoor.Frm
open Go.RowKit Go.Mir Go.Mir.Parts Wr Cod Cut Rdr
theorem bs_block {w : World} {p : Option Addr} {n c : Nat} {l : List UInt8} (h : Bs w p n c l) : 0 < n → ∀ a, p = some a → a.block < w.heap.size := fun h0 a ha => by
 obtain ⟨b, o, rfl⟩ := h.addr h0 (by omega)
 obtain rfl := Option.some.inj ha
 exact block_lt_of_cell (Bs.byte h (j := 0) (by have := h.length; omega))
set_option maxRecDepth 100000 in
set_option maxHeartbeats 1600000 in
theorem same_any (p p2 : Option Addr) (n c n2 c2 : Nat) (la lb : List (List UInt8)) (w : World) (hA : Pts w p n c la) (hB : Pts w p2 n2 c2 lb) :
  Calls Tryz.prog 57 #[.slice p n c, .slice p2 n2 c2] w fun e w' => e = .returned (.bool (la == lb)) ∧ Below w.heap.size w w' := by
 have HA := Lib.hid hA
 have HB := Lib.hid hB
 have ha := hA.le
 have hb := hB.le
 have ham := hA.max
 have hbm := hB.max
 obtain rfl : la.length = n := hA.len
 obtain rfl : lb.length = n2 := hB.len
 clear hA hB
 by_cases hl : la.length = lb.length
 ·have hlen : ((la.length : Int) == (lb.length : Int)) = true := by rw [beq_iff_eq]; omega
  have hlen2 : ((la.length : Int) != (lb.length : Int)) = false := by rw [bne_eq_false_iff_eq]; omega
  have HL := Lib.hid hl
  clear hl
  go_enter Tryz.func57, Tryz.ntmps57
  go_wp2_with fail
  go_loopw [5] (fun j wr => ∃ k : Nat, k ≤ la.length ∧ j = .int .i64 k ∧ la.take k = lb.take k ∧ Below w.heap.size w wr) (fun j _ => la.length - (intOf j).toNat)
  case atStart => exact ⟨0, by omega, rfl, rfl, Below.refl _ _⟩
  case round =>
   obtain ⟨k, hk, rfl, heq, hbw⟩ := hrel
   have HEQ := Lib.hid heq
   have HBW := Lib.hid hbw
   clear heq hbw
   by_cases hlt : k < la.length
   ·have hlt2 : k < lb.length := by rw [← HL.out]; exact hlt
    obtain ⟨b, o, rfl⟩ := HA.out.addr (by omega)
    obtain ⟨b2, o2, rfl⟩ := HB.out.addr (by omega)
    obtain ⟨q, m, d, e1, f1⟩ := (HA.out.below HBW.out).cell _ rfl k hlt
    obtain ⟨q2, m2, d2, e2, f2⟩ := (HB.out.below HBW.out).cell _ rfl k hlt2
    rw [add_none] at e1 e2
    have HST : Hid (la[k]'hlt = lb[k]'hlt2 → la.take (k + 1) = lb.take (k + 1)) := fun e => by rw [take_snoc la k hlt, take_snoc lb k hlt2, HEQ.out, e]
    have HNE : Hid (¬ la[k]'hlt = lb[k]'hlt2 → (la == lb) = false) := fun h => by
     rw [beq_eq_false_iff_ne]; intro e; subst e; exact h rfl
    generalize la[k]'hlt = x at *
    generalize lb[k]'hlt2 = y at *
    have hd : decide ((k : Int) < (la.length : Int)) = true := decide_eq_true (by omega)
    have HE1 : Hid (∀ w', Below wr.heap.size wr w' → w'.cell? ⟨b, o + k, none⟩ = some (.slice q m d)) := fun w' hb => cell_below e1 hb
    have HE2 : Hid (∀ w', Below wr.heap.size wr w' → w'.cell? ⟨b2, o2 + k, none⟩ = some (.slice q2 m2 d2)) := fun w' hb => cell_below e2 hb
    have HC1 : Hid (∀ w', Below wr.heap.size wr w' → (convert 22 9 (.slice q m d)).run Tryz.prog w' = .ok (.string (S x)) w') := fun w' hb => bconv (f1.below hb)
    have HC2 : Hid (∀ w', Below wr.heap.size wr w' → (convert 22 9 (.slice q2 m2 d2)).run Tryz.prog w' = .ok (.string (S y)) w') := fun w' hb => bconv (f2.below hb)
    clear e1 e2 f1 f2
    go_wp2_with fail
    refine wp_region_eager [(0, true), (1, true), (2, true), (3, true), (4, true), (5, true), (6, true), (7, true), (8, true), (9, true), (10, true)] (by kernel_rfl) (by kernel_rfl) (eagerOpen rfl ?_)
    repeat (first
     | ((first | (apply wpEager_take; (· rfl); (· (intro w' hb'; go_simp; try with_reducible rfl))) | refine wpEager_skip (by rfl) ?_ | refine wpEager_off (by rfl) ?_); (try simp only [Act.put, zA, zB, zC]); (try refine eagerOpen rfl ?_))
     | (apply wpEager_take; (· rfl); (· (intro w' hb'; have hk' := (fun w' hb => HE1.out w' hb) w' hb'; go_split_ands; go_simp; try with_reducible rfl)); (try simp only [Act.put, zA, zB, zC]); (try refine eagerOpen rfl ?_))
     | (apply wpEager_take; (· rfl); (· (intro w' hb'; have hk' := (fun w' hb => HE2.out w' hb) w' hb'; go_split_ands; go_simp; try with_reducible rfl)); (try simp only [Act.put, zA, zB, zC]); (try refine eagerOpen rfl ?_))
     | (apply wpEager_take; (· rfl); (· (intro w' hb'; have hk' := (fun w' hb => HC1.out w' hb) w' hb'; go_split_ands; go_simp; try with_reducible rfl)); (try simp only [Act.put, zA, zB, zC]); (try refine eagerOpen rfl ?_))
     | (apply wpEager_take; (· rfl); (· (intro w' hb'; have hk' := (fun w' hb => HC2.out w' hb) w' hb'; go_split_ands; go_simp; try with_reducible rfl)); (try simp only [Act.put, zA, zB, zC]); (try refine eagerOpen rfl ?_)))
    refine eagerEnd ?_
    have HBD : Hid (Below w.heap.size w wr.drew) := HBW.out.trans ((below_drew1 _ _).mono HBW.out.size)
    clear HE1 HE2 HC1 HC2
    by_cases hxy : x = y
    ·have hbq : (x == y) = true := by rw [beq_iff_eq]; exact hxy
     have HN := Lib.hid (HST.out hxy)
     clear hxy
     rw [hbq]
     simp only [Bool.not_true]
     go_wp2_with fail
     go_roundw
     case rel => exact ⟨k + 1, by omega, by go_num, HN.out, HBD.out⟩
     case measure => simp [intOf]; omega
    ·have hbq : (x == y) = false := by rw [beq_eq_false_iff_ne]; exact hxy
     have HN := Lib.hid (HNE.out hxy)
     clear hxy
     rw [hbq]
     simp only [Bool.not_false]
     go_wp2_with fail
     go_ret
     exact ⟨by rw [HN.out]; rfl, HBD.out⟩
   ·have HR : Hid ((la == lb) = true) := by
     show _ = _
     have h1 := HEQ.out
     rw [List.take_of_length_le (by omega), List.take_of_length_le (by rw [← HL.out]; omega)] at h1
     rw [beq_iff_eq]; exact h1
    have hd : decide ((k : Int) < (la.length : Int)) = false := decide_eq_false (by omega)
    go_wp2_with fail
    go_ret
    exact ⟨by rw [HR.out]; rfl, HBW.out⟩
 ·have hlen : ((la.length : Int) == (lb.length : Int)) = false := by rw [beq_eq_false_iff_ne]; omega
  have HR : Hid ((la == lb) = false) := by
   show _ = _
   rw [beq_eq_false_iff_ne]; intro e; exact hl (by rw [e])
  clear hl
  go_enter Tryz.func57, Tryz.ntmps57
  go_wp2_with fail
  go_ret
  exact ⟨by rw [HR.out]; rfl, Below.refl _ _⟩
end Go.Proofs.YtnejjfglkindjaaGreatDoor.Frm
namespace Go.Proofs.YtnejjfglkindjaaGreatDoor.CrcW
open Go.RowKit Go.Mir
end Go.Proofs.YtnejjfglkindjaaGreatDoor.CrcW
namespace Go.Proofs.YtnejjfglkindjaaGreatDoor.Frm
open Go.RowKit Go.Mir Go.Mir.Parts Wr Cod Cut Rdr
theorem frame_length (l : List UInt8) : (frame l).length = 8 + l.length := by unfold frame; simp only [List.length_append, be_length]
theorem frame_four (l : List UInt8) (r : List UInt8) : (frame l ++ r).take 4 = be l.length 4 := by
 unfold frame
 rw [List.append_assoc, List.append_assoc, List.take_append_of_le_length (by rw [be_length]; omega), List.take_of_length_le (by rw [be_length]; omega)]
theorem frame_body (l r : List UInt8) : ((frame l ++ r).drop 8).take l.length = l := by
 unfold frame
 rw [List.append_assoc, List.drop_append_of_le_length (by simp [be_length]), List.drop_of_length_le (by simp [be_length]), List.nil_append, List.take_append_of_le_length (by omega), List.take_of_length_le (by omega)]
theorem frame_take (l r : List UInt8) : (frame l ++ r).take (8 + l.length) = frame l := by
 rw [← frame_length, List.take_append_of_le_length (Nat.le_refl _), List.take_of_length_le (Nat.le_refl _)]
theorem one_frame (l r : List UInt8) (h1 : 1 ≤ l.length) (h2 : l.length ≤ 65536) : one (frame l ++ r) = (l, 8 + l.length, 0) := by
 have hv : beN ((frame l ++ r).take 4) = l.length := by rw [frame_four, beN_be _ _ (by omega) (by omega)]
 have hl : (frame l ++ r).length = 8 + l.length + r.length := by rw [List.length_append, frame_length]
 unfold one
 rw [hv, if_neg (by omega), if_neg (by omega), if_neg (by omega), frame_body, frame_take, if_pos rfl]
theorem one_frame0 (l : List UInt8) (h1 : 1 ≤ l.length) (h2 : l.length ≤ 65536) : one (frame l) = (l, 8 + l.length, 0) := by
 have := one_frame l [] h1 h2
 rwa [List.append_nil] at this
theorem one_torn (l : List UInt8) (h1 : 1 ≤ l.length) (h2 : l.length ≤ 65536) (k : Nat) (hk : k < 8 + l.length) : one ((frame l).take k) = ([], 0, 2) := by
 have hl : ((frame l).take k).length = k := by rw [List.length_take, frame_length]; omega
 unfold one
 by_cases h4 : k < 4
 ·rw [if_pos (by omega)]
 ·have hv : beN (((frame l).take k).take 4) = l.length := by
   rw [List.take_take, Nat.min_eq_left (by omega)]
   have := frame_four l []
   rw [List.append_nil] at this
   rw [this, beN_be _ _ (by omega) (by omega)]
  rw [hv, if_neg (by omega), if_neg (by omega), if_pos (by omega)]
theorem scan_frames (t : List UInt8) (ht : ¬ (one t).2.2 = 0) : ∀ (ls : List (List UInt8)), (∀ x ∈ ls, 1 ≤ x.length ∧ x.length ≤ 65536) → scan (ls.flatMap frame ++ t) = (ls, (ls.flatMap frame).length)
 | [], _ => by rw [List.flatMap_nil, List.nil_append, scan_no ht]; rfl
 | x :: r, h => by
  have hx := h x (by simp)
  have ih := scan_frames t ht r (fun y hy => h y (by simp [hy]))
  have ho := one_frame x (r.flatMap frame ++ t) hx.1 hx.2
  rw [← List.append_assoc] at ho
  rw [List.flatMap_cons, scan_ok (by rw [ho]), ho]
  dsimp only
  have hd : ((frame x ++ r.flatMap frame ++ t)).drop (8 + x.length) = r.flatMap frame ++ t := by
   rw [List.append_assoc, ← frame_length, List.drop_append_of_le_length (Nat.le_refl _), List.drop_of_length_le (Nat.le_refl _), List.nil_append]
  rw [hd, ih, List.length_append, frame_length]
end Go.Proofs.YtnejjfglkindjaaGreatDoor.Frm
namespace Go.Proofs.YtnejjfglkindjaaGreatDoor.Rol
open Go.RowKit Go.Mir Dk
open Frm (frame scan one frame_length scan_frames scan_ok scan_no one_torn one_frame one_frame0)
theorem scan_len : ∀ (n : Nat) (l : List UInt8), l.length ≤ n → (scan l).2 ≤ l.length ∧ l.take (scan l).2 = (scan l).1.flatMap frame ∧ ∀ x ∈ (scan l).1, 1 ≤ x.length ∧ x.length ≤ 65536
 | 0, l, hn => by
  have hl : l = [] := List.length_eq_zero_iff.1 (by omega)
  subst hl
  rw [scan_no (by decide)]
  exact ⟨Nat.le_refl _, rfl, fun x hx => (nomatch hx)⟩
 | n + 1, l, hn => by
  by_cases ho : (one l).2.2 = 0
  ·obtain ⟨a1, a2, a3, a4, a5, a6⟩ := Frm.one_ok ho
   have hdl : (l.drop (one l).2.1).length = l.length - (one l).2.1 := List.length_drop
   obtain ⟨b1, b2, b3⟩ := scan_len n (l.drop (one l).2.1) (by omega)
   rw [scan_ok ho]
   dsimp only
   refine ⟨by omega, ?_, fun x hx => ?_⟩
   ·rw [List.flatMap_cons, a4, ← b2, List.take_add]
   ·rcases List.mem_cons.1 hx with hx | hx
    ·subst hx; exact ⟨a5, a6⟩
    ·exact b3 x hx
  ·rw [scan_no ho]
   exact ⟨Nat.zero_le _, by rw [List.take_zero]; rfl, fun x hx => (nomatch hx)⟩
theorem scan_le (l : List UInt8) : (scan l).2 ≤ l.length := (scan_len _ l (Nat.le_refl _)).1
theorem one_nil : ¬ (one []).2.2 = 0 := by decide
theorem scan_all (ls : List (List UInt8)) (h : ∀ x ∈ ls, 1 ≤ x.length ∧ x.length ≤ 65536) : scan (ls.flatMap frame) = (ls, (ls.flatMap frame).length) := by
 have := scan_frames [] one_nil ls h
 rwa [List.append_nil] at this
theorem scan_take (l : List UInt8) : scan (l.take (scan l).2) = scan l := by
 obtain ⟨h1, h2, h3⟩ := scan_len _ l (Nat.le_refl _)
 rw [h2, scan_all _ h3, ← h2, List.length_take, Nat.min_eq_left h1]
def fD (d : DD) (i : Nat) : FD := (d.fs[i]?).getD FD.none
theorem fD_eq {d : DD} {i : Nat} (h : i < d.fs.length) : d.fs[i] = fD d i := by
 unfold fD; rw [List.getElem?_eq_getElem h]; rfl
def appD (d : DD) (i : Nat) (b : List UInt8) : DD :=
 if b.length = 0 then d else if doE d i (fD d i) (.put (frame b)) = 0 then syncD (doD d i (fD d i) (.put (frame b))) i (fD (doD d i (fD d i) (.put (frame b))) i) else doD d i (fD d i) (.put (frame b))
def appE (d : DD) (i : Nat) (b : List UInt8) : Int :=
 if b.length = 0 then 1 else if doE d i (fD d i) (.put (frame b)) = 0 then syncE (doD d i (fD d i) (.put (frame b))) else doE d i (fD d i) (.put (frame b))
def clrD (d : DD) (i m : Nat) : DD :=
 if doE d i (fD d i) (.cut m) = 0 then syncD (doD d i (fD d i) (.cut m)) i (fD (doD d i (fD d i) (.cut m)) i) else doD d i (fD d i) (.cut m)
def clrE (d : DD) (i m : Nat) : Int :=
 if doE d i (fD d i) (.cut m) = 0 then syncE (doD d i (fD d i) (.cut m)) else doE d i (fD d i) (.cut m)
def endD (d : DD) (i : Nat) : DD := if unitsAll (fD d i).steps = 0 then d else syncD d i (fD d i)
def endE (d : DD) (i : Nat) : Int := if unitsAll (fD d i).steps = 0 then 0 else syncE d
def mendD (d : DD) (i : Nat) : DD :=
 if (scan (fD d i).now).2 < (fD d i).now.length then (if doE d i (fD d i) (.cut (scan (fD d i).now).2) = 0 then endD (doD d i (fD d i) (.cut (scan (fD d i).now).2)) i else doD d i (fD d i) (.cut (scan (fD d i).now).2)) else endD d i
def mendE (d : DD) (i : Nat) : Int :=
 if (scan (fD d i).now).2 < (fD d i).now.length then (if doE d i (fD d i) (.cut (scan (fD d i).now).2) = 0 then endE (doD d i (fD d i) (.cut (scan (fD d i).now).2)) i else doE d i (fD d i) (.cut (scan (fD d i).now).2)) else endE d i
def fS (x : List UInt8) : FD := ⟨x, x, [], x.length⟩
theorem settle_put (x y : List UInt8) (n : Nat) : (⟨x, x ++ y, [.put y], n⟩ : FD).settle (unitsAll [.put y]) = fS (x ++ y) := by
 have h : someU x [.put y] (unitsAll [.put y]) = x ++ y := by
  rw [someU_all _ _ _ (Nat.le_refl _)]
  show (St.put y).act x (St.put y).units = _
  rw [act_full]
 show (⟨someU x _ _, someU x _ _, [], (someU x _ _).length⟩ : FD) = _
 rw [h]; rfl
theorem settle_cut (x : List UInt8) (g n : Nat) : (⟨x, x.take g, [.cut g], n⟩ : FD).settle (unitsAll [.cut g]) = fS (x.take g) := by
 have h : someU x [.cut g] (unitsAll [.cut g]) = x.take g := by
  rw [someU_all _ _ _ (Nat.le_refl _)]
  show (St.cut g).act x (St.cut g).units = _
  rw [act_full]
 show (⟨someU x _ _, someU x _ _, [], (someU x _ _).length⟩ : FD) = _
 rw [h]; rfl
theorem take_put (x y : List UInt8) : (fS x).take (.put y) = ⟨x, x ++ y, [.put y], x.length + y.length⟩ := by
 show (⟨x, (St.put y).act x (St.put y).units, [.put y], max x.length (x.length + y.length)⟩ : FD) = _
 rw [act_full, Nat.max_eq_right (by omega)]
theorem take_cut (x : List UInt8) (g : Nat) (h : g ≤ x.length) : (fS x).take (.cut g) = ⟨x, x.take g, [.cut g], x.length⟩ := by
 show (⟨x, (St.cut g).act x (St.cut g).units, [.cut g], max x.length g⟩ : FD) = _
 rw [act_full, Nat.max_eq_left h]
theorem do_dn {d : DD} {i : Nat} {f : FD} {s : St} (h : d.down = true) : doD d i f s = d ∧ doE d i f s = 18 := by
 unfold doD doE
 rw [if_pos h, if_pos h]; exact ⟨rfl, rfl⟩
theorem app_down {d : DD} (i : Nat) (b : List UInt8) (hb : 1 ≤ b.length) (hd : d.down = true) : appE d i b = 18 ∧ appD d i b = d := by
 obtain ⟨e1, e2⟩ := do_dn (i := i) (f := fD d i) (s := .put (frame b)) hd
 have hb0 : ¬ b.length = 0 := by omega
 have h18 : ¬ (18 : Int) = 0 := by decide
 unfold appE appD
 rw [if_neg hb0, if_neg hb0, e2, if_neg h18, if_neg h18]
 exact ⟨rfl, e1⟩
theorem app_nil (d : DD) (i : Nat) (b : List UInt8) (hb : b.length = 0) : appE d i b = 1 ∧ appD d i b = d := by
 unfold appE appD
 rw [if_pos hb, if_pos hb]
 exact ⟨rfl, rfl⟩
theorem scan_more (ls : List (List UInt8)) (h : ∀ x ∈ ls, 1 ≤ x.length ∧ x.length ≤ 65536) (b : List UInt8) (h1 : 1 ≤ b.length) (h2 : b.length ≤ 65536) (u : Nat) (hu : u ≤ (frame b).length) :
  (scan (ls.flatMap frame ++ (frame b).take u)).1 = ls ∨ (scan (ls.flatMap frame ++ (frame b).take u)).1 = ls ++ [b] := by
 by_cases hk : u < 8 + b.length
 ·rw [scan_frames _ (by rw [one_torn b h1 h2 u hk]; decide) ls h]
  exact .inl rfl
 ·rw [List.take_of_length_le (by rw [frame_length]; omega)]
  rw [show ls.flatMap frame ++ frame b = (ls ++ [b]).flatMap frame by simp]
  rw [scan_all _ (fun x hx => by
   rcases List.mem_append.1 hx with hx | hx
   ·exact h x hx
   ·rw [List.mem_singleton] at hx; subst hx; exact ⟨h1, h2⟩)]
  exact .inr rfl
end Go.Proofs.YtnejjfglkindjaaGreatDoor.Rol
namespace Go.Proofs.YtnejjfglkindjaaGreatDoor.Rol
open Go.RowKit Go.Mir Go.Mir.Parts Dk
open Cut (LsO LsA)
def DTy (base : Nat) (w : World) (k : Nat) : Prop := base ≤ k ∧ ∃ M t fr, w.heap[k]? = some (.cells M t fr) ∧ (t = 105 ∨ t = 165)
theorem dat_dty {w : World} {base db : Nat} {vs : List FV} {d : DD} (h : DAt w base db vs d) : ∀ k, DOwn db vs k → DTy base w k := by
 intro k hs
 refine ⟨(h.ownLt k hs).1, ?_⟩
 rcases hs with rfl | ⟨v, hv, hs⟩
 ·exact ⟨_, _, _, h.row, .inl rfl⟩
 ·obtain ⟨i, hi⟩ := List.mem_iff_getElem?.1 hv
  have hlt : i < d.fs.length := by rw [h.m3, ← h.n3]; exact (List.getElem?_eq_some_iff.1 hi).1
  obtain ⟨vals, ho, _⟩ := (h.each i v _ hi (List.getElem?_eq_getElem hlt)).steps
  rcases ho.2 with ⟨e, _⟩ | ⟨g, cap, cur, e, _, hg, _⟩
  ·rw [e] at hs; simp [Value.ownBlock] at hs
  ·rw [e] at hs
   simp [Value.ownBlock] at hs
   subst hs
   exact ⟨_, _, _, hg, .inr rfl⟩
def DX (base db : Nat) (d : DD) (w : World) : Prop := base ≤ w.heap.size ∧ ∃ vs, DAt w base db vs d
def KT (base : Nat) (w w' : World) : Prop := Turns (DTy base w) w w'
theorem KT.refl (base : Nat) (w : World) : KT base w w := Turns.refl _ _
theorem KT.trans {base : Nat} {a b c : World} (h : KT base a b) (k : KT base b c) : KT base a c :=
 ⟨k.os.trans h.os, k.tape.trans h.tape, k.output.trans h.output, Nat.le_trans h.size k.size, fun i hi hS => by
  have e1 := h.block i hi hS
  have hS2 : ¬ DTy base b i := fun h' => hS (by
   obtain ⟨h1, M, t, fr, h2, h3⟩ := h'
   exact ⟨h1, M, t, fr, by rw [← e1]; exact h2, h3⟩)
  rw [k.block i (Nat.lt_of_lt_of_le hi h.size) hS2]; exact e1⟩
theorem KT.of_below {base : Nat} {a b : World} (h : Below a.heap.size a b) : KT base a b := Turns.of_below h
theorem KT.next {base : Nat} {a b c : World} (h : KT base a b) (k : Below b.heap.size b c) : KT base a c := h.trans (.of_below k)
theorem KT.below {base : Nat} {a b : World} (h : KT base a b) (hb : base ≤ a.heap.size) : Below base a b := Turns.below h hb (fun _ hi => hi.1)
theorem KT.row {base : Nat} {a b : World} (h : KT base a b) {k : Nat} {M : Array Value} {t : TypeId} {fr : Nat × Nat} (hr : a.heap[k]? = some (.cells M t fr)) (h1 : t ≠ 105) (h2 : t ≠ 165) : b.heap[k]? = some (.cells M t fr) :=
 Turns.keep h hr (fun ⟨_, M', t', fr', e, ht⟩ => by
  rw [hr] at e
  injection e with e1
  injection e1 with _ e2
  subst e2
  exact ht.elim h1 h2)
theorem KT.not {base : Nat} {a : World} {b e size n : Nat} {v : Value} {xs : List Value} (ho : a.ownsRow b e size v n xs) (h1 : e ≠ 105) (h2 : e ≠ 165) (k : Nat) (hk : v.ownBlock = some k) : ¬ DTy base a k := fun ⟨_, M', t', fr', e', ht⟩ => by
 rcases ho.2 with ⟨rfl, _⟩ | ⟨g, cap, cur, rfl, _, hg, _⟩
 ·simp [Value.ownBlock] at hk
 ·simp [Value.ownBlock] at hk
  subst hk
  rw [hg] at e'
  injection e' with e1
  injection e1 with _ e2
  subst e2
  exact ht.elim h1 h2
theorem KT.own {base : Nat} {a b : World} (h : KT base a b) {c e size n : Nat} {v : Value} {xs : List Value} (ho : a.ownsRow c e size v n xs) (h1 : e ≠ 105) (h2 : e ≠ 165) : b.ownsRow c e size v n xs :=
 own_touch ho h (fun k hk => KT.not ho h1 h2 k hk)
theorem KT.lsO {base : Nat} {a b : World} (h : KT base a b) {c : Nat} {v : Value} {ls : List (List UInt8)} (ho : LsO a c v ls) : LsO b c v ls := by
 obtain ⟨hs, h1, h2⟩ := ho.all
 exact ⟨hs, h.own h1 (by decide) (by decide), fun j hj => by
  obtain ⟨q, k, x, y⟩ := h2 j hj
  exact ⟨q, k, x, h.own y (by decide) (by decide)⟩⟩
theorem KT.etype {base : Nat} {a b : World} (h : KT base a b) (hE : Rdr.EType a) (hb : 0 < base) : Rdr.EType b := by
 have hlt := hE.lt
 have h1 : a.heap[0]? = some (a.heap[0]'hlt) := Array.getElem?_eq_getElem hlt
 have h2 := Turns.keep h h1 (fun hs => by have := hs.1; omega)
 unfold Rdr.EType at hE ⊢
 rw [World.cell?] at hE ⊢
 rw [h1] at hE
 rw [h2]
 exact hE
theorem DX.below {base db : Nat} {d : DD} {w w' : World} (h : DX base db d w) (hb : Below w.heap.size w w') : DX base db d w' := by
 obtain ⟨h0, vs, h1⟩ := h
 exact ⟨Nat.le_trans h0 hb.size, vs, h1.below hb⟩
theorem DX.left {base db : Nat} {vs : List FV} {d d' : DD} {w w' : World} (h : DAt w base db vs d) (h0 : base ≤ w.heap.size) (hl : LeftD base db vs d' w w') : DX base db d' w' ∧ KT base w w' := by
 obtain ⟨vs', h1, h2, _⟩ := hl
 exact ⟨⟨Nat.le_trans h0 h2.size, vs', h1⟩, h2.imp (fun k _ hk => dat_dty h k hk)⟩
def StP (base db : Nat) (x : Int) (d' : DD) (w : World) (e : Ending) (w' : World) : Prop := e = .returned (.int .i64 x) ∧ DX base db d' w' ∧ KT base w w'
theorem fD_lt {w : World} {base db : Nat} {vs : List FV} {d : DD} (h : DAt w base db vs d) {i : Nat} (hi : i < 3) : i < d.fs.length := by rw [h.m3]; exact hi
theorem xappend {base db : Nat} {d : DD} (w : World) (h : DX base db d w) (i : Nat) (hi : i < 3) (p : Option Addr) (n c : Nat) (b : List UInt8) (hb : Bs w p n c b) (hn : n ≤ 140737488355328) (hfew : (fD d i).steps.length + 1 ≤ 4398046511104) :
  Calls Tryz.prog 24 #[.pointer (some ⟨db, 0, none⟩), .int .i64 (i : Int), .slice p n c] w (StP base db (doE d i (fD d i) (.put b)) (doD d i (fD d i) (.put b)) w) := by
 obtain ⟨h0, vs, h1⟩ := h
 refine (append_in w h1 h0 i (fD_lt h1 hi) (fD d i) (fD_eq (fD_lt h1 hi)) p n c b hb hn hfew).mono ?_
 rintro e w' ⟨he, hl⟩
 exact ⟨he, DX.left h1 h0 hl⟩
theorem xcut {base db : Nat} {d : DD} (w : World) (h : DX base db d w) (i : Nat) (hi : i < 3) (m : Nat) (hm : m ≤ (fD d i).now.length) (hfew : (fD d i).steps.length + 1 ≤ 4398046511104) :
  Calls Tryz.prog 87 #[.pointer (some ⟨db, 0, none⟩), .int .i64 (i : Int), .int .i64 (m : Int)] w (StP base db (doE d i (fD d i) (.cut m)) (doD d i (fD d i) (.cut m)) w) := by
 obtain ⟨h0, vs, h1⟩ := h
 refine (cut_in w h1 h0 i (fD_lt h1 hi) (fD d i) (fD_eq (fD_lt h1 hi)) m hm hfew).mono ?_
 rintro e w' ⟨he, hl⟩
 exact ⟨he, DX.left h1 h0 hl⟩
theorem xsync {base db : Nat} {d : DD} (w : World) (h : DX base db d w) (i : Nat) (hi : i < 3) :
  Calls Tryz.prog 79 #[.pointer (some ⟨db, 0, none⟩), .int .i64 (i : Int)] w (StP base db (syncE d) (syncD d i (fD d i)) w) := by
 obtain ⟨h0, vs, h1⟩ := h
 refine (sync_in w h1 h0 i (fD_lt h1 hi) (fD d i) (fD_eq (fD_lt h1 hi))).mono ?_
 rintro e w' ⟨he, hl⟩
 exact ⟨he, DX.left h1 h0 hl⟩
theorem xread {base db : Nat} {d : DD} (w : World) (h : DX base db d w) (i : Nat) (hi : i < 3) :
  Calls Tryz.prog 54 #[.pointer (some ⟨db, 0, none⟩), .int .i64 (i : Int)] w fun e w' => ∃ p c, e = .returned (.slice p (fD d i).now.length c) ∧ Bs w' p (fD d i).now.length c (fD d i).now ∧ Below w.heap.size w w' := by
 obtain ⟨h0, vs, h1⟩ := h
 have := read_in w h1 i (fD_lt h1 hi)
 rw [fD_eq (fD_lt h1 hi)] at this
 refine this.mono ?_
 rintro e w' ⟨p, c, he, hr, hb⟩
 obtain ⟨p', c', e1, hs⟩ := hr.bs
 cases e1
 exact ⟨p, c, he, hs, hb⟩
theorem xunits {base db : Nat} {d : DD} (w : World) (h : DX base db d w) (i : Nat) (hi : i < 3) :
  Calls Tryz.prog 90 #[.pointer (some ⟨db, 0, none⟩), .int .i64 (i : Int)] w fun e w' => e = .returned (.int .i64 (unitsAll (fD d i).steps : Int)) ∧ Below w.heap.size w w' := by
 obtain ⟨h0, vs, h1⟩ := h
 have := units_in w h1 i (fD_lt h1 hi)
 rw [fD_eq (fD_lt h1 hi)] at this
 exact this
theorem xsize {base db : Nat} {d : DD} (w : World) (h : DX base db d w) (i : Nat) (hi : i < 3) :
  Calls Tryz.prog 58 #[.pointer (some ⟨db, 0, none⟩), .int .i64 (i : Int)] w fun e w' => e = .returned (.int .i64 ((fD d i).now.length : Int)) ∧ Below w.heap.size w w' := by
 obtain ⟨h0, vs, h1⟩ := h
 have := size_in w h1 i (fD_lt h1 hi)
 rw [fD_eq (fD_lt h1 hi)] at this
 exact this
theorem DX.room {base db : Nat} {d : DD} {w : World} (h : DX base db d w) : 1 ≤ d.room ∧ d.room ≤ 65536 ∧ usedL d.fs ≤ d.room := by
 obtain ⟨_, vs, h1⟩ := h
 exact ⟨h1.room1.1, h1.room1.2, h1.used⟩
theorem DX.len3 {base db : Nat} {d : DD} {w : World} (h : DX base db d w) : d.fs.length = 3 := by
 obtain ⟨_, vs, h1⟩ := h
 exact h1.m3
theorem DX.ok {base db : Nat} {d : DD} {w : World} (h : DX base db d w) {i : Nat} (hi : i < 3) : (fD d i).Ok := by
 obtain ⟨_, vs, h1⟩ := h
 have hl := fD_lt h1 hi
 have := (h1.each i _ _ (List.getElem?_eq_getElem (by rw [h1.n3]; exact hi)) (List.getElem?_eq_getElem hl)).ok
 rwa [fD_eq hl] at this
theorem DX.le {base db : Nat} {d : DD} {w : World} (h : DX base db d w) {i : Nat} (hi : i < 3) : (fD d i).now.length ≤ 65536 := by
 have h1 := (h.ok hi).le
 have h2 := h.room
 have hl : i < d.fs.length := by rw [h.len3]; exact hi
 have h3 := usedL_mem hl
 rw [fD_eq hl] at h3
 omega
end Go.Proofs.YtnejjfglkindjaaGreatDoor.Rol
namespace Go.Proofs.YtnejjfglkindjaaGreatDoor.Slt
open Go.RowKit Go.Mir Dk Rol Wr
open Frm (frame one frame_length one_frame0 one_torn)
def loadP (l : List UInt8) : Nat × List UInt8 := if (one l).2.2 = 0 ∧ 8 ≤ (one l).1.length then (Rdr.beN ((one l).1.take 8), (one l).1.drop 8) else (0, [])
theorem load_of {l x : List UInt8} {n : Nat} (h : one l = (x, n, 0)) (h8 : 8 ≤ x.length) : loadP l = (Rdr.beN (x.take 8), x.drop 8) := by
 unfold loadP
 rw [h]
 exact if_pos ⟨rfl, h8⟩
theorem load_no {l : List UInt8} (h : ¬ (one l).2.2 = 0) : loadP l = (0, []) := by
 unfold loadP
 exact if_neg (fun hh => h hh.1)
theorem load_frame (t : Nat) (x : List UInt8) (ht : t < 18446744073709551616) (hx : x.length ≤ 65528) : loadP (frame (be t 8 ++ x)) = (t, x) := by
 have hl : (be t 8 ++ x).length = 8 + x.length := by rw [List.length_append, be_length]
 rw [load_of (one_frame0 _ (by omega) (by omega)) (by omega), List.take_left' (be_length t 8), List.drop_left' (be_length t 8), Cod.beN_be t 8 (by omega) (by omega)]
theorem load_torn (t : Nat) (x : List UInt8) (hx : x.length ≤ 65528) (k : Nat) (hk : k < 16 + x.length) : loadP ((frame (be t 8 ++ x)).take k) = (0, []) := by
 have hl : (be t 8 ++ x).length = 8 + x.length := by rw [List.length_append, be_length]
 refine load_no ?_
 rw [one_torn _ (by omega) (by omega) k (by omega)]
 decide
theorem load_lt (l : List UInt8) : (loadP l).1 < 18446744073709551616 := by
 unfold loadP
 split
 ·rename_i h
  have h1 := Rdr.beN_lt_pow ((one l).1.take 8)
  rw [List.length_take, Nat.min_eq_left h.2] at h1
  show Rdr.beN _ < _
  omega
 ·show 0 < _; omega
structure SS where
 now : Int
 turn : Nat
 body : List UInt8
def bet (s : SS) (f : Nat) (l : List UInt8) : SS := if s.turn < (loadP l).1 then ⟨(f : Int), (loadP l).1, (loadP l).2⟩ else s
def opnS (d : DD) (a b : Nat) : SS := bet (bet ⟨-1, 0, []⟩ a (fD d a).now) b (fD d b).now
inductive LA where
 | cut
 | sync
 | put (b : List UInt8)
def stpD (d : DD) (i : Nat) : LA → DD
 | .cut => doD d i (fD d i) (.cut 0)
 | .sync => syncD d i (fD d i)
 | .put b => doD d i (fD d i) (.put b)
def stpE (d : DD) (i : Nat) : LA → Int
 | .cut => doE d i (fD d i) (.cut 0)
 | .sync => syncE d
 | .put b => doE d i (fD d i) (.put b)
def layD (i : Nat) : List LA → DD → DD
 | [], d => d
 | a :: r, d => if stpE d i a = 0 then layD i r (stpD d i a) else stpD d i a
def layE (i : Nat) : List LA → DD → Int
 | [], _ => 0
 | a :: r, d => if stpE d i a = 0 then layE i r (stpD d i a) else stpE d i a
theorem lay_ok {i : Nat} {a : LA} {r : List LA} {d : DD} (h : stpE d i a = 0) : layD i (a :: r) d = layD i r (stpD d i a) ∧ layE i (a :: r) d = layE i r (stpD d i a) := ⟨if_pos h, if_pos h⟩
theorem lay_no {i : Nat} {a : LA} {r : List LA} {d : DD} (h : ¬ stpE d i a = 0) : layD i (a :: r) d = stpD d i a ∧ layE i (a :: r) d = stpE d i a := ⟨if_neg h, if_neg h⟩
def nxt (s : SS) (a b : Nat) : Nat := if s.now = (a : Int) then b else a
def full (d : DD) (i : Nat) : Bool := decide (0 < (fD d i).now.length) || decide (0 < unitsAll (fD d i).steps)
def acts (d : DD) (i : Nat) (y : List UInt8) : List LA := if full d i = true then [.cut, .sync, .put y, .sync] else [.put y, .sync]
def wrapB (s : SS) (x : List UInt8) : List UInt8 := frame (be (s.turn + 1) 8 ++ x)
def fits (s : SS) (x : List UInt8) : Bool := decide (x.length ≤ 65528) && decide (s.turn + 1 < 18446744073709551616)
def putSD (d : DD) (s : SS) (a b : Nat) (x : List UInt8) : DD := if fits s x = true then layD (nxt s a b) (acts d (nxt s a b) (wrapB s x)) d else d
def putSE (d : DD) (s : SS) (a b : Nat) (x : List UInt8) : Int := if fits s x = true then layE (nxt s a b) (acts d (nxt s a b) (wrapB s x)) d else 1
def putSS (d : DD) (s : SS) (a b : Nat) (x : List UInt8) : SS := if fits s x = true ∧ layE (nxt s a b) (acts d (nxt s a b) (wrapB s x)) d = 0 then ⟨(nxt s a b : Int), s.turn + 1, x⟩ else s
theorem fD_set {d : DD} {i : Nat} (h : i < d.fs.length) (f : FD) : fD (setF d i f) i = f := by
 unfold fD setF
 simp [h]
theorem fD_other {d : DD} {i k : Nat} (h : i ≠ k) (f : FD) : fD (setF d i f) k = fD d k := by
 unfold fD setF
 simp [List.getElem?_set_ne h]
theorem setF_setF (d : DD) (i : Nat) (f g : FD) : setF (setF d i f) i g = setF d i g := by unfold setF; simp only [List.set_set]
theorem used_setF {d : DD} {i : Nat} (h : i < d.fs.length) (f : FD) : usedL (setF d i f).fs + (fD d i).need = usedL d.fs + f.need := by rw [← fD_eq h]; exact usedL_set h f
end Go.Proofs.YtnejjfglkindjaaGreatDoor.Slt
namespace Go.Proofs.YtnejjfglkindjaaGreatDoor.Slt
open Go.RowKit Go.Mir Go.Mir.Parts Dk Rol
def slA (db a b : Nat) (s : SS) (pb : Option Addr) (cb bx : Nat) : Array Value := #[.pointer (some ⟨db, 0, none⟩), .int .i64 (a : Int), .int .i64 (b : Int), .int .i64 s.now, .int .u64 (s.turn : Int), .slice pb s.body.length cb, .func (.func 105) #[] #[.pointer (some ⟨bx, 0, none⟩)]]
def STy (base : Nat) (w : World) (k : Nat) : Prop := base ≤ k ∧ ∃ M t fr, w.heap[k]? = some (.cells M t fr) ∧ (t = 105 ∨ t = 165 ∨ t = 133)
def KS (base : Nat) (w w' : World) : Prop := Turns (STy base w) w w'
theorem KS.refl (base : Nat) (w : World) : KS base w w := Turns.refl _ _
theorem KS.of_kt {base : Nat} {a b : World} (h : KT base a b) : KS base a b := h.imp (fun _k _ ⟨h1, M, t, fr, hm, ht⟩ => ⟨h1, M, t, fr, hm, ht.imp id .inl⟩)
theorem KS.trans {base : Nat} {a b c : World} (h : KS base a b) (k : KS base b c) : KS base a c :=
 ⟨k.os.trans h.os, k.tape.trans h.tape, k.output.trans h.output, Nat.le_trans h.size k.size, fun i hi hS => by
  have e1 := h.block i hi hS
  have hS2 : ¬ STy base b i := fun h' => hS (by
   obtain ⟨h1, M, t, fr, h2, h3⟩ := h'
   exact ⟨h1, M, t, fr, by rw [← e1]; exact h2, h3⟩)
  rw [k.block i (Nat.lt_of_lt_of_le hi h.size) hS2]; exact e1⟩
theorem KS.of_below {base : Nat} {a b : World} (h : Below a.heap.size a b) : KS base a b := Turns.of_below h
theorem KS.next {base : Nat} {a b c : World} (h : KS base a b) (k : Below b.heap.size b c) : KS base a c := h.trans (.of_below k)
theorem KS.below {base : Nat} {a b : World} (h : KS base a b) (hb : base ≤ a.heap.size) : Below base a b := Turns.below h hb (fun _ hi => hi.1)
theorem KS.row {base : Nat} {a b : World} (h : KS base a b) {k : Nat} {M : Array Value} {t : TypeId} {fr : Nat × Nat} (hr : a.heap[k]? = some (.cells M t fr)) (h1 : t ≠ 105) (h2 : t ≠ 165) (h3 : t ≠ 133) : b.heap[k]? = some (.cells M t fr) :=
 Turns.keep h hr (fun ⟨_, M', t', fr', e, ht⟩ => by
  rw [hr] at e
  injection e with e1
  injection e1 with _ e2
  subst e2
  rcases ht with ht | ht | ht
  ·exact h1 ht
  ·exact h2 ht
  ·exact h3 ht)
theorem KS.etype {base : Nat} {a b : World} (h : KS base a b) (hE : Rdr.EType a) (hb : 0 < base) : Rdr.EType b := by
 have hlt := hE.lt
 have h1 : a.heap[0]? = some (a.heap[0]'hlt) := Array.getElem?_eq_getElem hlt
 have h2 := Turns.keep h h1 (fun hs => by have := hs.1; omega)
 unfold Rdr.EType at hE ⊢
 rw [World.cell?] at hE ⊢
 rw [h1] at hE
 rw [h2]
 exact hE
theorem kt_no8 {base : Nat} {w : World} : ∀ k M fr, w.heap[k]? = some (.cells M 5 fr) → ¬ DTy base w k := fun k M fr hm ⟨_, M', t', fr', e, ht⟩ => by
 rw [hm] at e
 injection e with e1
 injection e1 with _ e2
 subst e2
 exact ht.elim (by decide) (by decide)
theorem ks_no8 {base : Nat} {w : World} : ∀ k M fr, w.heap[k]? = some (.cells M 5 fr) → ¬ STy base w k := fun k M fr hm ⟨_, M', t', fr', e, ht⟩ => by
 rw [hm] at e
 injection e with e1
 injection e1 with _ e2
 subst e2
 rcases ht with ht | ht | ht
 ·exact absurd ht (by decide)
 ·exact absurd ht (by decide)
 ·exact absurd ht (by decide)
theorem KS.bs {base : Nat} {a b : World} (h : KS base a b) {p : Option Addr} {n c : Nat} {l : List UInt8} (hb : Rd a base (.slice p n c) l) : Rd b base (.slice p n c) l := hb.touch h ks_no8
structure SX (base sb db a b : Nat) (d : DD) (s : SS) (w : World) : Prop where
 dx : DX base db d w
 low : base ≤ sb
 row : ∃ pb cb bx, w.heap[sb]? = some (.cells (slA db a b s pb cb bx) 133 (0, 0)) ∧ Rd w base (.slice pb s.body.length cb) s.body ∧ w.heap[bx]? = some (.cells #[.pointer (some ⟨db, 0, none⟩)] 23 (0, 0))
 turn : s.turn < 18446744073709551616
 now : -1 ≤ s.now ∧ s.now ≤ 2
theorem SX.kt {base sb db a b : Nat} {d d' : DD} {s : SS} {w w' : World} (h : SX base sb db a b d s w) (hk : KT base w w') (hd : DX base db d' w') : SX base sb db a b d' s w' := by
 obtain ⟨pb, cb, bx, h1, h2, h3⟩ := h.row
 exact ⟨hd, h.low, ⟨pb, cb, bx, hk.row h1 (by decide) (by decide), h2.touch hk kt_no8, hk.row h3 (by decide) (by decide)⟩, h.turn, h.now⟩
theorem SX.below {base sb db a b : Nat} {d : DD} {s : SS} {w w' : World} (h : SX base sb db a b d s w) (hb : Below w.heap.size w w') : SX base sb db a b d s w' := h.kt (KT.of_below hb) (h.dx.below hb)
theorem slA_cells {w : World} {sb db a b : Nat} {s : SS} {pb : Option Addr} {cb bx : Nat} {t : TypeId} {fr : Nat × Nat} (h : w.heap[sb]? = some (.cells (slA db a b s pb cb bx) t fr)) :
  w.cell? ⟨sb, 0, none⟩ = some (.pointer (some ⟨db, 0, none⟩)) ∧ w.cell? ⟨sb, 1, none⟩ = some (.int .i64 (a : Int)) ∧ w.cell? ⟨sb, 2, none⟩ = some (.int .i64 (b : Int)) ∧ w.cell? ⟨sb, 3, none⟩ = some (.int .i64 s.now) ∧ w.cell? ⟨sb, 4, none⟩ = some (.int .u64 (s.turn : Int)) ∧ w.cell? ⟨sb, 5, none⟩ = some (.slice pb s.body.length cb) ∧ w.cell? ⟨sb, 6, none⟩ = some (.func (.func 105) #[] #[.pointer (some ⟨bx, 0, none⟩)]) := by
 refine ⟨?_, ?_, ?_, ?_, ?_, ?_, ?_⟩ <;> (rw [cell_of_row _ _ _ _ _ _ h]; rfl)
theorem dx_turn {base db : Nat} {d : DD} {S : Nat → Prop} {w w' : World} (h : DX base db d w) (ht : Turns S w w') (hS : ∀ k M t fr, S k → w.heap[k]? = some (.cells M t fr) → t ≠ 105 ∧ t ≠ 165 ∧ t ≠ 5) : DX base db d w' := by
 obtain ⟨h0, vs, h1⟩ := h
 have hno : ∀ k, DOwn db vs k → ¬ S k := fun k hk hs => by
  obtain ⟨_, M, t, fr, e1, e2⟩ := dat_dty h1 k hk
  have := hS k M t fr hs e1
  rcases e2 with e2 | e2
  ·exact this.1 e2
  ·exact this.2.1 e2
 refine ⟨Nat.le_trans h0 ht.size, vs, ht.keep h1.row (hno db (.inl rfl)), h1.low, h1.n3, h1.m3, fun i v f hv hf => ?_, h1.apart, h1.room1, h1.fuse1, h1.used, h1.few⟩
 exact (h1.each i v f hv hf).touch ht (fun k M fr hk hs => (hS k M _ fr hs hk).2.2 rfl) (fun k hk => hno k (.inr ⟨v, List.mem_of_getElem? hv, hk⟩))
theorem SX.set3 {base sb db a b : Nat} {d : DD} {s : SS} {w : World} (h : SX base sb db a b d s w) (n : Int) (hn : -1 ≤ n ∧ n ≤ 2) (t : Nat) (ht : t < 18446744073709551616) (p : Option Addr) (c : Nat) (l : List UInt8) (hl : Rd w base (.slice p l.length c) l) :
  SX base sb db a b d ⟨n, t, l⟩ (((w.setCell ⟨sb, 3, none⟩ (.int .i64 n)).setCell ⟨sb, 4, none⟩ (.int .u64 (t : Int))).setCell ⟨sb, 5, none⟩ (.slice p l.length c)) ∧
   KS base w (((w.setCell ⟨sb, 3, none⟩ (.int .i64 n)).setCell ⟨sb, 4, none⟩ (.int .u64 (t : Int))).setCell ⟨sb, 5, none⟩ (.slice p l.length c)) ∧ Turns (fun k => k = sb) w (((w.setCell ⟨sb, 3, none⟩ (.int .i64 n)).setCell ⟨sb, 4, none⟩ (.int .u64 (t : Int))).setCell ⟨sb, 5, none⟩ (.slice p l.length c)) := by
 obtain ⟨pb, cb, bx, h1, h2, h3⟩ := h.row
 have e1 := Dk.cell_put (off := 3) (.int .i64 n) h1
 have e2 := Dk.cell_put (off := 4) (.int .u64 (t : Int)) e1
 have e3 := Dk.cell_put (off := 5) (.slice p l.length c) e2
 have t1 : Turns (fun k => k = sb) w (w.setCell ⟨sb, 3, none⟩ (.int .i64 n)) := Turns.setCell (S := fun k => k = sb) (p := ⟨sb, 3, none⟩) (Turns.refl _ w) (fun _ => rfl) (.int .i64 n)
 have t2 : Turns (fun k => k = sb) w ((w.setCell ⟨sb, 3, none⟩ (.int .i64 n)).setCell ⟨sb, 4, none⟩ (.int .u64 (t : Int))) := Turns.setCell (S := fun k => k = sb) (p := ⟨sb, 4, none⟩) t1 (fun _ => rfl) (.int .u64 (t : Int))
 have hT : Turns (fun k => k = sb) w (((w.setCell ⟨sb, 3, none⟩ (.int .i64 n)).setCell ⟨sb, 4, none⟩ (.int .u64 (t : Int))).setCell ⟨sb, 5, none⟩ (.slice p l.length c)) := Turns.setCell (S := fun k => k = sb) (p := ⟨sb, 5, none⟩) t2 (fun _ => rfl) (.slice p l.length c)
 have hbx : bx ≠ sb := fun e => by
  rw [e, h1] at h3
  injection h3 with q1
  injection q1 with _ q2
  exact absurd q2 (by decide)
 refine ⟨⟨dx_turn h.dx hT (fun k M t' fr hk hm => ?_), h.low, ⟨p, c, bx, e3, hl.touch hT (fun k M fr hm hk => ?_), hT.keep h3 hbx⟩, ht, hn⟩, hT.imp (fun k _ hk => ?_), hT⟩
 ·have hk : k = sb := hk
  subst hk
  rw [h1] at hm
  injection hm with q1
  injection q1 with _ q2
  subst q2
  exact ⟨by decide, by decide, by decide⟩
 ·have hk : k = sb := hk
  subst hk
  rw [h1] at hm
  injection hm with q1
  injection q1 with _ q2
  exact absurd q2 (by decide)
 ·have hk : k = sb := hk
  subst hk
  exact ⟨h.low, _, _, _, h1, .inr (.inr rfl)⟩
end Go.Proofs.YtnejjfglkindjaaGreatDoor.Slt
namespace Go.Proofs.YtnejjfglkindjaaGreatDoor.Slt
open Go.RowKit Go.Mir Go.Mir.Parts Dk Rol
open Frm (one)
theorem one_len (l : List UInt8) : (one l).1.length ≤ 65536 := by
 by_cases h : (one l).2.2 = 0
 ·exact (Frm.one_ok h).2.2.2.2.2
 ·have e : (one l).1 = [] := by
   unfold Frm.one at h ⊢
   split
   ·rfl
   ·rename_i h1
    rw [if_neg h1] at h
    split
    ·rfl
    ·rename_i h2
     rw [if_neg h2] at h
     split
     ·rfl
     ·rename_i h3
      rw [if_neg h3] at h
      split
      ·rename_i h4
       rw [if_pos h4] at h
       exact absurd rfl h
      ·rfl
  rw [e]; exact Nat.zero_le _
theorem num8_in {X : List UInt8} (h : 8 ≤ X.length) : (Rdr.RD.new X).numV 8 = Rdr.beN (X.take 8) ∧ (Rdr.RD.new X).numS 8 = ⟨X, 8, none⟩ := by
 have hf : Rdr.fitsW 8 = true := by decide
 unfold Rdr.RD.numV Rdr.RD.numS Rdr.RD.takeB Rdr.RD.takeS Rdr.RD.new
 rw [hf]
 dsimp only
 rw [if_pos ⟨rfl, rfl, by omega, by omega⟩, if_neg (by simp), if_neg (by simp), if_neg (by omega), List.drop_zero]
 exact ⟨rfl, rfl⟩
theorem num8_out {X : List UInt8} (h : ¬ 8 ≤ X.length) : ((Rdr.RD.new X).numS 8).err = 2 := by
 have hf : Rdr.fitsW 8 = true := by decide
 unfold Rdr.RD.numS Rdr.RD.takeS Rdr.RD.new
 rw [hf]
 dsimp only
 rw [if_neg (by simp), if_neg (by simp), if_pos (by omega)]
 rfl
theorem rest8 {X : List UInt8} (h : 8 ≤ X.length) : (⟨X, 8, none⟩ : Rdr.RD).takeB ((X.length - 8 : Nat) : Int) true = X.drop 8 := by
 unfold Rdr.RD.takeB
 dsimp only
 rw [if_pos ⟨rfl, rfl, by omega, by omega⟩]
 exact List.take_of_length_le (by rw [List.length_drop]; omega)
theorem own_ge {w : World} {base e size n : Nat} {v : Value} {xs : List Value} (h : w.ownsRow base e size v n xs) : ∀ k, v.ownBlock = some k → base ≤ k := fun k hk => by
 rcases h.2 with ⟨h1, _⟩ | ⟨g, cap, cur, h1, h2, _⟩
 ·rw [h1] at hk; simp [Value.ownBlock] at hk
 ·rw [h1] at hk; simp [Value.ownBlock] at hk; omega
def LoadP (l : List UInt8) (w : World) (e : Ending) (w' : World) : Prop := ∃ p c, e = .returned (.tuple #[.int .u64 ((loadP l).1 : Int), .slice p (loadP l).2.length c]) ∧ w'.ownsRow w.heap.size 5 1 (.slice p (loadP l).2.length c) (loadP l).2.length (bytesV (loadP l).2) ∧ Below w.heap.size w w'
set_option maxRecDepth 100000 in
theorem load_fn (db : Nat) (w : World) :
  Calls Tryz.prog 66 #[.pointer (some ⟨db, 0, none⟩)] w fun e w' => e = .returned (.func (.func 105) #[] #[.pointer (some ⟨w.heap.size, 0, none⟩)]) ∧ w' = w.alloc (.cells #[.pointer (some ⟨db, 0, none⟩)] 23) := by
 go_enter Tryz.func66, Tryz.ntmps66
 go_wp2_with fail
 go_ret
 exact ⟨rfl, rfl⟩
set_option maxRecDepth 100000 in
set_option maxHeartbeats 1600000 in
theorem load_any {base db i bx : Nat} {d : DD} (hi : i < 3) (w : World) (hE : Rdr.EType w) (hX : DX base db d w) (hbx : w.heap[bx]? = some (.cells #[.pointer (some ⟨db, 0, none⟩)] 23 (0, 0))) :
  Calls Tryz.prog 105 #[.int .i64 (i : Int), .pointer (some ⟨bx, 0, none⟩)] w (LoadP (fD d i).now w) := by
 have hcb : w.cell? ⟨bx, 0, none⟩ = some (.pointer (some ⟨db, 0, none⟩)) := by rw [cell_of_row _ _ _ _ _ _ hbx]; rfl
 have HLE := Lib.hid (hX.le hi)
 have HRD := Lib.hid (xread w hX i hi)
 have HE := Lib.hid hE
 clear hE hX hbx hi
 generalize (fD d i).now = L at *
 have HX65 := Lib.hid (one_len L)
 obtain ⟨X, hX⟩ : ∃ X, (one L).1 = X := ⟨_, rfl⟩
 obtain ⟨E, hE⟩ : ∃ E, (one L).2.2 = E := ⟨_, rfl⟩
 have HLP : Hid (loadP L = if E = 0 ∧ 8 ≤ X.length then (Rdr.beN (X.take 8), X.drop 8) else (0, [])) := by show _ = _; unfold loadP; rw [hX, hE]
 have HOX := Lib.hid hX
 have HOE := Lib.hid hE
 clear hX hE
 rw [HOX.out] at HX65
 go_enter Tryz.func105, Tryz.ntmps105
 go_wp2_with fail
 refine HRD.out.mono ?_
 rintro e w1 ⟨p1, c1, rfl, hB, hb1⟩
 have hon := Frm.one_any p1 L.length c1 L w1 (HE.out.below hb1 HE.out.lt) hB (by have := HLE.out; omega)
 unfold Frm.OneP at hon
 rw [HOX.out, HOE.out] at hon
 have HON := Lib.hid hon
 have HB1 := Lib.hid hb1
 clear hB hb1 hon HRD
 go_wp2_with fail
 refine HON.out.mono ?_
 rintro e w2 ⟨p2, c2, rfl, ho2, hb2⟩
 have HB2 := Lib.hid (HB1.out.trans (hb2.mono HB1.out.size))
 have HNW := Lib.hid (Rdr.new_any w2 p2 X.length c2 X (Cut.own_bs ho2) (by have := HX65.out; omega))
 clear ho2 hb2 HON HB1
 generalize (one L).2.1 = N at *
 go_wp2_with fail
 refine HNW.out.mono ?_
 rintro e w3 ⟨rb, rfl, hr3, hb3⟩
 have HB3 := Lib.hid (HB2.out.trans (hb3.mono HB2.out.size))
 have HSZ2 : Hid (w.heap.size ≤ w2.heap.size) := HB2.out.size
 have HR3 := Lib.hid hr3
 have HNM := Lib.hid (Rdr.num_any w3 hr3 8 (by omega))
 clear hr3 hb3 HNW HB2
 go_wp2_with fail
 refine HNM.out.mono ?_
 rintro e w4 ⟨rfl, hl4⟩
 have hb4 := HB3.out.trans (hl4.belowB HR3.out HSZ2.out)
 have HB4 := Lib.hid hb4
 have HR4 := Lib.hid hl4.there
 clear hl4 hb4 HNM HR3 HB3
 by_cases hE0 : E = 0
 ·have he1 : (E != 0) = false := by rw [hE0]; rfl
  have HER := Lib.hid (Rdr.err_any w4 HR4.out (HE.out.below HB4.out HE.out.lt))
  by_cases h8 : 8 ≤ X.length
  ·obtain ⟨q1, q2⟩ := num8_in h8
   rw [q2] at HER HR4
   rw [q1]
   have hlp := HLP.out
   rw [if_pos ⟨hE0, h8⟩] at hlp
   have HL2 := Lib.hid hlp
   have HRS := Lib.hid (rest8 h8)
   clear hE0 q1 q2 HLP hlp h8
   generalize Rdr.beN (X.take 8) = TN at *
   generalize X.drop 8 = RB at *
   go_wp2_with fail
   refine HER.out.mono ?_
   rintro e w5 ⟨rfl, hb5⟩
   have HR5 := Lib.hid (HR4.out.below hb5)
   have HB5 := Lib.hid (HB4.out.trans (hb5.mono HB4.out.size))
   have HLF := Lib.hid (Rdr.left_any w5 HR5.out)
   have hz : ((⟨X, 8, none⟩ : Rdr.RD).err != 0) = false := rfl
   clear hb5 HER HR4 HB4
   go_wp2_with fail
   refine HLF.out.mono ?_
   rintro e w6 ⟨rfl, hb6⟩
   have hby := Rdr.bytes_any w6 (HR5.out.below hb6) ((X.length - 8 : Nat) : Int) (by have := HX65.out; omega)
   unfold Rdr.BytesP at hby
   rw [HRS.out] at hby
   have HBY := Lib.hid hby
   have HR6 := Lib.hid (HR5.out.below hb6)
   have HB6 := Lib.hid (HB5.out.trans (hb6.mono HB5.out.size))
   clear hb6 hby HLF HR5 HB5
   go_wp2_with fail
   refine HBY.out.mono ?_
   rintro e w7 ⟨p7, c7, rfl, ho7, hl7⟩
   have HB7 := Lib.hid (HB6.out.trans (hl7.belowB HR6.out HSZ2.out))
   have HO7 := Lib.hid ho7
   clear ho7 hl7
   go_wp2_with fail
   go_ret2
   refine ⟨p7, c7, by rw [HL2.out]; rfl, ?_, HB7.out⟩
   rw [HL2.out]
   exact own_base HO7.out (fun k hk => Nat.le_trans HB6.out.size (own_ge HO7.out k hk))
  ·have q2 := num8_out h8
   have hlp := HLP.out
   rw [if_neg (fun h => h8 h.2)] at hlp
   have HNO : Hid (∀ w', Below w.heap.size w w' → LoadP L w (.returned (.tuple #[.int .u64 0, .slice none 0 0])) w') := fun w' hb => ⟨none, 0, by rw [hlp]; rfl, by rw [hlp]; exact World.ownsRow_nil _ _ _ _, hb⟩
   rw [q2] at HER
   clear hE0 q2 hlp HLP h8
   generalize (Rdr.RD.new X).numV 8 = TN at *
   go_wp2_with fail
   refine HER.out.mono ?_
   rintro e w5 ⟨rfl, hb5⟩
   have HBX := Lib.hid (HB4.out.trans (hb5.mono HB4.out.size))
   skip
   go_wp2_with fail
   go_ret2
   exact HNO.out _ HBX.out
 ·have he1 : (E != 0) = true := bne_iff_ne.2 hE0
  have hlp := HLP.out
  rw [if_neg (fun h => hE0 h.1)] at hlp
  have HNO : Hid (∀ w', Below w.heap.size w w' → LoadP L w (.returned (.tuple #[.int .u64 0, .slice none 0 0])) w') := fun w' hb => ⟨none, 0, by rw [hlp]; rfl, by rw [hlp]; exact World.ownsRow_nil _ _ _ _, hb⟩
  have HBX := Lib.hid HB4.out
  clear hE0 hlp HLP
  generalize (Rdr.RD.new X).numV 8 = TN at *
  skip
  go_wp2_with fail
  go_ret2
  exact HNO.out _ HBX.out
theorem xroomS {base db : Nat} {d : DD} (w : World) (h : DX base db d w) : Calls Tryz.prog 64 #[.pointer (some ⟨db, 0, none⟩)] w fun e w' => e = .returned (.int .i64 (d.room : Int)) ∧ w = w' := by
 obtain ⟨h0, vs, h1⟩ := h
 exact room_any w h1
theorem xdownS {base db : Nat} {d : DD} (w : World) (h : DX base db d w) : Calls Tryz.prog 19 #[.pointer (some ⟨db, 0, none⟩)] w fun e w' => e = .returned (.bool d.down) ∧ w = w' := by
 obtain ⟨h0, vs, h1⟩ := h
 exact down_any w h1
theorem SX.cells {base sb db a b : Nat} {d : DD} {s : SS} {w : World} (h : SX base sb db a b d s w) : ∃ pb cb bx, Rd w base (.slice pb s.body.length cb) s.body ∧ w.heap[bx]? = some (.cells #[.pointer (some ⟨db, 0, none⟩)] 23 (0, 0)) ∧ w.heap[sb]? = some (.cells (slA db a b s pb cb bx) 133 (0, 0)) := by
 obtain ⟨pb, cb, bx, h1, h2, h3⟩ := h.row
 exact ⟨pb, cb, bx, h2, h3, h1⟩
set_option maxRecDepth 100000 in
theorem none_any {base sb db a b : Nat} {d : DD} {s : SS} (w : World) (h : SX base sb db a b d s w) :
  Calls Tryz.prog 84 #[.pointer (some ⟨sb, 0, none⟩)] w fun e w' => e = .returned (.bool false) ∧ w = w' := by
 obtain ⟨pb, cb, bx, _, _, h1⟩ := h.cells
 obtain ⟨c0, _⟩ := slA_cells h1
 clear h h1
 go_enter Tryz.func84, Tryz.ntmps84
 go_wp2_with fail
 go_ret
 exact ⟨rfl, rfl⟩
def GetP (s : SS) (w : World) (e : Ending) (w' : World) : Prop := ∃ p c, e = .returned (.tuple #[.slice p s.body.length c, .bool (decide (0 < s.turn))]) ∧ w'.ownsRow w.heap.size 5 1 (.slice p s.body.length c) s.body.length (bytesV s.body) ∧ Below w.heap.size w w'
set_option maxRecDepth 100000 in
set_option maxHeartbeats 1600000 in
theorem get_any {base sb db a b : Nat} {d : DD} {s : SS} (w : World) (h : SX base sb db a b d s w) (h0 : s.turn = 0 → s.body = []) (hl : s.body.length ≤ 140737488355328) :
  Calls Tryz.prog 68 #[.pointer (some ⟨sb, 0, none⟩)] w (GetP s w) := by
 have HN := Lib.hid (none_any w h)
 obtain ⟨pb, cb, bx, hrd, _, h1⟩ := h.cells
 obtain ⟨_, _, _, _, c4, c5, _⟩ := slA_cells h1
 obtain ⟨p', c', e1, hbs⟩ := hrd.bs
 cases e1
 by_cases ht : s.turn = 0
 ·have hb0 := h0 ht
  have HG : Hid (GetP s w (.returned (.tuple #[.slice none 0 0, .bool false])) w) := ⟨none, 0, by rw [hb0, ht]; rfl, by rw [hb0]; exact World.ownsRow_nil _ _ _ _, Below.refl _ _⟩
  have hq : ((s.turn : Int) == 0) = true := by rw [ht]; rfl
  clear h h1 hb0 hbs hrd c5 h0 ht
  generalize s.turn = TT at *
  go_enter Tryz.func68, Tryz.ntmps68
  go_wp2_with fail
  refine HN.out.mono ?_
  rintro e w' ⟨rfl, rfl⟩
  go_wp2_with fail
  go_ret2
  exact HG.out
 ·have hq : ((s.turn : Int) == 0) = false := beq_eq_false_iff_ne.2 (by omega)
  have hd : decide (0 < s.turn) = true := decide_eq_true (by omega)
  have HG : Hid (∀ p c w', w'.ownsRow w.heap.size 5 1 (.slice p s.body.length c) s.body.length (bytesV s.body) → Below w.heap.size w w' → GetP s w (.returned (.tuple #[.slice p s.body.length c, .bool true])) w') := fun p c w' ho hb => ⟨p, c, by rw [hd], ho, hb⟩
  clear h h1 hrd h0 ht hd
  generalize s.turn = TT at *
  generalize s.body = B at *
  generalize hm : B.length = m at *
  clear hm
  have hle := hbs.le
  have hmax := hbs.max
  have HBS := Lib.hid hbs
  clear hbs
  go_enter Tryz.func68, Tryz.ntmps68
  go_wp2_with fail
  refine HN.out.mono ?_
  rintro e w' ⟨rfl, rfl⟩
  go_wp2_with (refine wpList_append_nx rfl _ _ 22 rfl (base := w.heap.size) Tryz.underlying22 info8 rfl (by omega) rfl (World.ownsRow_nil _ _ _ _) rfl HBS.out (bytesV_one _) ⟨by omega, by omega⟩ (Nat.le_refl _) ?_)
  intro p9 c9 w9 ho9 hg9 _ _
  have HX := Lib.hid (HG.out p9 c9 w9 (by simpa using ho9) ((Below.refl _ _).grown hg9 (Nat.le_refl _) (fun k hk => by simp [Value.ownBlock] at hk)))
  clear ho9 hg9
  go_wp2_with fail
  go_ret2
  exact HX.out
end Go.Proofs.YtnejjfglkindjaaGreatDoor.Slt
namespace Go.Proofs.YtnejjfglkindjaaGreatDoor.Slt
open Go.RowKit Go.Mir Go.Mir.Parts Dk Rol Wr
open Frm (frame)
set_option maxRecDepth 100000 in
set_option maxHeartbeats 1600000 in
theorem wrap_any (t : Nat) (ht : t < 18446744073709551616) (p : Option Addr) (c : Nat) (x : List UInt8) (w : World) (hB : Bs w p x.length c x) (hx : x.length ≤ 3000) :
  Calls Tryz.prog 85 #[.int .u64 (t : Int), .slice p x.length c] w fun e w' => ∃ p' c', e = .returned (.tuple #[.slice p' (frame (be t 8 ++ x)).length c', .int .i64 0]) ∧ w'.ownsRow w.heap.size 5 1 (.slice p' (frame (be t 8 ++ x)).length c') (frame (be t 8 ++ x)).length (bytesV (frame (be t 8 ++ x))) ∧ Below w.heap.size w w' := by
 have HB := Lib.hid hB
 have HXL := Lib.hid hx
 obtain ⟨E, hE⟩ : ∃ E, be t 8 ++ x = E := ⟨_, rfl⟩
 have HL : Hid (E.length = 8 + x.length) := by show _ = _; rw [← hE, List.length_append, be_length]
 have HFR : Hid (Frm.enc E = (frame E, 0)) := by show _ = _; unfold Frm.enc; rw [if_neg (by rw [HL.out]; omega)]
 have HL4 : Hid (E.length ≤ 4000) := by show _ ≤ _; rw [HL.out]; omega
 rw [hE]
 have HEE := Lib.hid hE
 clear hB hx hE
 go_enter Tryz.func85, Tryz.ntmps85
 go_wp2_with fail
 refine (Cod.ws_new w w (Below.refl _ _) 65536 (by omega)).mono ?_
 rintro e w2 ⟨rfl, hs2, -⟩
 have HS2 := Lib.hid hs2
 clear hs2
 go_wp2_with fail
 refine (Cod.ws_num HS2.out (by omega) t 8 (by omega) (by omega) (by omega) ht).mono ?_
 rintro e w3 ⟨rfl, hs3⟩
 have HS3 := Lib.hid hs3
 clear hs3 HS2
 go_wp2_with fail
 refine (Cod.ws_bytes HS3.out (by omega) p x.length c x HB.out (by have := HXL.out; omega)).mono ?_
 rintro e w4 ⟨rfl, hs4⟩
 rw [List.nil_append, HEE.out] at hs4
 have HS4 := Lib.hid hs4
 clear hs4 HS3 HEE
 go_wp2_with fail
 refine (Cod.ws_done HS4.out (by omega) (by have := HL4.out; omega)).mono ?_
 rintro e w5 ⟨⟨p5, c5, rfl, ho5⟩, hs5, hb5⟩
 have hen := Frm.encode_any p5 E.length c5 E w5 (Cut.own_bs ho5) HL4.out
 rw [HFR.out] at hen
 have HEN := Lib.hid hen
 have HS5 := Lib.hid hs5.low
 clear ho5 hs5 hb5 hen HS4
 go_wp2_with fail
 refine HEN.out.mono ?_
 rintro e w6 ⟨p6, c6, rfl, ho6, hb6⟩
 have HB6 := Lib.hid (HS5.out.trans (hb6.mono HS5.out.size))
 have HO6 := Lib.hid (own_base ho6 (fun k hk => Nat.le_trans HS5.out.size (own_ge ho6 k hk)))
 clear ho6 hb6
 go_wp2_with fail
 go_ret2
 exact ⟨p6, c6, rfl, HO6.out, HB6.out⟩
theorem file_is (z : Int) (w : World) : Calls Tryz.prog 65 #[.int .i64 z] w fun e w' => e = .returned (.bool (decide (0 ≤ z ∧ z < 3))) ∧ w = w' := by
 by_cases h0 : 0 ≤ z
 ·have d0 : decide ((0 : Int) ≤ z) = true := decide_eq_true h0
  by_cases h1 : z < 3
  ·have d1 : decide (z < 3) = true := decide_eq_true h1
   have dq : decide (0 ≤ z ∧ z < 3) = true := decide_eq_true ⟨h0, h1⟩
   rw [dq]
   clear h0 h1 dq
   go_enter Tryz.func65, Tryz.ntmps65
   go_wp2_with fail
   go_ret
   exact ⟨rfl, rfl⟩
  ·have d1 : decide (z < 3) = false := decide_eq_false h1
   have dq : decide (0 ≤ z ∧ z < 3) = false := decide_eq_false (fun h => h1 h.2)
   rw [dq]
   clear h0 h1 dq
   go_enter Tryz.func65, Tryz.ntmps65
   go_wp2_with fail
   go_ret
   exact ⟨rfl, rfl⟩
 ·have d0 : decide ((0 : Int) ≤ z) = false := decide_eq_false h0
  have dq : decide (0 ≤ z ∧ z < 3) = false := decide_eq_false (fun h => h0 h.1)
  rw [dq]
  clear h0 dq
  go_enter Tryz.func65, Tryz.ntmps65
  go_wp2_with fail
  go_ret
  exact ⟨rfl, rfl⟩
theorem file_ok (a : Nat) (h : a < 3) (w : World) : Calls Tryz.prog 65 #[.int .i64 (a : Int)] w fun e w' => e = .returned (.bool true) ∧ w = w' := by
 have := file_is (a : Int) w
 rwa [decide_eq_true (show 0 ≤ (a : Int) ∧ (a : Int) < 3 by omega)] at this
theorem built_two (a b : Nat) : Tryz.prog.built 129 [(0, .int .i64 (a : Int)), (1, .int .i64 (b : Int))] = some #[.int .i64 (a : Int), .int .i64 (b : Int)] := by kernel_rfl
theorem built_slots (db a b bx : Nat) : Tryz.prog.built 133 [(0, .pointer (some ⟨db, 0, none⟩)), (1, .agg #[.int .i64 (a : Int), .int .i64 (b : Int)]), (2, .int .i64 (-1)), (5, .func (.func 105) #[] #[.pointer (some ⟨bx, 0, none⟩)])] = some (slA db a b ⟨-1, 0, []⟩ none 0 bx) := by kernel_rfl
theorem info2 (n : Nat) (h : n = 2) : (Tryz.prog.info? 129).map (·.size) = some n := by subst h; kernel_rfl
theorem slA_files {w : World} {sb db a b : Nat} {s : SS} {pb : Option Addr} {cb bx : Nat} {t : TypeId} {fr : Nat × Nat} (h : w.heap[sb]? = some (.cells (slA db a b s pb cb bx) t fr)) : w.rangeAt sb 1 [.int .i64 (a : Int), .int .i64 (b : Int)] := by
 obtain ⟨_, c1, c2, _⟩ := slA_cells h
 intro j v hv
 match j, hv with
 | 0, hv => cases hv; exact c1
 | 1, hv => cases hv; exact c2
def opK (d : DD) (a b k : Nat) : SS := if k = 0 then ⟨-1, 0, []⟩ else if k = 1 then bet ⟨-1, 0, []⟩ a (fD d a).now else opnS d a b
theorem bet_body {s : SS} {f : Nat} {l : List UInt8} (h : s.turn = 0 → s.body = []) : (bet s f l).turn = 0 → (bet s f l).body = [] := by
 unfold bet
 split
 ·rename_i hh
  intro h0
  have h0 : (loadP l).1 = 0 := h0
  omega
 ·exact h
theorem opn_body (d : DD) (a b : Nat) : (opnS d a b).turn = 0 → (opnS d a b).body = [] := bet_body (bet_body (fun _ => rfl))
def OpenP (base db a b : Nat) (d : DD) (w : World) (e : Ending) (w' : World) : Prop := ∃ sb, e = .returned (.tuple #[.pointer (some ⟨sb, 0, none⟩), .int .i64 0]) ∧ SX base sb db a b d (opnS d a b) w' ∧ Below w.heap.size w w'
set_option maxRecDepth 100000 in
set_option maxHeartbeats 3200000 in
theorem sopen_any {base db : Nat} {d : DD} (w : World) (hE : Rdr.EType w) (hX : DX base db d w) (a b : Nat) (ha : a < 3) (hb : b < 3) (hne : a ≠ b) (hdn : d.down = false) :
  Calls Tryz.prog 33 #[.pointer (some ⟨db, 0, none⟩), .int .i64 (a : Int), .int .i64 (b : Int)] w (OpenP base db a b d w) := by
 have HRM := Lib.hid (xroomS w hX)
 have HDN := Lib.hid (xdownS w hX)
 rw [hdn] at HDN
 have hr := hX.room.1
 have e1 : ((d.room : Int) == 0) = false := by rw [beq_eq_false_iff_ne]; omega
 have e2 : (d.room == 0) = false := by rw [beq_eq_false_iff_ne]; omega
 have e3 : ((a : Int) == (b : Int)) = false := by rw [beq_eq_false_iff_ne]; omega
 have e4 : (a == b) = false := by rw [beq_eq_false_iff_ne]; omega
 have HFA := Lib.hid ha
 have HFB := Lib.hid hb
 have HE := Lib.hid hE
 have HX := Lib.hid hX
 clear hE hX ha hb hne hdn hr
 go_enter Tryz.func33, Tryz.ntmps33
 go_wp2_with fail
 refine HRM.out.mono ?_
 rintro e w' ⟨rfl, rfl⟩
 go_wp2_with fail
 refine (file_ok a HFA.out w).mono ?_
 rintro e w' ⟨rfl, rfl⟩
 go_wp2_with fail
 refine (file_ok b HFB.out w).mono ?_
 rintro e w' ⟨rfl, rfl⟩
 go_wp2_with fail
 refine HDN.out.mono ?_
 rintro e w' ⟨rfl, rfl⟩
 clear HRM HDN
 go_wp2_with (refine Rdr.wpList_build rfl 129 _ rfl [(0, .int .i64 (a : Int)), (1, .int .i64 (b : Int))] rfl _ (built_two a b) ?_)
 refine (load_fn db w).mono ?_
 rintro e w1 ⟨rfl, rfl⟩
 go_upto_region 8 with (refine Rdr.wpList_build rfl 133 _ rfl [(0, .pointer (some ⟨db, 0, none⟩)), (1, .agg #[.int .i64 (a : Int), .int .i64 (b : Int)]), (2, .int .i64 (-1)), (5, .func (.func 105) #[] #[.pointer (some ⟨w.heap.size, 0, none⟩)])] rfl _ (built_slots db a b w.heap.size) ?_)
 obtain ⟨q1, q2, q3, q4⟩ := two_allocs w (.cells #[.pointer (some ⟨db, 0, none⟩)] 23) (.cells (slA db a b ⟨-1, 0, []⟩ none 0 w.heap.size) 133)
 have HS0 : Hid (SX base (w.heap.size + 1) db a b d ⟨-1, 0, []⟩ ((w.alloc (.cells #[.pointer (some ⟨db, 0, none⟩)] 23)).alloc (.cells (slA db a b ⟨-1, 0, []⟩ none 0 w.heap.size) 133))) :=
  ⟨HX.out.below q4, Nat.le_trans HX.out.1 (Nat.le_succ _), ⟨none, 0, w.heap.size, q2, Rd.of_own (World.ownsRow_nil _ _ _ _), q1⟩, by show 0 < _; omega, by show -1 ≤ (-1 : Int) ∧ (-1 : Int) ≤ 2; omega⟩
 have HB0 := Lib.hid q4
 have HRG := Lib.hid (slA_files q2)
 have HBS : Hid (base ≤ w.heap.size) := HX.out.1
 clear q1 q2 q3 q4 HX
 generalize (w.alloc (.cells #[.pointer (some ⟨db, 0, none⟩)] 23)).alloc (.cells (slA db a b ⟨-1, 0, []⟩ none 0 w.heap.size) 133) = w2 at *
 have HSB : Hid (w.heap.size ≤ w.heap.size + 1) := Nat.le_succ _
 generalize w.heap.size + 1 = sb at *
 go_wp2_with (refine wpList_load_mid rfl 129 _ rfl sb 1 rfl [.int .i64 (a : Int), .int .i64 (b : Int)] _ HRG.out Tryz.underlying129 rfl (info2 _ rfl) ?_)
 go_loopw [10, 11, 12, 46] (fun fv tv bv j wr => ∃ k : Nat, k ≤ 2 ∧ j = .int .i64 k ∧ SX base sb db a b d (opK d a b k) wr ∧ Below w.heap.size w wr) (fun _ _ _ j _ => 2 - (intOf j).toNat)
 case atStart => exact ⟨0, by omega, rfl, HS0.out, HB0.out⟩
 case round =>
  obtain ⟨k, hk, rfl, hs, hbw⟩ := hrel
  have HS := Lib.hid hs
  have HBW := Lib.hid hbw
  clear hs hbw
  by_cases k0 : k = 0
  ·subst k0
   have hd : decide (((0 : Nat) : Int) < (2 : Int)) = true := by decide
   have hix : ∀ w', (Instr.index 129 (.agg #[.int .i64 (a : Int), .int .i64 (b : Int)]) (.int .i64 0)).run Tryz.prog w' = .ok (.int .i64 (a : Int)) w' := fun w' => rfl
   have HFF := HFA.out
   obtain ⟨S0, hS0⟩ : ∃ S0, opK d a b 0 = S0 := ⟨_, rfl⟩
   have HOK : Hid (opK d a b 1 = bet S0 a (fD d a).now) := by show _ = _; rw [← hS0]; rfl
   rw [hS0] at HS
   clear hS0
   skip
   have hbx5 := HS.out.cells
   obtain ⟨pb, cb, bx, _, hbx, hrow⟩ := hbx5
   obtain ⟨_, _, _, _, _, _, c6⟩ := slA_cells hrow
   have HLD := Lib.hid (load_any (i := a) HFF wr (HE.out.below HBW.out HE.out.lt) HS.out.dx hbx)
   clear hbx hrow
   go_wp2_with fail
   refine HLD.out.mono ?_
   rintro e w5 ⟨p5, c5, rfl, ho5, hb5⟩
   have hs5 := HS.out.below hb5
   obtain ⟨pb5, cb5, bx5, _, _, hrow5⟩ := hs5.cells
   obtain ⟨_, _, _, _, c4, _⟩ := slA_cells hrow5
   have hfz : ∀ j, w5.frozen? ⟨sb, j, none⟩ = false := fun j => frozen_of_row _ _ _ _ _ hrow5
   have HS5 := Lib.hid hs5
   have HB5 := Lib.hid (HBW.out.trans (hb5.mono HBW.out.size))
   have HLT := Lib.hid (load_lt (fD d a).now)
   have HRD : Hid (Rd w5 base (.slice p5 (loadP (fD d a).now).2.length c5) (loadP (fD d a).now).2) := (Rd.of_own ho5).base (Nat.le_trans HBS.out HBW.out.size)
   clear hs5 hrow5 ho5 hb5 c6 HLD HS HBW
   by_cases hgt : S0.turn < (loadP (fD d a).now).1
   ·have d1 : decide ((S0.turn : Int) < ((loadP (fD d a).now).1 : Int)) = true := decide_eq_true (by omega)
    have d2 : decide (S0.turn < (loadP (fD d a).now).1) = true := decide_eq_true hgt
    have HNX : Hid (opK d a b 1 = ⟨(a : Int), (loadP (fD d a).now).1, (loadP (fD d a).now).2⟩) := by show _ = _; rw [HOK.out]; exact if_pos hgt
    clear hgt
    generalize loadP (fD d a).now = LP at *
    obtain ⟨LT, LB⟩ := LP
    have d3 : decide ((S0.turn : Int) < (LT : Int)) = true := d1
    have d4 : decide (S0.turn < LT) = true := d2
    clear d1 d2
    have hst := HS5.out.set3 (a : Int) (by omega) LT HLT.out p5 c5 LB HRD.out
    have HST := Lib.hid hst
    have HB6 := Lib.hid (HB5.out.trans (hst.2.2.below HB5.out.size (fun i hi => by have hi : i = sb := hi; have := HSB.out; omega)))
    clear hst
    go_wp2_with fail
    go_roundw
    case rel => exact ⟨1, by omega, by go_num, by rw [HNX.out]; exact HST.out.1, HB6.out⟩
    case measure => simp [intOf]
   ·have d1 : decide ((S0.turn : Int) < ((loadP (fD d a).now).1 : Int)) = false := decide_eq_false (by omega)
    have d2 : decide (S0.turn < (loadP (fD d a).now).1) = false := decide_eq_false hgt
    have HNX : Hid (opK d a b 1 = S0) := by show _ = _; rw [HOK.out]; exact if_neg hgt
    clear hgt
    generalize loadP (fD d a).now = LP at *
    go_wp2_with fail
    go_roundw
    case rel => exact ⟨1, by omega, by go_num, by rw [HNX.out]; exact HS5.out, HB5.out⟩
    case measure => simp [intOf]
  ·by_cases k1 : k = 1
   ·subst k1
    have hd : decide (((1 : Nat) : Int) < (2 : Int)) = true := by decide
    have hix : ∀ w', (Instr.index 129 (.agg #[.int .i64 (a : Int), .int .i64 (b : Int)]) (.int .i64 1)).run Tryz.prog w' = .ok (.int .i64 (b : Int)) w' := fun w' => rfl
    have HFF := HFB.out
    obtain ⟨S0, hS0⟩ : ∃ S0, opK d a b 1 = S0 := ⟨_, rfl⟩
    have HOK : Hid (opK d a b 2 = bet S0 b (fD d b).now) := by show _ = _; rw [← hS0]; rfl
    rw [hS0] at HS
    clear hS0 k0
    skip
    have hbx5 := HS.out.cells
    obtain ⟨pb, cb, bx, _, hbx, hrow⟩ := hbx5
    obtain ⟨_, _, _, _, _, _, c6⟩ := slA_cells hrow
    have HLD := Lib.hid (load_any (i := b) HFF wr (HE.out.below HBW.out HE.out.lt) HS.out.dx hbx)
    clear hbx hrow
    go_wp2_with fail
    refine HLD.out.mono ?_
    rintro e w5 ⟨p5, c5, rfl, ho5, hb5⟩
    have hs5 := HS.out.below hb5
    obtain ⟨pb5, cb5, bx5, _, _, hrow5⟩ := hs5.cells
    obtain ⟨_, _, _, _, c4, _⟩ := slA_cells hrow5
    have hfz : ∀ j, w5.frozen? ⟨sb, j, none⟩ = false := fun j => frozen_of_row _ _ _ _ _ hrow5
    have HS5 := Lib.hid hs5
    have HB5 := Lib.hid (HBW.out.trans (hb5.mono HBW.out.size))
    have HLT := Lib.hid (load_lt (fD d b).now)
    have HRD : Hid (Rd w5 base (.slice p5 (loadP (fD d b).now).2.length c5) (loadP (fD d b).now).2) := (Rd.of_own ho5).base (Nat.le_trans HBS.out HBW.out.size)
    clear hs5 hrow5 ho5 hb5 c6 HLD HS HBW
    by_cases hgt : S0.turn < (loadP (fD d b).now).1
    ·have d1 : decide ((S0.turn : Int) < ((loadP (fD d b).now).1 : Int)) = true := decide_eq_true (by omega)
     have d2 : decide (S0.turn < (loadP (fD d b).now).1) = true := decide_eq_true hgt
     have HNX : Hid (opK d a b 2 = ⟨(b : Int), (loadP (fD d b).now).1, (loadP (fD d b).now).2⟩) := by show _ = _; rw [HOK.out]; exact if_pos hgt
     clear hgt
     generalize loadP (fD d b).now = LP at *
     obtain ⟨LT, LB⟩ := LP
     have d3 : decide ((S0.turn : Int) < (LT : Int)) = true := d1
     have d4 : decide (S0.turn < LT) = true := d2
     clear d1 d2
     have hst := HS5.out.set3 (b : Int) (by omega) LT HLT.out p5 c5 LB HRD.out
     have HST := Lib.hid hst
     have HB6 := Lib.hid (HB5.out.trans (hst.2.2.below HB5.out.size (fun i hi => by have hi : i = sb := hi; have := HSB.out; omega)))
     clear hst
     go_wp2_with fail
     go_roundw
     case rel => exact ⟨2, by omega, by go_num, by rw [HNX.out]; exact HST.out.1, HB6.out⟩
     case measure => simp [intOf]
    ·have d1 : decide ((S0.turn : Int) < ((loadP (fD d b).now).1 : Int)) = false := decide_eq_false (by omega)
     have d2 : decide (S0.turn < (loadP (fD d b).now).1) = false := decide_eq_false hgt
     have HNX : Hid (opK d a b 2 = S0) := by show _ = _; rw [HOK.out]; exact if_neg hgt
     clear hgt
     generalize loadP (fD d b).now = LP at *
     go_wp2_with fail
     go_roundw
     case rel => exact ⟨2, by omega, by go_num, by rw [HNX.out]; exact HS5.out, HB5.out⟩
     case measure => simp [intOf]
   ·obtain rfl : k = 2 := by omega
    have hd : decide (((2 : Nat) : Int) < (2 : Int)) = false := by decide
    have HSE : Hid (SX base sb db a b d (opnS d a b) wr) := HS.out
    clear k0 k1
    go_wp2_with fail
    go_ret2
    exact ⟨sb, rfl, HSE.out, HBW.out⟩
end Go.Proofs.YtnejjfglkindjaaGreatDoor.Slt
namespace Go.Proofs.YtnejjfglkindjaaGreatDoor.Vlt
open Go.RowKit Go.Mir Go.Mir.Parts Dk Rol Wr Slt
def OddAt (w : World) (ob : Nat) : Prop := w.heap[ob]? = some (.cells #[.iface 25 (.int .i64 4)] 140 (0, 0))
def SplP (b : List UInt8) (least : Nat) (w : World) (e : Ending) (w' : World) : Prop := Below w.heap.size w w' ∧
 ((8 + least ≤ b.length ∧ ∃ p c, e = .returned (.tuple #[.int .u64 (Rdr.beN (b.take 8) : Int), .slice p (b.drop 8).length c, .nilIface]) ∧ w'.ownsRow w.heap.size 5 1 (.slice p (b.drop 8).length c) (b.drop 8).length (bytesV (b.drop 8))) ∨
  (¬ 8 + least ≤ b.length ∧ ∃ ob, e = .returned (.tuple #[.int .u64 0, .slice none 0 0, .iface 94 (.pointer (some ⟨ob, 0, none⟩))]) ∧ w.heap.size ≤ ob ∧ OddAt w' ob))
theorem built_odd : Tryz.prog.built 140 [(0, .iface 25 (.int .i64 4))] = some #[.iface 25 (.int .i64 4)] := by kernel_rfl
set_option maxRecDepth 100000 in
set_option maxHeartbeats 1600000 in
theorem split_any (p : Option Addr) (c : Nat) (X : List UInt8) (least : Nat) (hle : least ≤ 1) (w : World) (hE : Rdr.EType w) (hB : Bs w p X.length c X) (hx : X.length ≤ 140737488355328) :
  Calls Tryz.prog 69 #[.slice p X.length c, .int .i64 (least : Int)] w (SplP X least w) := by
 have HE := Lib.hid hE
 have HX65 := Lib.hid hx
 have HNW := Lib.hid (Rdr.new_any w p X.length c X hB hx)
 clear hE hB hx
 go_enter Tryz.func69, Tryz.ntmps69
 go_wp2_with fail
 refine HNW.out.mono ?_
 rintro e w3 ⟨rb, rfl, hr3, hb3⟩
 have HB3 := Lib.hid hb3
 have HR3 := Lib.hid hr3
 have HNM := Lib.hid (Rdr.num_any w3 hr3 8 (by omega))
 clear hr3 hb3 HNW
 go_wp2_with fail
 refine HNM.out.mono ?_
 rintro e w4 ⟨rfl, hl4⟩
 have hb4 := HB3.out.trans (hl4.belowB HR3.out (Nat.le_refl _))
 have HB4 := Lib.hid hb4
 have HR4 := Lib.hid hl4.there
 clear hl4 hb4 HNM HR3 HB3
 have HER := Lib.hid (Rdr.err_any w4 HR4.out (HE.out.below HB4.out HE.out.lt))
 by_cases h8 : 8 ≤ X.length
 ·obtain ⟨q1, q2⟩ := num8_in h8
  rw [q2] at HER HR4
  rw [q1]
  have HRS := Lib.hid (rest8 h8)
  have HDL : Hid ((X.drop 8).length = X.length - 8) := List.length_drop
  have hz : ((⟨X, 8, none⟩ : Rdr.RD).err != 0) = false := rfl
  clear q1 q2
  by_cases hl : 8 + least ≤ X.length
  ·have hd1 : decide (((X.length - 8 : Nat) : Int) < (least : Int)) = false := decide_eq_false (by omega)
   have hd2 : decide (X.length - 8 < least) = false := decide_eq_false (by omega)
   have HYS : Hid (∀ p c w', w'.ownsRow w.heap.size 5 1 (.slice p (X.drop 8).length c) (X.drop 8).length (bytesV (X.drop 8)) → Below w.heap.size w w' → SplP X least w (.returned (.tuple #[.int .u64 (Rdr.beN (X.take 8) : Int), .slice p (X.drop 8).length c, .nilIface])) w') := fun p c w' ho hb => ⟨hb, .inl ⟨hl, p, c, rfl, ho⟩⟩
   clear h8 hl hle
   generalize Rdr.beN (X.take 8) = TN at *
   generalize X.drop 8 = RB at *
   go_wp2_with fail
   refine HER.out.mono ?_
   rintro e w5 ⟨rfl, hb5⟩
   have HR5 := Lib.hid (HR4.out.below hb5)
   have HB5 := Lib.hid (HB4.out.trans (hb5.mono HB4.out.size))
   have HLF := Lib.hid (Rdr.left_any w5 HR5.out)
   clear hb5 HER HR4 HB4
   go_wp2_with fail
   refine HLF.out.mono ?_
   rintro e w6 ⟨rfl, hb6⟩
   have HR6 := Lib.hid (HR5.out.below hb6)
   have HB6 := Lib.hid (HB5.out.trans (hb6.mono HB5.out.size))
   have HLF := Lib.hid (Rdr.left_any w6 HR6.out)
   clear hb6 HR5 HB5
   go_wp2_with fail
   refine HLF.out.mono ?_
   rintro e w7 ⟨rfl, hb7⟩
   have hby := Rdr.bytes_any w7 (HR6.out.below hb7) ((X.length - 8 : Nat) : Int) (by have := HX65.out; omega)
   unfold Rdr.BytesP at hby
   rw [HRS.out] at hby
   have HBY := Lib.hid hby
   have HR7 := Lib.hid (HR6.out.below hb7)
   have HB7 := Lib.hid (HB6.out.trans (hb7.mono HB6.out.size))
   clear hb7 hby HLF HR6 HB6
   go_wp2_with fail
   refine HBY.out.mono ?_
   rintro e w8 ⟨p7, c7, rfl, ho7, hl7⟩
   have HB8 := Lib.hid (HB7.out.trans (hl7.belowB HR7.out (Nat.le_refl _)))
   have HO8 := Lib.hid (own_base ho7 (fun k hk => Nat.le_trans HB7.out.size (own_ge ho7 k hk)))
   clear ho7 hl7
   go_wp2_with fail
   refine bodyPost_ret (Frm.results_tmp3 rfl _ _) rfl ?_
   exact HYS.out p7 c7 _ HO8.out HB8.out
  ·have hd1 : decide (((X.length - 8 : Nat) : Int) < (least : Int)) = true := decide_eq_true (by omega)
   have hd2 : decide (X.length - 8 < least) = true := decide_eq_true (by omega)
   have HNE : Hid (¬ 8 + least ≤ X.length) := hl
   clear h8 hl hle
   generalize Rdr.beN (X.take 8) = TN at *
   go_wp2_with fail
   refine HER.out.mono ?_
   rintro e w5 ⟨rfl, hb5⟩
   have HR5 := Lib.hid (HR4.out.below hb5)
   have HB5 := Lib.hid (HB4.out.trans (hb5.mono HB4.out.size))
   have HLF := Lib.hid (Rdr.left_any w5 HR5.out)
   clear hb5 HER HR4 HB4
   go_wp2_with fail
   refine HLF.out.mono ?_
   rintro e w6 ⟨rfl, hb6⟩
   have HBX := Lib.hid (HB5.out.trans (hb6.mono HB5.out.size))
   clear hb6 HLF
   skip
   have hBU := built_odd
   have HOB := Lib.hid (heap_alloc_last w6 (.cells #[.iface 25 (.int .i64 4)] 140))
   have HBY := Lib.hid (HBX.out.trans ((Below.allocs w6 (.cells #[.iface 25 (.int .i64 4)] 140)).mono HBX.out.size))
   have HSX := Lib.hid HBX.out.size
   go_wp2_with (refine Rdr.wpList_build rfl 140 _ rfl [(0, .iface 25 (.int .i64 4))] rfl _ hBU ?_)
   refine bodyPost_ret (Frm.results_tmp3 rfl _ _) rfl ?_
   exact ⟨HBY.out, .inr ⟨HNE.out, _, rfl, HSX.out, HOB.out⟩⟩
 ·have q2 := num8_out h8
  have HNE : Hid (¬ 8 + least ≤ X.length) := by show ¬ _; omega
  rw [q2] at HER
  clear q2 h8 hle
  generalize (Rdr.RD.new X).numV 8 = TN at *
  go_wp2_with fail
  refine HER.out.mono ?_
  rintro e w5 ⟨rfl, hb5⟩
  have HBX := Lib.hid (HB4.out.trans (hb5.mono HB4.out.size))
  clear hb5 HER
  skip
  have hBU := built_odd
  have HOB := Lib.hid (heap_alloc_last w5 (.cells #[.iface 25 (.int .i64 4)] 140))
  have HBY := Lib.hid (HBX.out.trans ((Below.allocs w5 (.cells #[.iface 25 (.int .i64 4)] 140)).mono HBX.out.size))
  have HSX := Lib.hid HBX.out.size
  go_wp2_with (refine Rdr.wpList_build rfl 140 _ rfl [(0, .iface 25 (.int .i64 4))] rfl _ hBU ?_)
  refine bodyPost_ret (Frm.results_tmp3 rfl _ _) rfl ?_
  exact ⟨HBY.out, .inr ⟨HNE.out, _, rfl, HSX.out, HOB.out⟩⟩
set_option maxRecDepth 100000 in
set_option maxHeartbeats 1600000 in
theorem join_any (t : Nat) (ht : t < 18446744073709551616) (p : Option Addr) (c : Nat) (x : List UInt8) (w : World) (hB : Bs w p x.length c x) (hx : x.length ≤ 900000) :
  Calls Tryz.prog 41 #[.int .u64 (t : Int), .slice p x.length c] w fun e w' => ∃ p' c', e = .returned (.slice p' (be t 8 ++ x).length c') ∧ w'.ownsRow w.heap.size 5 1 (.slice p' (be t 8 ++ x).length c') (be t 8 ++ x).length (bytesV (be t 8 ++ x)) ∧ Below w.heap.size w w' := by
 have HB := Lib.hid hB
 have HXL := Lib.hid hx
 obtain ⟨E, hE⟩ : ∃ E, be t 8 ++ x = E := ⟨_, rfl⟩
 have HL : Hid (E.length = 8 + x.length) := by show _ = _; rw [← hE, List.length_append, be_length]
 rw [hE]
 have HEE := Lib.hid hE
 have HWN := Lib.hid (Cod.ws_new w w (Below.refl _ _) (8 + x.length) (by omega))
 have hcs : ((8 + x.length : Nat) : Int) = (8 : Int) + (x.length : Int) := by omega
 rw [hcs] at HWN
 clear hB hE hcs
 go_enter Tryz.func41, Tryz.ntmps41
 go_wp2_with fail
 refine HWN.out.mono ?_
 rintro e w2 ⟨rfl, hs2, -⟩
 have HS2 := Lib.hid hs2
 clear hs2
 go_wp2_with fail
 refine (Cod.ws_num HS2.out (by have := HXL.out; omega) t 8 (by omega) (by omega) (by omega) ht).mono ?_
 rintro e w3 ⟨rfl, hs3⟩
 have HS3 := Lib.hid hs3
 clear hs3 HS2
 go_wp2_with fail
 refine (Cod.ws_bytes HS3.out (by have := HXL.out; omega) p x.length c x HB.out (by have := HXL.out; omega)).mono ?_
 rintro e w4 ⟨rfl, hs4⟩
 rw [List.nil_append, HEE.out] at hs4
 have HS4 := Lib.hid hs4
 clear hs4 HS3 HEE
 go_wp2_with fail
 refine (Cod.ws_done HS4.out (by have := HXL.out; omega) (by have := HL.out; omega)).mono ?_
 rintro e w5 ⟨⟨p5, c5, rfl, ho5⟩, hs5, hb5⟩
 have HS5 := Lib.hid hs5.low
 have HS4L := Lib.hid HS4.out.low
 have HO5 := Lib.hid (own_base ho5 (fun k hk => Nat.le_trans HS4L.out.size (own_ge ho5 k hk)))
 clear ho5 hs5 hb5 HS4
 go_wp2_with fail
 go_ret
 exact ⟨p5, c5, rfl, HO5.out, HS5.out⟩
end Go.Proofs.YtnejjfglkindjaaGreatDoor.Vlt
namespace Go.Proofs.YtnejjfglkindjaaGreatDoor.Slt
open Go.RowKit Go.Mir Go.Mir.Parts Dk Rol
structure Env (base sb db bs bf bb f : Nat) (y : List UInt8) (w : World) : Prop where
 hs : w.heap[bs]? = some (.cells #[.pointer (some ⟨sb, 0, none⟩)] 29 (0, 0))
 hf : w.heap[bf]? = some (.cells #[.int .i64 (f : Int)] 3 (0, 0))
 hb : ∃ p c, w.heap[bb]? = some (.cells #[.slice p y.length c] 22 (0, 0)) ∧ Rd w base (.slice p y.length c) y
 hd : ∃ M, w.heap[sb]? = some (.cells M 133 (0, 0)) ∧ M[0]? = some (.pointer (some ⟨db, 0, none⟩))
theorem Env.kt {base sb db bs bf bb f : Nat} {y : List UInt8} {w w' : World} (h : Env base sb db bs bf bb f y w) (hk : KT base w w') : Env base sb db bs bf bb f y w' := by
 obtain ⟨p, c, h1, h2⟩ := h.hb
 obtain ⟨M, h3, h4⟩ := h.hd
 exact ⟨hk.row h.hs (by decide) (by decide), hk.row h.hf (by decide) (by decide), ⟨p, c, hk.row h1 (by decide) (by decide), h2.touch hk kt_no8⟩, ⟨M, hk.row h3 (by decide) (by decide), h4⟩⟩
theorem Env.cells {base sb db bs bf bb f : Nat} {y : List UInt8} {w : World} (h : Env base sb db bs bf bb f y w) : w.cell? ⟨bs, 0, none⟩ = some (.pointer (some ⟨sb, 0, none⟩)) ∧ w.cell? ⟨bf, 0, none⟩ = some (.int .i64 (f : Int)) ∧ w.cell? ⟨sb, 0, none⟩ = some (.pointer (some ⟨db, 0, none⟩)) := by
 obtain ⟨M, h3, h4⟩ := h.hd
 refine ⟨by rw [cell_of_row _ _ _ _ _ _ h.hs]; rfl, by rw [cell_of_row _ _ _ _ _ _ h.hf]; rfl, by rw [cell_of_row _ _ _ _ _ _ h3]; exact h4⟩
set_option maxRecDepth 100000 in
set_option maxHeartbeats 1600000 in
theorem cut_clo {base sb db bs bf bb f : Nat} {d : DD} {y0 : List UInt8} (w : World) (hf : f < 3) (h : Env base sb db bs bf bb f y0 w) (hX : DX base db d w) (hfew : (fD d f).steps.length + 1 ≤ 4398046511104) :
  Calls Tryz.prog 86 #[.pointer (some ⟨bs, 0, none⟩), .pointer (some ⟨bf, 0, none⟩)] w (StP base db (stpE d f .cut) (stpD d f .cut) w) := by
 have HEV := Lib.hid h
 have HC : Hid (∀ y, Below w.heap.size w y → Calls Tryz.prog 87 #[.pointer (some ⟨db, 0, none⟩), .int .i64 (f : Int), .int .i64 0] y (StP base db (stpE d f .cut) (stpD d f .cut) y)) := fun y hy => xcut y (hX.below hy) f hf 0 (Nat.zero_le _) hfew
 have HC0 : Hid (∀ w', KT base w w' → w'.cell? ⟨bs, 0, none⟩ = some (.pointer (some ⟨sb, 0, none⟩))) := fun w' hk => (HEV.out.kt hk).cells.1
 have HC1 : Hid (∀ w', KT base w w' → w'.cell? ⟨bf, 0, none⟩ = some (.int .i64 (f : Int))) := fun w' hk => (HEV.out.kt hk).cells.2.1
 have HC2 : Hid (∀ w', KT base w w' → w'.cell? ⟨sb, 0, none⟩ = some (.pointer (some ⟨db, 0, none⟩))) := fun w' hk => (HEV.out.kt hk).cells.2.2
 clear h hX hfew
 generalize stpE d f .cut = EV at *
 generalize stpD d f .cut = DV at *
 go_enter Tryz.func86, Tryz.ntmps86
 go_upto_region 1 with fail
 refine wp_region_eager_in (KT base w) [(0, true), (1, true), (2, true), (3, true), (4, true), (5, false), (6, true)] (by kernel_rfl) (by kernel_rfl) ?_ (eagerOpen rfl ?_)
 ·exact KT.of_below (below_drew1 _ _)
 have hy0 : Below w.heap.size w w.drew := below_drew1 _ _
 repeat (first
  | ((first | (apply wpEager_take; (· rfl); (· (intro w' hb'; go_simp; try with_reducible rfl))) | refine wpEager_skip (by rfl) ?_ | refine wpEager_off (by rfl) ?_); (try simp only [Act.put, zA, zB, zC]); (try refine eagerOpen rfl ?_))
  | (apply wpEager_take; (· rfl); (· (intro w' hb'; have hk' := (fun w' hk => HC0.out w' hk) w' hb'; go_split_ands; go_simp; try with_reducible rfl)); (try simp only [Act.put, zA, zB, zC]); (try refine eagerOpen rfl ?_))
  | (apply wpEager_take; (· rfl); (· (intro w' hb'; have hk' := (fun w' hk => HC1.out w' hk) w' hb'; go_split_ands; go_simp; try with_reducible rfl)); (try simp only [Act.put, zA, zB, zC]); (try refine eagerOpen rfl ?_))
  | (apply wpEager_take; (· rfl); (· (intro w' hb'; have hk' := (fun w' hk => HC2.out w' hk) w' hb'; go_split_ands; go_simp; try with_reducible rfl)); (try simp only [Act.put, zA, zB, zC]); (try refine eagerOpen rfl ?_)))
 skip
 (refine wpEager_op (by rfl) (fun K hK => ?_); go_simp; (refine (HC.out _ hy0).mono ?_; rintro e y ⟨rfl, hdx, hkt⟩; have hyk := (KT.of_below hy0).trans hkt); refine Shut.out hK _ _ (by assumption) ?_; clear hK K; (try simp only [Act.put, zA, zB, zC]); (try refine eagerOpen rfl ?_))
 repeat (first
  | ((first | (apply wpEager_take; (· rfl); (· (intro w' hb'; go_simp; try with_reducible rfl))) | refine wpEager_skip (by rfl) ?_ | refine wpEager_off (by rfl) ?_); (try simp only [Act.put, zA, zB, zC]); (try refine eagerOpen rfl ?_)))
 refine eagerEnd ?_
 have HDX := Lib.hid hdx
 have HKT := Lib.hid hyk
 clear hdx hkt hyk hy0 HC0 HC1 HC2 HC
 go_wp2_with fail
 go_ret
 exact ⟨rfl, HDX.out, HKT.out⟩
set_option maxRecDepth 100000 in
set_option maxHeartbeats 1600000 in
theorem sync_clo {base sb db bs bf bb f : Nat} {d : DD} {y0 : List UInt8} (w : World) (hf : f < 3) (h : Env base sb db bs bf bb f y0 w) (hX : DX base db d w) :
  Calls Tryz.prog 88 #[.pointer (some ⟨bs, 0, none⟩), .pointer (some ⟨bf, 0, none⟩)] w (StP base db (stpE d f .sync) (stpD d f .sync) w) := by
 have HEV := Lib.hid h
 have HC : Hid (∀ y, Below w.heap.size w y → Calls Tryz.prog 79 #[.pointer (some ⟨db, 0, none⟩), .int .i64 (f : Int)] y (StP base db (stpE d f .sync) (stpD d f .sync) y)) := fun y hy => xsync y (hX.below hy) f hf
 have HC0 : Hid (∀ w', KT base w w' → w'.cell? ⟨bs, 0, none⟩ = some (.pointer (some ⟨sb, 0, none⟩))) := fun w' hk => (HEV.out.kt hk).cells.1
 have HC1 : Hid (∀ w', KT base w w' → w'.cell? ⟨bf, 0, none⟩ = some (.int .i64 (f : Int))) := fun w' hk => (HEV.out.kt hk).cells.2.1
 have HC2 : Hid (∀ w', KT base w w' → w'.cell? ⟨sb, 0, none⟩ = some (.pointer (some ⟨db, 0, none⟩))) := fun w' hk => (HEV.out.kt hk).cells.2.2
 clear h hX
 generalize stpE d f .sync = EV at *
 generalize stpD d f .sync = DV at *
 go_enter Tryz.func88, Tryz.ntmps88
 go_upto_region 1 with fail
 refine wp_region_eager_in (KT base w) [(0, true), (1, true), (2, true), (3, true), (4, true), (5, false), (6, true)] (by kernel_rfl) (by kernel_rfl) ?_ (eagerOpen rfl ?_)
 ·exact KT.of_below (below_drew1 _ _)
 have hy0 : Below w.heap.size w w.drew := below_drew1 _ _
 repeat (first
  | ((first | (apply wpEager_take; (· rfl); (· (intro w' hb'; go_simp; try with_reducible rfl))) | refine wpEager_skip (by rfl) ?_ | refine wpEager_off (by rfl) ?_); (try simp only [Act.put, zA, zB, zC]); (try refine eagerOpen rfl ?_))
  | (apply wpEager_take; (· rfl); (· (intro w' hb'; have hk' := (fun w' hk => HC0.out w' hk) w' hb'; go_split_ands; go_simp; try with_reducible rfl)); (try simp only [Act.put, zA, zB, zC]); (try refine eagerOpen rfl ?_))
  | (apply wpEager_take; (· rfl); (· (intro w' hb'; have hk' := (fun w' hk => HC1.out w' hk) w' hb'; go_split_ands; go_simp; try with_reducible rfl)); (try simp only [Act.put, zA, zB, zC]); (try refine eagerOpen rfl ?_))
  | (apply wpEager_take; (· rfl); (· (intro w' hb'; have hk' := (fun w' hk => HC2.out w' hk) w' hb'; go_split_ands; go_simp; try with_reducible rfl)); (try simp only [Act.put, zA, zB, zC]); (try refine eagerOpen rfl ?_)))
 skip
 (refine wpEager_op (by rfl) (fun K hK => ?_); go_simp; (refine (HC.out _ hy0).mono ?_; rintro e y ⟨rfl, hdx, hkt⟩; have hyk := (KT.of_below hy0).trans hkt); refine Shut.out hK _ _ (by assumption) ?_; clear hK K; (try simp only [Act.put, zA, zB, zC]); (try refine eagerOpen rfl ?_))
 repeat (first
  | ((first | (apply wpEager_take; (· rfl); (· (intro w' hb'; go_simp; try with_reducible rfl))) | refine wpEager_skip (by rfl) ?_ | refine wpEager_off (by rfl) ?_); (try simp only [Act.put, zA, zB, zC]); (try refine eagerOpen rfl ?_)))
 refine eagerEnd ?_
 have HDX := Lib.hid hdx
 have HKT := Lib.hid hyk
 clear hdx hkt hyk hy0 HC0 HC1 HC2 HC
 go_wp2_with fail
 go_ret
 exact ⟨rfl, HDX.out, HKT.out⟩
set_option maxRecDepth 100000 in
set_option maxHeartbeats 1600000 in
theorem put_clo {base sb db bs bf bb f : Nat} {d : DD} {y0 : List UInt8} (w : World) (hf : f < 3) (h : Env base sb db bs bf bb f y0 w) (hX : DX base db d w) (hy : y0.length ≤ 140737488355328) (hfew : (fD d f).steps.length + 1 ≤ 4398046511104) :
  Calls Tryz.prog 89 #[.pointer (some ⟨bs, 0, none⟩), .pointer (some ⟨bf, 0, none⟩), .pointer (some ⟨bb, 0, none⟩)] w (StP base db (stpE d f (.put y0)) (stpD d f (.put y0)) w) := by
 have HEV := Lib.hid h
 obtain ⟨pb, cb, hbb, hrd⟩ := h.hb
 obtain ⟨p', c', e1, hbs⟩ := hrd.bs
 cases e1
 have HC : Hid (∀ y, Below w.heap.size w y → Calls Tryz.prog 24 #[.pointer (some ⟨db, 0, none⟩), .int .i64 (f : Int), .slice pb y0.length cb] y (StP base db (stpE d f (.put y0)) (stpD d f (.put y0)) y)) := fun y hy' => xappend y (hX.below hy') f hf pb y0.length cb y0 (hbs.below hy') hy hfew
 have HC3 : Hid (∀ w', KT base w w' → w'.cell? ⟨bb, 0, none⟩ = some (.slice pb y0.length cb)) := fun w' hk => by rw [cell_of_row _ _ _ _ _ _ (hk.row hbb (by decide) (by decide))]; rfl
 have HC0 : Hid (∀ w', KT base w w' → w'.cell? ⟨bs, 0, none⟩ = some (.pointer (some ⟨sb, 0, none⟩))) := fun w' hk => (HEV.out.kt hk).cells.1
 have HC1 : Hid (∀ w', KT base w w' → w'.cell? ⟨bf, 0, none⟩ = some (.int .i64 (f : Int))) := fun w' hk => (HEV.out.kt hk).cells.2.1
 have HC2 : Hid (∀ w', KT base w w' → w'.cell? ⟨sb, 0, none⟩ = some (.pointer (some ⟨db, 0, none⟩))) := fun w' hk => (HEV.out.kt hk).cells.2.2
 clear h hX hfew hbs hrd hbb hy
 generalize stpE d f (.put y0) = EV at *
 generalize stpD d f (.put y0) = DV at *
 go_enter Tryz.func89, Tryz.ntmps89
 go_upto_region 1 with fail
 refine wp_region_eager_in (KT base w) [(0, true), (1, true), (2, true), (3, true), (4, true), (5, true), (6, false), (7, true)] (by kernel_rfl) (by kernel_rfl) ?_ (eagerOpen rfl ?_)
 ·exact KT.of_below (below_drew1 _ _)
 have hy0 : Below w.heap.size w w.drew := below_drew1 _ _
 repeat (first
  | ((first | (apply wpEager_take; (· rfl); (· (intro w' hb'; go_simp; try with_reducible rfl))) | refine wpEager_skip (by rfl) ?_ | refine wpEager_off (by rfl) ?_); (try simp only [Act.put, zA, zB, zC]); (try refine eagerOpen rfl ?_))
  | (apply wpEager_take; (· rfl); (· (intro w' hb'; have hk' := (fun w' hk => HC0.out w' hk) w' hb'; go_split_ands; go_simp; try with_reducible rfl)); (try simp only [Act.put, zA, zB, zC]); (try refine eagerOpen rfl ?_))
  | (apply wpEager_take; (· rfl); (· (intro w' hb'; have hk' := (fun w' hk => HC1.out w' hk) w' hb'; go_split_ands; go_simp; try with_reducible rfl)); (try simp only [Act.put, zA, zB, zC]); (try refine eagerOpen rfl ?_))
  | (apply wpEager_take; (· rfl); (· (intro w' hb'; have hk' := (fun w' hk => HC2.out w' hk) w' hb'; go_split_ands; go_simp; try with_reducible rfl)); (try simp only [Act.put, zA, zB, zC]); (try refine eagerOpen rfl ?_))
  | (apply wpEager_take; (· rfl); (· (intro w' hb'; have hk' := (fun w' hk => HC3.out w' hk) w' hb'; go_split_ands; go_simp; try with_reducible rfl)); (try simp only [Act.put, zA, zB, zC]); (try refine eagerOpen rfl ?_)))
 skip
 (refine wpEager_op (by rfl) (fun K hK => ?_); go_simp; (refine (HC.out _ hy0).mono ?_; rintro e y ⟨rfl, hdx, hkt⟩; have hyk := (KT.of_below hy0).trans hkt); refine Shut.out hK _ _ (by assumption) ?_; clear hK K; (try simp only [Act.put, zA, zB, zC]); (try refine eagerOpen rfl ?_))
 repeat (first
  | ((first | (apply wpEager_take; (· rfl); (· (intro w' hb'; go_simp; try with_reducible rfl))) | refine wpEager_skip (by rfl) ?_ | refine wpEager_off (by rfl) ?_); (try simp only [Act.put, zA, zB, zC]); (try refine eagerOpen rfl ?_)))
 refine eagerEnd ?_
 have HDX := Lib.hid hdx
 have HKT := Lib.hid hyk
 clear hdx hkt hyk hy0 HC0 HC1 HC2 HC
 go_wp2_with fail
 go_ret
 exact ⟨rfl, HDX.out, HKT.out⟩
def fnV (bs bf bb : Nat) : LA → Value
 | .cut => .func (.func 86) #[] #[.pointer (some ⟨bs, 0, none⟩), .pointer (some ⟨bf, 0, none⟩)]
 | .sync => .func (.func 88) #[] #[.pointer (some ⟨bs, 0, none⟩), .pointer (some ⟨bf, 0, none⟩)]
 | .put _ => .func (.func 89) #[] #[.pointer (some ⟨bs, 0, none⟩), .pointer (some ⟨bf, 0, none⟩), .pointer (some ⟨bb, 0, none⟩)]
theorem few_take {f : FD} {s : St} {N : Nat} (h : f.steps.length ≤ N) : (f.take s).steps.length ≤ N + 1 := by
 show (f.steps ++ [s]).length ≤ _
 rw [List.length_append]
 simp; omega
theorem few_set {d : DD} {i k : Nat} {f : FD} {N : Nat} (h : ∀ j, (fD d j).steps.length ≤ N) (hf : f.steps.length ≤ N) : (fD (setF d i f) k).steps.length ≤ N := by
 by_cases hk : i = k
 ·subst hk
  by_cases hl : i < d.fs.length
  ·rw [fD_set hl]; exact hf
  ·have : fD (setF d i f) i = FD.none := by
    unfold fD setF
    rw [List.getElem?_eq_none (by rw [List.length_set]; omega)]; rfl
   rw [this]; exact Nat.zero_le _
 ·rw [fD_other hk]; exact h k
theorem fD_burn (d : DD) (k : Nat) : fD d.burn k = fD d k := by unfold fD; rw [burn_fs]
theorem few_do {d : DD} {i : Nat} {s : St} {N : Nat} (h : ∀ j, (fD d j).steps.length ≤ N) (k : Nat) : (fD (doD d i (fD d i) s) k).steps.length ≤ N + 1 := by
 unfold doD
 split
 ·have := h k; omega
 ·split
  ·have := h k; omega
  ·rw [fD_burn]
   exact few_set (fun j => by have := h j; omega) (few_take (h i))
theorem few_syn {d : DD} {i : Nat} {N : Nat} (h : ∀ j, (fD d j).steps.length ≤ N) (k : Nat) : (fD (syncD d i (fD d i)) k).steps.length ≤ N + 1 := by
 unfold syncD
 split
 ·have := h k; omega
 ·split
  ·rw [fD_burn]; have := h k; omega
  ·exact few_set (fun j => by rw [fD_burn]; have := h j; omega) (Nat.zero_le _)
theorem few_stp {d : DD} {i : Nat} {a : LA} {N : Nat} (h : ∀ j, (fD d j).steps.length ≤ N) (k : Nat) : (fD (stpD d i a) k).steps.length ≤ N + 1 := by
 cases a with
 | cut => exact few_do h k
 | sync => exact few_syn h k
 | put b => exact few_do h k
set_option maxRecDepth 100000 in
set_option maxHeartbeats 3200000 in
theorem lay_any {base sb db bs bf bb f gl N : Nat} {d : DD} {y : List UInt8} (l : List LA) (w : World) (hf : f < 3) (h : Env base sb db bs bf bb f y w) (hX : DX base db d w) (hl : l.length ≤ 4) (hput : ∀ b, LA.put b ∈ l → b = y)
  (hy : y.length ≤ 140737488355328) (hN : N ≤ 4398046000000) (hfew : ∀ j, (fD d j).steps.length ≤ N) (hrow : w.heap[gl]? = some (.cells (l.map (fnV bs bf bb)).toArray 99 (0, 0))) :
  Calls Tryz.prog 91 #[.slice (some ⟨gl, 0, none⟩) l.length l.length] w (StP base db (layE f l d) (layD f l d) w) := by
 have HF := Lib.hid hf
 have HEV := Lib.hid h
 have HX0 := Lib.hid hX
 have HPUT := Lib.hid hput
 have HY := Lib.hid hy
 have HNN := Lib.hid hN
 have HFW0 : Hid (∀ j, (fD d j).steps.length ≤ N + 0) := hfew
 have HROW := Lib.hid hrow
 have HLL := Lib.hid hl
 clear h hX hput hy hN hfew hrow hf
 go_enter Tryz.func91, Tryz.ntmps91
 go_wp2_with fail
 go_loopw [4, 5, 8] (fun cv ev j wr => ∃ k : Nat, k ≤ l.length ∧ j = .int .i64 k ∧ ∃ D, layD f l d = layD f (l.drop k) D ∧ layE f l d = layE f (l.drop k) D ∧ DX base db D wr ∧ KT base w wr ∧ ∀ j, (fD D j).steps.length ≤ N + k) (fun _ _ j _ => l.length - (intOf j).toNat)
 case atStart => exact ⟨0, by omega, rfl, d, rfl, rfl, HX0.out, KT.refl _ _, HFW0.out⟩
 case round =>
  obtain ⟨k, hk, rfl, D, hl1, hl2, hx, hkw, hfw⟩ := hrel
  have HL1 := Lib.hid hl1
  have HL2 := Lib.hid hl2
  have HXW := Lib.hid hx
  have HKW := Lib.hid hkw
  have HFW := Lib.hid hfw
  clear hl1 hl2 hx hkw hfw
  by_cases hlt : k < l.length
  ·have hd : decide ((k : Int) < (l.length : Int)) = true := decide_eq_true (by omega)
   have hd2 : decide (k < l.length) = true := decide_eq_true hlt
   have HDR : Hid (l.drop k = l[k] :: l.drop (k + 1)) := List.drop_eq_getElem_cons hlt
   have hrw := HKW.out.row HROW.out (by decide) (by decide)
   have hce : wr.cell? ⟨gl, k, none⟩ = some (fnV bs bf bb l[k]) := by
    rw [cell_of_row _ _ _ _ _ _ hrw]
    simp [hlt]
   have HEW := Lib.hid (HEV.out.kt HKW.out)
   have hmem : l[k] ∈ l := List.getElem_mem hlt
   clear hrw
   cases hA : l[k] with
   | cut =>
    rw [hA] at hce
    unfold fnV at hce
    have HCL := Lib.hid (cut_clo wr HF.out HEW.out HXW.out (by have h1 := HFW.out f; have h2 := HNN.out; have h3 := HLL.out; omega))
    clear hmem
    skip
    go_wp2_with fail
    refine HCL.out.mono ?_
    rintro e w5 ⟨rfl, hdx, hkt⟩
    have HDX := Lib.hid hdx
    have HK5 := Lib.hid (HKW.out.trans hkt)
    clear hdx hkt HCL
    by_cases hE : stpE D f LA.cut = 0
    ·obtain ⟨g1, g2⟩ := lay_ok (r := l.drop (k + 1)) hE
     have HG1 : Hid (layD f l d = layD f (l.drop (k + 1)) (stpD D f LA.cut)) := by show _ = _; rw [HL1.out, HDR.out, hA, g1]
     have HG2 : Hid (layE f l d = layE f (l.drop (k + 1)) (stpD D f LA.cut)) := by show _ = _; rw [HL2.out, HDR.out, hA, g2]
     have HFW2 : Hid (∀ j, (fD (stpD D f LA.cut) j).steps.length ≤ N + (k + 1)) := fun j => few_stp HFW.out j
     have hne : (stpE D f LA.cut != 0) = false := by rw [hE]; rfl
     clear hE g1 g2 hA
     generalize stpE D f LA.cut = EV at *
     generalize stpD D f LA.cut = DV at *
     go_wp2_with fail
     go_roundw
     case rel => exact ⟨k + 1, by omega, by go_num, DV, HG1.out, HG2.out, HDX.out, HK5.out, HFW2.out⟩
     case measure => simp [intOf]; omega
    ·obtain ⟨g1, g2⟩ := lay_no (r := l.drop (k + 1)) hE
     have HG1 : Hid (layD f l d = stpD D f LA.cut) := by show _ = _; rw [HL1.out, HDR.out, hA, g1]
     have HG2 : Hid (layE f l d = stpE D f LA.cut) := by show _ = _; rw [HL2.out, HDR.out, hA, g2]
     have hne : (stpE D f LA.cut != 0) = true := bne_iff_ne.2 hE
     clear hE g1 g2 hA
     generalize stpE D f LA.cut = EV at *
     generalize stpD D f LA.cut = DV at *
     go_wp2_with fail
     go_ret
     exact ⟨by (rw [HG2.out]; first | done | rfl), by rw [HG1.out]; exact HDX.out, HK5.out⟩
   | sync =>
    rw [hA] at hce
    unfold fnV at hce
    have HCL := Lib.hid (sync_clo wr HF.out HEW.out HXW.out)
    clear hmem
    skip
    go_wp2_with fail
    refine HCL.out.mono ?_
    rintro e w5 ⟨rfl, hdx, hkt⟩
    have HDX := Lib.hid hdx
    have HK5 := Lib.hid (HKW.out.trans hkt)
    clear hdx hkt HCL
    by_cases hE : stpE D f LA.sync = 0
    ·obtain ⟨g1, g2⟩ := lay_ok (r := l.drop (k + 1)) hE
     have HG1 : Hid (layD f l d = layD f (l.drop (k + 1)) (stpD D f LA.sync)) := by show _ = _; rw [HL1.out, HDR.out, hA, g1]
     have HG2 : Hid (layE f l d = layE f (l.drop (k + 1)) (stpD D f LA.sync)) := by show _ = _; rw [HL2.out, HDR.out, hA, g2]
     have HFW2 : Hid (∀ j, (fD (stpD D f LA.sync) j).steps.length ≤ N + (k + 1)) := fun j => few_stp HFW.out j
     have hne : (stpE D f LA.sync != 0) = false := by rw [hE]; rfl
     clear hE g1 g2 hA
     generalize stpE D f LA.sync = EV at *
     generalize stpD D f LA.sync = DV at *
     go_wp2_with fail
     go_roundw
     case rel => exact ⟨k + 1, by omega, by go_num, DV, HG1.out, HG2.out, HDX.out, HK5.out, HFW2.out⟩
     case measure => simp [intOf]; omega
    ·obtain ⟨g1, g2⟩ := lay_no (r := l.drop (k + 1)) hE
     have HG1 : Hid (layD f l d = stpD D f LA.sync) := by show _ = _; rw [HL1.out, HDR.out, hA, g1]
     have HG2 : Hid (layE f l d = stpE D f LA.sync) := by show _ = _; rw [HL2.out, HDR.out, hA, g2]
     have hne : (stpE D f LA.sync != 0) = true := bne_iff_ne.2 hE
     clear hE g1 g2 hA
     generalize stpE D f LA.sync = EV at *
     generalize stpD D f LA.sync = DV at *
     go_wp2_with fail
     go_ret
     exact ⟨by (rw [HG2.out]; first | done | rfl), by rw [HG1.out]; exact HDX.out, HK5.out⟩
   | put y' =>
    rw [hA] at hce hmem
    unfold fnV at hce
    obtain rfl := HPUT.out _ hmem
    have HCL := Lib.hid (put_clo wr HF.out HEW.out HXW.out HY.out (by have h1 := HFW.out f; have h2 := HNN.out; have h3 := HLL.out; omega))
    clear hmem
    skip
    go_wp2_with fail
    refine HCL.out.mono ?_
    rintro e w5 ⟨rfl, hdx, hkt⟩
    have HDX := Lib.hid hdx
    have HK5 := Lib.hid (HKW.out.trans hkt)
    clear hdx hkt HCL
    by_cases hE : stpE D f (LA.put y') = 0
    ·obtain ⟨g1, g2⟩ := lay_ok (r := l.drop (k + 1)) hE
     have HG1 : Hid (layD f l d = layD f (l.drop (k + 1)) (stpD D f (LA.put y'))) := by show _ = _; rw [HL1.out, HDR.out, hA, g1]
     have HG2 : Hid (layE f l d = layE f (l.drop (k + 1)) (stpD D f (LA.put y'))) := by show _ = _; rw [HL2.out, HDR.out, hA, g2]
     have HFW2 : Hid (∀ j, (fD (stpD D f (LA.put y')) j).steps.length ≤ N + (k + 1)) := fun j => few_stp HFW.out j
     have hne : (stpE D f (LA.put y') != 0) = false := by rw [hE]; rfl
     clear hE g1 g2 hA
     generalize stpE D f (LA.put y') = EV at *
     generalize stpD D f (LA.put y') = DV at *
     go_wp2_with fail
     go_roundw
     case rel => exact ⟨k + 1, by omega, by go_num, DV, HG1.out, HG2.out, HDX.out, HK5.out, HFW2.out⟩
     case measure => simp [intOf]; omega
    ·obtain ⟨g1, g2⟩ := lay_no (r := l.drop (k + 1)) hE
     have HG1 : Hid (layD f l d = stpD D f (LA.put y')) := by show _ = _; rw [HL1.out, HDR.out, hA, g1]
     have HG2 : Hid (layE f l d = stpE D f (LA.put y')) := by show _ = _; rw [HL2.out, HDR.out, hA, g2]
     have hne : (stpE D f (LA.put y') != 0) = true := bne_iff_ne.2 hE
     clear hE g1 g2 hA
     generalize stpE D f (LA.put y') = EV at *
     generalize stpD D f (LA.put y') = DV at *
     go_wp2_with fail
     go_ret
     exact ⟨by (rw [HG2.out]; first | done | rfl), by rw [HG1.out]; exact HDX.out, HK5.out⟩
  ·have hd : decide ((k : Int) < (l.length : Int)) = false := decide_eq_false (by omega)
   have hd2 : decide (k < l.length) = false := decide_eq_false hlt
   obtain rfl : k = l.length := by omega
   rw [List.drop_length] at HL1 HL2
   have HG1 : Hid (layD f l d = D) := HL1.out
   have HG2 : Hid (layE f l d = 0) := HL2.out
   clear HL1 HL2
   go_wp2_with fail
   go_ret
   exact ⟨by (rw [HG2.out]; first | done | rfl), by rw [HG1.out]; exact HXW.out, HKW.out⟩
end Go.Proofs.YtnejjfglkindjaaGreatDoor.Slt
