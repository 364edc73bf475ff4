/- PARTS, JOINED: A RANGE OVER A FUNCTION WHOSE ROUNDS ARE HANDED MEMORY THAT THE ITERATOR HAS LAID: the iterator tells of each element what it knows of the world ('G'). No program is named. Conditions: none. FRAMES: All, and its function. Conditions: the laid cell of errors.errorType; at most 4000 bytes. FRAMES: Scan. Conditions: the laid cell of errors.errorType; at most 4000 bytes. FRAMES: the reference's Same: are lists of bytes the same? Conditions: none. CRC: the walk of the statement CrcTurned. FRAMES, plain: there and back, torn, turned, one behind the other. Conditions: none. PLAIN PART OF THE ROLL: what it does to a disk of one file, and what a crash leaves. Conditions: none. THE REFERENCE OF ROLLS: Clear, Append, Bodies. Conditions: sizes that fit. A DISK BESIDE OTHER MEMORY: what its calls leave, and what they leave alone. Conditions: none. THE WALKS OF A ROLL: Append, Clear, Bodies, Len, Size. Conditions: the laid cell of errors.errorType where frames are scanned; bodies of at most 4000 bytes. -/
import Derived.Test.YtkacmgfehmjijaaGreatDoorOd1
import Derived.Test.YtkacmgfehmjijaaGreatDoorOd2
import Derived.Test.YtkacmgfehmjijaaGreatDoorOd3
import Derived.Test.YtkacmgfehmjijaaGreatDoorOd4
import Derived.Test.YtkacmgfehmjijaaGreatDoorOd5
import Derived.Test.YtkacmgfehmjijaaGreatDoorOd6
import Derived.Test.YtkacmgfehmjijaaGreatDoorOd7
import Derived.Test.YtkacmgfehmjijaaGreatDoorOd8
import Derived.RangeFuncNested
import Derived.RangeFuncBound
import Derived.RangeFuncCalls
import Derived.RangeFuncLeaves
import Derived.RangeFuncBox
import Derived.Shelf.Abstract
import Derived.Shelf.RegionOpen
import Derived.WalkKit
import Derived.OwnWalkIn
import Derived.TacticsInMore
import Derived.LoopNIn
import Derived.LoopIn
import Derived.Maps.AppendAt
import Derived.BigRegion
import Derived.Laws.ShiftsVar
import Derived.BigQuiet
namespace Go.Mir
open Go.RowKit

theorem grown_of_below {A B : World} (h : Below A.heap.size A B) (row : Option Nat) : A.grownBy B row := ⟨h.os, h.tape, h.output, h.size, fun k hk _ => h.block k hk⟩
theorem ownFrom_grow {β : Type} {b : Nat} {I : β → World → Prop} (h : OwnFrom b I) {s : β} {A B : World} (hs : I s A) (hb : Below A.heap.size A B) : I s B :=
  h s A B none hs (grown_of_below hb none) (fun r e => by cases e)
/-- what an iterator keeps to -/
def SeqG {α : Type} (P : Program) (n : Nat) (gf : Nat) (lb : Array Value) (encs : α → Array Value) (T : Nat → Prop) (G : List α → α → World → Prop) (S Sp : List α → Prop) (w : World) : Prop :=
  ∀ (l : Nat) (J Jx : List α → World → Prop) (W : World), Below w.heap.size w W → (∀ s A B, J s A → Below A.heap.size A B → J s B) → (∀ s A B, Jx s A → Below A.heap.size A B → Jx s B) →
    (∀ pre x W1, J pre W1 → G pre x W1 → YieldAt Fence.wide (n - 1) P l (encs x) W1 fun e W' => (e = .returned (.bool true) ∧ J (pre ++ [x]) W' ∧ Turns T W1 W') ∨ (e = .returned (.bool false) ∧ Jx (pre ++ [x]) W')) →
    J [] W → CallsIn Fence.wide n P gf (#[.func (.yield l) #[] #[]] ++ lb) W fun e W' => (∃ v, e = .returned v) ∧ ((∃ xs, S xs ∧ J xs W') ∨ ∃ pre, Sp pre ∧ Jx pre W')
/-- how a round may be left -/
def roundEnd {α : Type} (B : Nat) (T : Nat → Prop) (I : List α → World → Prop) (Ix : Code → List α → World → Prop) (xs : List α) (W : World) : Exit → Act → World → Prop
  | .normal, _, W' => KeepsFrom B W W' ∧ Turns T W W' ∧ I xs W'
  | .ret, _, W' => KeepsFrom B W W' ∧ Ix .ret xs W'
  | .exit id, _, W' => KeepsFrom B W W' ∧ Ix (.exit id) xs W'
  | .goto t, _, W' => KeepsFrom B W W' ∧ Ix (.goto t) xs W'
  | .panic _, _, _ => False
  | .outgrown, _, _ => False
/-- what the loop has laid -/
structure LoopAt (b : Nat) (r : Loop) (W : World) : Prop where
  loop : W.heap[b + 1]? = some (.loop r)
  calls : W.heap[b]? = some (.deferred (some []))
theorem LoopAt.lt {b : Nat} {r : Loop} {W : World} (h : LoopAt b r W) : b + 1 < W.heap.size := (Array.getElem?_eq_some_iff.1 h.loop).1
theorem LoopAt.keep {b : Nat} {r : Loop} {W W' : World} (h : LoopAt b r W) (hk : KeepsFrom b W W') : LoopAt b r W' := ⟨hk.same _ _ (by omega) h.loop rfl, hk.same _ _ (Nat.le_refl _) h.calls rfl⟩
theorem LoopAt.set {b : Nat} {r : Loop} {W : World} (h : LoopAt b r W) (r' : Loop) : LoopAt b r' (W.putObj (b + 1) (.loop r')) := ⟨World.putObj_heap_same h.lt, (World.putObj_heap_other (by omega)).trans h.calls⟩
theorem LoopAt.below {b : Nat} {r : Loop} {W W' : World} (h : LoopAt b r W) (hb : Below W.heap.size W W') : LoopAt b r W' := ⟨Below.keepOld hb h.loop, Below.keepOld hb h.calls⟩
variable {P : Program}
theorem rangeG {α : Type} {g : Operand} {ps : Array Tmp} {assign body : Code} {Q : Exit → Act → World → Prop} {a : Act} {w w0 : World} {n : Nat} (h1 : 1 ≤ n)
    {gf : Nat} {lb : Array Value} (hg : a.eval g = .func (.func gf) #[] lb) (eg : ∀ args w, (callFunc gf args).run P w = .ok (.enter gf args) w)
    {encs : α → Array Value} {T : Nat → Prop} {G : List α → α → World → Prop} {S Sp : List α → Prop} (hseq : SeqG P (n - 1) gf lb encs T G S Sp w0) (hT : ∀ k, w.heap.size ≤ k → T k) (hb0 : Below w0.heap.size w0 w) (hps : ∀ x, (encs x).size = ps.size)
    (hG : OwnFrom w.heap.size (fun (s : List α × α) W => G s.1 s.2 W)) (I : List α → World → Prop) (Ix : Code → List α → World → Prop) (hI : OwnFrom w.heap.size I) (hIx : ∀ c, OwnFrom w.heap.size (Ix c)) (h0 : I [] w) (a₁ : α → Act)
    (hassign : ∀ (l : Nat) (x : α) (W : World) (K : Act → World → Prop), K (a₁ x) W →
      assign.wpIn (Fence.wide.inRound l) (n - 1 - 1) P (Exit.then K (fun _ _ _ => False)) { tmps := (ps.zip (encs x)).foldl (fun t (p, v) => t.setIfInBounds p v) a.tmps, defers := [] } W)
    (hbody : ∀ (l : Nat) (pre : List α) (x : α) (W : World), I pre W → G pre x W → body.wpIn (Fence.wide.inRound l) (n - 1 - 1) P (roundEnd w.heap.size T I Ix (pre ++ [x]) W) (a₁ x) W)
    (hdone : ∀ (D : Nat) (xs : List α) (W : World), w.heap.size ≤ D → S xs → I xs W → W.heap[D]? = some (.deferred (some [])) → Q .normal { a with defers := { target := .collected D, args := #[] } :: a.defers } W)
    (hstop : ∀ (D : Nat) (c : Code) (pre : List α) (W : World), w.heap.size ≤ D → Sp pre → Ix c pre W → W.heap[D]? = some (.deferred (some [])) → c.wpIn Fence.wide n P Q { a with defers := { target := .collected D, args := #[] } :: a.defers } W) :
    (Code.rangeFunc g ps assign body).wpIn Fence.wide n P Q a w := by
  refine wpIn_rangeFunc fun fn hfn => ?_
  obtain ⟨b, hb⟩ : ∃ b, w.heap.size = b := ⟨_, rfl⟩
  let rec' : LoopState → Option Code → Loop := fun st pe => { state := st, pending := pe, fn, tmps := a.tmps, params := ps, assign, body, defers := b }
  obtain ⟨W1, hW1⟩ : ∃ W1, W1 = (w.alloc (.deferred (some []))).alloc (.loop (rec' .ready none)) := ⟨_, rfl⟩
  have hsz : W1.heap.size = b + 2 := by rw [hW1]; simp [hb]
  have hL1 : LoopAt b (rec' .ready none) W1 := by
    rw [hW1, ← hb]
    exact ⟨by have := World.alloc_heap_new (w.alloc (.deferred (some []))) (.loop (rec' .ready none)); rwa [World.size_alloc] at this, (Below.heap_alloc _ _ _ (by simp)).trans (World.alloc_heap_new w _)⟩
  have hww : Below w.heap.size w W1 := by rw [hW1]; exact ((Below.refl _ w).alloc (Nat.le_refl _) _).alloc (by simp) _
  rw [hb] at hI hIx hG hT hbody hdone hstop
  have turn : ∀ {s : List α} {W : World} {r : Loop} (r' : Loop), I s W → LoopAt b r W → I s (W.putObj (b + 1) (.loop r')) := fun r' hi hl => hI.putObj _ hi (by omega) hl.loop rfl
  have turnB : ∀ {W : World} {r : Loop} (r' : Loop), LoopAt b r W → Turns T W (W.putObj (b + 1) (.loop r')) := fun {W} {r} r' hl =>
    Turns.grown (grownBy_putObj' W (b + 1) _) (fun k e => by cases e; exact hT _ (by omega))
  refine ⟨b + 1, [{ target := .collected b, args := #[] }], W1, { target := .fn (.func gf) lb, args := #[.func (.yield (b + 1)) #[] #[]] }, W1, gf, #[.func (.yield (b + 1)) #[] #[]] ++ lb, W1, ?_, ?_, fun _ _ => trivial, ?_, fun h => by simp [Fence.wide] at h, ?_⟩
  · have := run_enterLoop_outer (P := P) (w := w) fn a.tmps ps assign body
    rw [hb] at this
    rw [hW1]
    exact this
  · simp only [resolve, hg]
    simp [go_sem]
  · simp [invoke, go_sem, eg]
  refine (hseq (b + 1) (fun pre W => I pre W ∧ LoopAt b (rec' .ready none) W) (fun pre W => ∃ c, Ix c pre W ∧ LoopAt b (rec' .done (some c)) W) W1
    (hb0.trans (hww.mono hb0.size)) (fun s A B hs hbl => ⟨ownFrom_grow hI hs.1 hbl, hs.2.below hbl⟩) (fun s A B ⟨c, hc, hl⟩ hbl => ⟨c, ownFrom_grow (hIx c) hc hbl, hl.below hbl⟩) ?_ ⟨ownFrom_grow hI h0 hww, hL1⟩).mono ?_
  · rintro pre x W ⟨hi, hl⟩ hx
    refine ⟨fn, _, assign, body, run_yield (P := P) (args := encs x) hl.loop (hps x), roundIn_of_wpIn hfn (hassign _ x W _ ⟨_, run_beginRound hl.loop rfl, ?_⟩)⟩
    have hx2 : G pre x (W.putObj (b + 1) (.loop { rec' .ready none with state := .busy })) := hG.putObj (s := (pre, x)) _ hx (by omega) hl.loop rfl
    refine wpIn_mono (hbody _ pre x _ (turn _ hi hl) hx2) ?_
    have hl2 := hl.set { rec' .ready none with state := .busy }
    have leave : ∀ (c : Code) (W3 : World), KeepsFrom b (W.putObj (b + 1) (.loop { rec' .ready none with state := .busy })) W3 → Ix c (pre ++ [x]) W3 →
        ∃ v w', (Instr.endRound (b + 1) (some c)).run P W3 = .ok v w' ∧ (fun (e : Ending) (W' : World) => (e = .returned (.bool true) ∧ (I (pre ++ [x]) W' ∧ LoopAt b (rec' .ready none) W') ∧ Turns T W W') ∨ (e = .returned (.bool false) ∧ ∃ c, Ix c (pre ++ [x]) W' ∧ LoopAt b (rec' .done (some c)) W')) (.returned v) w' := fun c W3 hk hc => by
      have hl3 := hl2.keep hk
      exact ⟨_, _, run_endRound (P := P) (some c) hl3.loop, .inr ⟨rfl, c, (hIx c).putObj _ hc (by omega) hl3.loop rfl, hl3.set _⟩⟩
    rintro e a3 W3 hp
    cases e with
    | normal =>
      have hl3 := hl2.keep hp.1
      exact ⟨_, _, run_endRound (P := P) none hl3.loop, .inl ⟨rfl, ⟨turn _ hp.2.2 hl3, hl3.set _⟩, ((turnB _ hl).trans hp.2.1 (fun _ _ h => h)).trans (turnB _ hl3) (fun _ _ h => h)⟩⟩
    | ret => exact leave .ret W3 hp.1 hp.2
    | exit id => exact leave (.exit id) W3 hp.1 hp.2
    | goto t => exact leave (.goto t) W3 hp.1 hp.2
    | panic ch => exact hp.elim
    | outgrown => exact hp.elim
  · rintro e W2 ⟨⟨v, rfl⟩, ⟨xs, hS, hi, hl⟩ | ⟨pre, hS, c, hi, hl⟩⟩
    · exact ⟨none, _, run_endLoop (P := P) hl.loop (by simp [rec']), hdone _ xs _ (Nat.le_refl _) hS (turn _ hi hl) (hl.set _).calls⟩
    · exact ⟨some c, _, run_endLoop (P := P) hl.loop (by simp [rec']), hstop _ c pre _ (Nat.le_refl _) hS ((hIx c).putObj _ hi (by omega) hl.loop rfl) (hl.set _).calls⟩
/-- the activation behind the assignment to the loop's variables -/
def setAll (a : Act) (l : List (Nat × Value)) : Act := { tmps := l.foldl (fun t p => t.setIfInBounds p.1 p.2) a.tmps, defers := [] }
theorem rangeS {α : Type} {g : Operand} {ps : Array Tmp} {assign body : Code} {Q : Exit → Act → World → Prop} {a : Act} {w w0 : World} {n : Nat} (h1 : 1 ≤ n)
    {gf : Nat} {lb : Array Value} (hg : a.eval g = .func (.func gf) #[] lb) (eg : ∀ args w, (callFunc gf args).run P w = .ok (.enter gf args) w)
    {encs : α → Array Value} {T : Nat → Prop} {G : List α → α → World → Prop} {S Sp : List α → Prop} (hseq : SeqG P (n - 1) gf lb encs T G S Sp w0) (hT : ∀ k, w.heap.size ≤ k → T k) (hb0 : Below w0.heap.size w0 w) (hps : ∀ x, (encs x).size = ps.size)
    (hG : OwnFrom w.heap.size (fun (s : List α × α) W => G s.1 s.2 W)) (I : List α → World → Prop) (Ix : Code → List α → World → Prop) (hI : OwnFrom w.heap.size I) (hIx : ∀ c, OwnFrom w.heap.size (Ix c)) (h0 : I [] w) (sets : α → List (Nat × Value))
    (hassign : ∀ (l : Nat) (x : α) (W : World) (K : Act → World → Prop), K (setAll a (sets x)) W →
      assign.wpIn (Fence.wide.inRound l) (n - 1 - 1) P (Exit.then K (fun _ _ _ => False)) { tmps := (ps.zip (encs x)).foldl (fun t (p, v) => t.setIfInBounds p v) a.tmps, defers := [] } W)
    (hbody : ∀ (l : Nat) (pre : List α) (x : α) (W : World), I pre W → G pre x W → body.wpIn (Fence.wide.inRound l) (n - 1 - 1) P (roundEnd w.heap.size T I Ix (pre ++ [x]) W) (setAll a (sets x)) W)
    (hdone : ∀ (D : Nat) (xs : List α) (W : World), w.heap.size ≤ D → S xs → I xs W → W.heap[D]? = some (.deferred (some [])) → Q .normal { a with defers := { target := .collected D, args := #[] } :: a.defers } W)
    (hstop : ∀ (D : Nat) (c : Code) (pre : List α) (W : World), w.heap.size ≤ D → Sp pre → Ix c pre W → W.heap[D]? = some (.deferred (some [])) → c.wpIn Fence.wide n P Q { a with defers := { target := .collected D, args := #[] } :: a.defers } W) :
    (Code.rangeFunc g ps assign body).wpIn Fence.wide n P Q a w :=
  rangeG h1 hg eg hseq hT hb0 hps hG I Ix hI hIx h0 (fun x => setAll a (sets x)) hassign hbody hdone hstop
end Go.Mir

namespace Go.Proofs.YtkacmgfehmjijaaGreatDoor.Frm
open Go.RowKit Go.Mir Go.Mir.Parts Go.Shelf Wr Cod Cut Rdr
attribute [local go_sem] Oper.semAt_some

theorem all_any (p : Option Addr) (n c : Nat) (w : World) :
    Calls Tryz.prog 68 #[.slice p n c] w fun e w' => e = .returned (.func (.func 75) #[] #[.pointer (some ⟨w.heap.size, 0, none⟩)]) ∧ w' = w.alloc (.cells #[.slice p n c] 31) := by
  go_enter Tryz.func68, Tryz.ntmps68
  go_wp2_with fail
  go_ret
  exact ⟨rfl, rfl⟩
structure FX where
  at_ : Nat
  p : Option Addr
  c : Nat
  body : List UInt8
def FX.enc (x : FX) : Array Value := #[.int .i64 (x.at_ : Int), .slice x.p x.body.length x.c]
def bodies (xs : List FX) : List (List UInt8) := xs.map (·.body)
theorem bodies_snoc (xs : List FX) (x : FX) : bodies (xs ++ [x]) = bodies xs ++ [x.body] := by simp [bodies]
def FG (l : List UInt8) (n₀ : Nat) (pre : List FX) (x : FX) (W : World) : Prop := (At l (bodies pre) x.at_ ∧ (one (l.drop x.at_)).2.2 = 0 ∧ x.body = (one (l.drop x.at_)).1) ∧ W.ownsRow n₀ 5 1 (.slice x.p x.body.length x.c) x.body.length (bytesV x.body)
theorem own_own {β : Type} (n₀ e size : Nat) (v : β → Value) (k : β → Nat) (f : β → List Value) : Own (fun s W => W.ownsRow n₀ e size (v s) (k s) (f s)) := by
  rintro s X Y row hr hg hrow
  refine hr.kept hg ?_
  rcases hr.2 with ⟨h0, _⟩ | ⟨g, cap, cur, hv, _, hgb, _⟩
  · exact .inl (by rw [h0]; rfl)
  · refine .inr fun e' => ?_
    rw [hv] at e'
    obtain ⟨o, ho, hc⟩ := hrow g (by simpa [Value.ownBlock] using e'.symm)
    rw [hgb] at ho; cases ho; cases hc
theorem fg_own (l : List UInt8) (n₀ B : Nat) : OwnFrom B (fun (s : List FX × FX) W => FG l n₀ s.1 s.2 W) :=
  fun s A C row hs hg hr => ⟨hs.1, (own_own (β := List FX × FX) n₀ 5 1 (fun s => .slice s.2.p s.2.body.length s.2.c) (fun s => s.2.body.length) (fun s => bytesV s.2.body)) s A C row hs.2 hg (fun r e => (hr r e).2)⟩
def FT (n₀ Bn : Nat) (k : Nat) : Prop := n₀ ≤ k ∧ ¬ k = Bn
set_option maxRecDepth 100000 in
set_option maxHeartbeats 2000000 in
theorem all1_seq (m : Nat) (hm : 1 ≤ m) (Bn n₀ b₀ : Nat) (p : Option Addr) (n c : Nat) (l : List UInt8) (w : World) (hE : EType w) (hE0 : 0 < n₀) (hn0 : b₀ ≤ w.heap.size) (hc : w.cell? ⟨Bn, 0, none⟩ = some (.slice p n c)) (hB : ∀ W', Turns (FT n₀ Bn) w W' → Bs W' p n c l) (hn : n ≤ 1000000) :
    SeqG Tryz.prog m 75 #[.pointer (some ⟨Bn, 0, none⟩)] FX.enc (FT n₀ Bn) (FG l b₀) (fun xs => ∃ k, At l (bodies xs) k ∧ ¬ (one (l.drop k)).2.2 = 0) (fun _ => True) w := by
  intro y J Jx W hW hJ hJx hY h0
  have HB := Lib.hid hB
  have hb0 := hB w (Turns.refl _ _)
  have HN := Lib.hid hb0.length
  have hle := hb0.le
  have hmax := hb0.max
  have HE := Lib.hid hE
  have HW := Lib.hid (Turns.of_below (S := FT n₀ Bn) hW)
  have HY := Lib.hid hY
  clear hB hb0 hE hW hY
  refine callsIn_of_wp Tryz.func75 rfl trivial ?_ rfl
  simp only [Tryz.ntmps75, List.size_toArray, List.length_cons, List.length_nil, Nat.reduceAdd, Nat.reduceSub, Array.replicate_succ, Array.replicate_zero, List.push_toArray, List.append_toArray, List.nil_append, List.cons_append]
  gi_wp2
  gi_loopw [3] (fun i wr => ∃ (k : Nat) (pre : List FX), i = .int .i64 k ∧ At l (bodies pre) k ∧ J pre wr ∧ Turns (FT n₀ Bn) w wr) (fun i _ => n - (intOf i).toNat)
  case atStart => exact ⟨0, [], rfl, At.zero l, h0, HW.out⟩
  case round =>
    obtain ⟨k, pre, rfl, hat, hJp, htu⟩ := hrel
    have hk : k ≤ n := by rw [← HN.out]; exact hat.1
    have HAT := Lib.hid hat
    have HJ := Lib.hid hJp
    have HT := Lib.hid htu
    have hcc := htu.cell hc (fun h => h.2 rfl)
    have hbs := HB.out wr htu
    have hcut := cutR hbs k (k : Int) rfl hk
    have hE1 : EType wr := htu.cell HE.out (fun h => Nat.not_le_of_lt hE0 h.1)
    have hone := one_any _ _ _ _ wr hE1 (bs_drop hbs k hk) (by omega)
    have HONE := Lib.hid hone
    clear hat hJp htu hbs hone hE1
    gi_wp2_with fail
    refine ⟨trivial, ?_⟩
    refine (callsIn_wide.2 HONE.out).mono ?_
    rintro e w1 ⟨p1, c1, rfl, ho1, hb1⟩
    have HJ1 := Lib.hid (hJ _ _ _ HJ.out hb1)
    have HT1 := Lib.hid (HT.out.trans (Turns.of_below (S := FT n₀ Bn) hb1) (fun _ _ h => h))
    have HSZ := Lib.hid HT.out.size
    have HO1 := Lib.hid ho1
    obtain ⟨body, mm, ev, hoe⟩ : ∃ body mm ev, one (l.drop k) = (body, mm, ev) := ⟨_, _, _, rfl⟩
    clear ho1 hb1 HONE HJ HT hcut
    rw [hoe] at HO1 ⊢
    have HOE := Lib.hid hoe
    clear hoe
    by_cases hev : ev = 0
    · subst hev
      have hok := one_ok (l := l.drop k) (by rw [HOE.out])
      have hnx := HAT.out.next (by rw [HOE.out])
      rw [HOE.out] at hok hnx
      rw [List.length_drop, HN.out] at hok
      dsimp only at hok hnx
      have HOK := Lib.hid hok
      obtain ⟨ok1, ok2, _⟩ := hok
      have hx : FG l b₀ pre ⟨k, p1, c1, body⟩ w1 := ⟨⟨HAT.out, by rw [HOE.out], by rw [HOE.out]⟩, own_base HO1.out (fun i hi => by have h1 := (HO1.out.lt i hi).1; have h2 := HSZ.out; omega)⟩
      obtain ⟨fn, tmps, assign, bod, hy, hR⟩ := HY.out pre ⟨k, p1, c1, body⟩ w1 HJ1.out hx
      dsimp only [FX.enc] at hy
      have HR := Lib.hid hR
      have HNX := Lib.hid hnx
      have hw : IntKind.i64.wrap ((k : Int) + (mm : Int)) = ((k + mm : Nat) : Int) := by rw [IntWalk.i64_in _ (by omega)]; omega
      clear hnx HOE HAT hR hx
      gi_wp2_with fail
      refine HR.out.mono ?_
      rintro e w2 (⟨rfl, hJ2, hk2⟩ | ⟨rfl, hJ2⟩)
      · have HT2 := Lib.hid (HT1.out.trans hk2 (fun _ _ h => h))
        have HJ2 := Lib.hid hJ2
        clear hJ2 hk2 HJ1 HT1 HR
        gi_wp2
        go_roundw
        case rel => exact ⟨k + mm, _, by go_num, by rw [bodies_snoc]; exact HNX.out, HJ2.out, HT2.out⟩
        case measure => simp [intOf]; omega
      · have HJ2 := Lib.hid hJ2
        clear hJ2 HJ1 HT1 HR
        gi_wp2
        refine bodyPost_ret (results_none rfl _ _ _) rfl ?_
        exact ⟨⟨_, rfl⟩, .inr ⟨_, trivial, HJ2.out⟩⟩
    · have hz : (ev != 0) = true := by rw [bne_iff_ne]; exact hev
      have HS : Hid (∃ k, At l (bodies pre) k ∧ ¬ (one (l.drop k)).2.2 = 0) := ⟨k, HAT.out, by rw [HOE.out]; exact hev⟩
      clear hev HOE HAT
      gi_wp2_with fail
      refine ⟨fun _ h => (by cases h), ?_⟩
      gi_wp2
      refine bodyPost_ret (results_none rfl _ _ _) rfl ?_
      exact ⟨⟨_, rfl⟩, .inl ⟨pre, HS.out, HJ1.out⟩⟩
end Go.Proofs.YtkacmgfehmjijaaGreatDoor.Frm

namespace Go.Proofs.YtkacmgfehmjijaaGreatDoor.Frm
open Go.RowKit Go.Mir Go.Mir.Parts Go.Shelf Wr Cod Cut Rdr
attribute [local go_sem] Oper.semAt_some

theorem sl_kept {w w' : World} {p : Option Addr} {n c size : Nat} {vs : List Value} (h : Sl w p n c size vs) {row : Option Nat} (hg : w.grownBy w' row) (hr : ∀ r, row = some r → ∃ o : Obj, w.heap[r]? = some o ∧ o.isCells = false) : Sl w' p n c size vs :=
  ⟨h.len, h.le, h.max, h.nil0, fun a ha j u hu => cell_kept (h.cell a ha j u hu) hg hr⟩
theorem own_kept {w w' : World} {base e size n : Nat} {v : Value} {vs : List Value} (h : w.ownsRow base e size v n vs) {row : Option Nat} (hg : w.grownBy w' row) (hr : ∀ r, row = some r → ∃ o : Obj, w.heap[r]? = some o ∧ o.isCells = false) : w'.ownsRow base e size v n vs :=
  (own_own (β := Unit) base e size (fun _ => v) (fun _ => n) (fun _ => vs)) () _ _ row h hg hr
theorem ls_kept {w w' : World} {base : Nat} {v : Value} {ls : List (List UInt8)} (h : LsO w base v ls) {row : Option Nat} (hg : w.grownBy w' row) (hr : ∀ r, row = some r → ∃ o : Obj, w.heap[r]? = some o ∧ o.isCells = false) : LsO w' base v ls := by
  obtain ⟨hs, h1, h2⟩ := h.all
  refine ⟨hs, own_kept h1 hg hr, fun j hj => ?_⟩
  obtain ⟨q, k, a, b⟩ := h2 j hj
  exact ⟨q, k, a, own_kept b hg hr⟩
theorem boxed_kept {w w' : World} {B : Nat} {t : TypeId} {v : Value} (h : Boxed w B t v) {row : Option Nat} (hg : w.grownBy w' row) (hr : ∀ r, row = some r → ∃ o : Obj, w.heap[r]? = some o ∧ o.isCells = false) : Boxed w' B t v :=
  h.kept hg (fun e => by
    obtain ⟨o, ho, hc⟩ := hr B e.symm
    rw [show w.heap[B]? = _ from h] at ho; cases ho; cases hc)
structure SI (w : World) (l : List UInt8) (pre : List FX) (W : World) : Prop where
  out : ∃ v, Boxed W w.heap.size 56 v ∧ LsO W (w.heap.size + 3) v (bodies pre)
  stop : ∃ k : Nat, Boxed W (w.heap.size + 1) 3 (.int .i64 (k : Int)) ∧ At l (bodies pre) k
  low : Below w.heap.size w W
  big : w.heap.size + 3 ≤ W.heap.size
theorem si_own (w : World) (l : List UInt8) (B : Nat) (hB : w.heap.size ≤ B) : OwnFrom B (SI w l) := fun s A C row hs hg hr => by
  have hr' : ∀ r, row = some r → ∃ o : Obj, A.heap[r]? = some o ∧ o.isCells = false := fun r e => (hr r e).2
  obtain ⟨⟨v, b1, l1⟩, ⟨k, b2, a2⟩, lo, bg⟩ := hs
  exact ⟨⟨v, boxed_kept b1 hg hr', ls_kept l1 hg hr'⟩, ⟨k, boxed_kept b2 hg hr', a2⟩, lo.grown hg lo.size (fun k e => by have := (hr k e).1; omega), Nat.le_trans bg hg.size⟩
def ScanO (l : List UInt8) (w : World) (e : Ending) (w' : World) : Prop := ∃ v, e = .returned (.tuple #[v, .int .i64 ((scan l).2 : Int)]) ∧ LsO w' w.heap.size v (scan l).1 ∧ Below w.heap.size w w'
theorem LsO.low {w : World} {base base' : Nat} {v : Value} {ls : List (List UInt8)} (h : LsO w base v ls) (hb : base' ≤ base) : LsO w base' v ls := by
  obtain ⟨hs, h1, h2⟩ := h.all
  exact ⟨hs, own_base h1 (fun k hk => by have := (h1.lt k hk).1; omega), fun j hj => by
    obtain ⟨q, k, a, b⟩ := h2 j hj
    exact ⟨q, k, a, own_base b (fun i hi => by have := (b.lt i hi).1; omega)⟩⟩
def ScanP (l : List UInt8) (w : World) (e : Ending) (w' : World) : Prop := ∃ v, e = .returned (.tuple #[v, .int .i64 ((scan l).2 : Int)]) ∧ Ls w' w.heap.size v (scan l).1 ∧ Below w.heap.size w w'
set_option maxRecDepth 100000 in
set_option maxHeartbeats 2000000 in
theorem scanO_any (p : Option Addr) (n c : Nat) (l : List UInt8) (w : World) (hE : EType w) (hB : Bs w p n c l) (hpb : 0 < n → ∀ a, p = some a → a.block < w.heap.size) (hn : n ≤ 1000000) :
    Calls Tryz.prog 50 #[.slice p n c] w (ScanO l w) := by
  have HB := Lib.hid hB
  have HN := Lib.hid hB.length
  have hle := hB.le
  have hmax := hB.max
  refine (callsIn_wide (n := 9)).1 ?_
  refine callsIn_of_wp_marks Tryz.func50 rfl trivial ?_ rfl
  simp only [Tryz.ntmps50, List.size_toArray, List.length_cons, List.length_nil, Nat.reduceAdd, Nat.reduceSub, Array.replicate_succ, Array.replicate_zero, List.push_toArray, List.append_toArray, List.nil_append, List.cons_append]
  gi_wp2_with (refine ⟨trivial, ?_⟩; gi_at_call 68; refine (callsIn_wide.2 (all_any p n c _)).mono ?_; rintro e w' ⟨rfl, rfl⟩)
  have bO := Boxed.new w 56 (.slice none 0 0)
  have bE := Boxed.new (w.alloc (.cells #[.slice none 0 0] 56)) 3 (.int .i64 0)
  have bN := Boxed.new ((w.alloc (.cells #[.slice none 0 0] 56)).alloc (.cells #[.int .i64 0] 3)) 31 (.slice p n c)
  rw [World.size_alloc] at bE
  rw [World.size_alloc, World.size_alloc] at bN
  have hB0 : Below w.heap.size w (((w.alloc (.cells #[.slice none 0 0] 56)).alloc (.cells #[.int .i64 0] 3)).alloc (.cells #[.slice p n c] 31)) := (((Below.refl _ w).alloc (Nat.le_refl _) _).alloc (by simp) _).alloc (by simp; omega) _
  have hs0 : (((w.alloc (.cells #[.slice none 0 0] 56)).alloc (.cells #[.int .i64 0] 3)).alloc (.cells #[.slice p n c] 31)).heap.size = w.heap.size + 3 := by simp
  have bO := (bO.alloc (.cells #[.int .i64 0] 3)).alloc (.cells #[.slice p n c] 31)
  have bE := bE.alloc (.cells #[.slice p n c] 31)
  generalize ((w.alloc (.cells #[.slice none 0 0] 56)).alloc (.cells #[.int .i64 0] 3)).alloc (.cells #[.slice p n c] 31) = W0 at *
  have hE0 := hE.lt
  have hseq := all1_seq 8 (by omega) (w.heap.size + 2) w.heap.size (w.heap.size + 3) p n c l W0 (hE.below hB0 hE0) hE0 (by omega) bN.cell (fun W' ht => bs_touch (hB.below hB0) ht (fun h0 a ha h => by have := hpb h0 a ha; have := h.1; omega)) hn
  have HSI : Hid (SI w l [] W0) := ⟨⟨_, bO, LsO.nil _ _⟩, ⟨0, bE, At.zero l⟩, hB0, by omega⟩
  refine rangeG (by omega) rfl (enters_of Tryz.func75 (by kernel_rfl) rfl) hseq (fun k hk => ⟨by omega, by omega⟩) (Below.refl _ _) (fun _ => rfl) (fg_own l _ _) (SI w l) (fun _ _ _ => False) (si_own w l _ (by omega)) (fun _ _ _ _ _ hs _ _ => hs) HSI.out
    (fun x => { tmps := #[.slice p n c, undef, .slice none 0 0, .int .i64 0, .pointer (some ⟨w.heap.size, 0, none⟩), .pointer (some ⟨w.heap.size + 1, 0, none⟩), .int .i64 (x.at_ : Int), .slice x.p x.body.length x.c, .slice p n c, .func (.func 75) #[] #[.pointer (some ⟨w.heap.size + 1 + 1, 0, none⟩)], .int .i64 (x.at_ : Int), .slice x.p x.body.length x.c, undef, undef, undef, undef, undef, undef, undef, undef, undef, undef], defers := [] }) ?assign ?body ?done ?stop
  case assign =>
    intro l x W K hK
    unfold FX.enc
    gi_wp2
    exact hK
  case body =>
    rintro L pre x W ⟨⟨v, b1, l1⟩, ⟨k, b2, a2⟩, lo, hWs⟩ ⟨⟨g1, g2, g3⟩, g4⟩
    have hc1 := b1.cell
    have hf1 := b1.frozen
    have hc2 := b2.cell
    have hf2 := b2.frozen
    obtain ⟨hs, h1, h2⟩ := l1.all
    obtain ⟨i0, hi, hz0, hz1, hz2⟩ := info_parts infoS
    have hpl : 9 * (bodies pre).length ≤ x.at_ ∧ x.at_ ≤ n := by have := g1.1; have := g1.2.1.1; have := hB.length; omega
    have hnx := g1.next g2
    rw [← g3, ← bodies_snoc] at hnx
    have hsz1 := one_ok g2
    rw [← g3] at hsz1
    obtain ⟨sz1, sz2, sz3, _⟩ := hsz1
    rw [sz3] at hnx
    rw [List.length_drop, hB.length] at sz2
    have hxl : x.body.length ≤ 1000000 := by omega
    have HNX := Lib.hid hnx
    clear hnx g1 g2 g3
    gi_wp2_with (first
      | (gi_at_builtin; refine wpListIn_append_own _ rfl _ _ 56 rfl (w.heap.size + 3) 31 i0 (.slice none 0 0) 1 24 Tryz.underlying56 hi hz0 hz1 hz2 rfl (by decide) _ _ _ rfl (h1.alloc _) ⟨W.heap.size, 0, none⟩ 1 1 [.slice x.p x.body.length x.c] rfl rfl (cell_one_new _ _ _) (by simp [Value.oneCell']) (by simp [maxLen]; omega) (by omega) (by simp; omega) ?_; intro v' w1 hown' hgrow _; obtain ⟨g', cap', rfl⟩ := ownsRow_succ hown'; obtain ⟨hv1, hv2, hr2, hk2, hb2⟩ := b1.appended (by decide) (own_base (base' := w.heap.size) h1 (fun i hi => by have := (h1.lt i hi).1; omega)) lo.size (Nat.le_refl _) (own_base (base' := w.heap.size) hown' (fun i hi => by have := (hown'.lt i hi).1; omega)) hgrow; have hc1 := hv1.cell; have hf1 := hv1.frozen; have bE2 := ((b2.alloc _).kept hgrow (b2.not_row (by decide) h1)).other (show w.heap.size + 1 ≠ w.heap.size by omega) (.slice (some ⟨g', 0, none⟩) ((bodies pre).length + 1) cap'); have hc3 := bE2.cell; have hf3 := bE2.frozen)
      | (refine ⟨trivial, ?_⟩; gi_at_call 57; refine (CallsIn.inRound L (callsIn_wide.2 (size_any _ _ _ (by omega) _))).mono ?_; rintro e w' ⟨rfl, rfl⟩))
    have hpu := (LsO.push h1 h2 g4 hown' hgrow).set hv1 (by decide) (by decide) (.slice (some ⟨g', 0, none⟩) ((bodies pre).length + 1) cap')
    rw [← bodies_snoc] at hpu
    have hcast : (x.at_ : Int) + (8 + (x.body.length : Int)) = ((x.at_ + (8 + x.body.length) : Nat) : Int) := by omega
    rw [hcast]
    refine ⟨(hk2.from _).trans ((KeepsOthers.setCell _ _ _).from _), ?_, ⟨_, hv2.other (by omega) _, hpu.set bE2 (by decide) (by decide) _⟩, ⟨_, bE2.set _, HNX.out⟩, (lo.trans hb2).setCell (p := ⟨w.heap.size + 1, 0, none⟩) (by simp) _, ?_⟩
    rotate_left
    · have := hgrow.size; simp [World.setCell] at this ⊢; omega
    exact (((Turns.of_below (Below.allocs W _)).trans (Turns.grown hgrow (fun i hi => ⟨by have := (h1.lt i hi).1; omega, by have := (h1.lt i hi).1; omega⟩)) (fun _ _ h => h)).setCell (p := ⟨w.heap.size, 0, none⟩) (fun _ => ⟨Nat.le_refl _, by simp⟩) _).setCell (p := ⟨w.heap.size + 1, 0, none⟩) (fun _ => ⟨by simp, by simp⟩) _
  case done =>
    rintro D xs W hD ⟨k, hk, hk2⟩ ⟨⟨v, b1, l1⟩, ⟨k1, b2, a2⟩, lo, hWs⟩ hK
    have hc1 := b1.cell
    have hc2 := b2.cell
    have hsc := hk.last hk2 a2
    have HSC := Lib.hid hsc
    clear hsc hk hk2 a2
    gi_wp2
    refine wpIn_wide.2 ?_
    go_region
    gi_wp2
    refine ⟨by simp, .inl ⟨_, _, rfl, run_takeDeferred (w := W.drew) hK, ?_⟩⟩
    have hput : Below w.heap.size w (W.drew.putObj D (.deferred none)) := lo.drew.trans (belowK_b (w := w) (Nat.le_refl _) W.drew D _ _ (by omega) hK rfl rfl)
    have hl2 := ls_kept (w := W.drew) (l1.below (below_drew1 _ _)) (w' := W.drew.putObj D (.deferred none)) (row := some D) (grownBy_putObj' W.drew D (.deferred none)) (fun r e => by cases e; exact ⟨_, hK, rfl⟩)
    refine ⟨_, results_tmp2 rfl _ _ _, v, by rw [HSC.out]; rfl, ?_, hput⟩
    rw [HSC.out]
    exact LsO.low hl2 (by omega)
  case stop =>
    rintro D c pre W _ _ h _
    exact h.elim
theorem scan_any (p : Option Addr) (n c : Nat) (l : List UInt8) (w : World) (hE : EType w) (hB : Bs w p n c l) (hpb : 0 < n → ∀ a, p = some a → a.block < w.heap.size) (hn : n ≤ 1000000) :
    Calls Tryz.prog 50 #[.slice p n c] w (ScanP l w) :=
  (scanO_any p n c l w hE hB hpb hn).mono fun _ _ ⟨v, h1, h2, h3⟩ => ⟨v, h1, h2.ls, h3⟩
end Go.Proofs.YtkacmgfehmjijaaGreatDoor.Frm

namespace Go.Proofs.YtkacmgfehmjijaaGreatDoor.Frm
open Go.RowKit Go.Mir Go.Mir.Parts Wr Cod Cut Rdr

theorem bs_block {w : World} {p : Option Addr} {n c : Nat} {l : List UInt8} (h : Bs w p n c l) : 0 < n → ∀ a, p = some a → a.block < w.heap.size := fun h0 a ha => by
  obtain ⟨b, o, rfl⟩ := h.addr h0 (by omega)
  obtain rfl := Option.some.inj ha
  exact block_lt_of_cell (Bs.byte h (j := 0) (by have := h.length; omega))
set_option maxRecDepth 100000 in
set_option maxHeartbeats 1600000 in
theorem same_any (p p2 : Option Addr) (n c n2 c2 : Nat) (la lb : List (List UInt8)) (w : World) (hA : Pts w p n c la) (hB : Pts w p2 n2 c2 lb) :
    Calls Tryz.prog 20 #[.slice p n c, .slice p2 n2 c2] w fun e w' => e = .returned (.bool (la == lb)) ∧ Below w.heap.size w w' := by
  have HA := Lib.hid hA
  have HB := Lib.hid hB
  have ha := hA.le
  have hb := hB.le
  have ham := hA.max
  have hbm := hB.max
  obtain rfl : la.length = n := hA.len
  obtain rfl : lb.length = n2 := hB.len
  clear hA hB
  by_cases hl : la.length = lb.length
  · have hlen : ((la.length : Int) == (lb.length : Int)) = true := by rw [beq_iff_eq]; omega
    have hlen2 : ((la.length : Int) != (lb.length : Int)) = false := by rw [bne_eq_false_iff_eq]; omega
    have HL := Lib.hid hl
    clear hl
    go_enter Tryz.func20, Tryz.ntmps20
    go_wp2_with fail
    go_loopw [5] (fun j wr => ∃ k : Nat, k ≤ la.length ∧ j = .int .i64 k ∧ la.take k = lb.take k ∧ Below w.heap.size w wr) (fun j _ => la.length - (intOf j).toNat)
    case atStart => exact ⟨0, by omega, rfl, rfl, Below.refl _ _⟩
    case round =>
      obtain ⟨k, hk, rfl, heq, hbw⟩ := hrel
      have HEQ := Lib.hid heq
      have HBW := Lib.hid hbw
      clear heq hbw
      by_cases hlt : k < la.length
      · have hlt2 : k < lb.length := by rw [← HL.out]; exact hlt
        obtain ⟨b, o, rfl⟩ := HA.out.addr (by omega)
        obtain ⟨b2, o2, rfl⟩ := HB.out.addr (by omega)
        obtain ⟨q, m, d, e1, f1⟩ := (HA.out.below HBW.out).cell _ rfl k hlt
        obtain ⟨q2, m2, d2, e2, f2⟩ := (HB.out.below HBW.out).cell _ rfl k hlt2
        rw [add_none] at e1 e2
        have HST : Hid (la[k]'hlt = lb[k]'hlt2 → la.take (k + 1) = lb.take (k + 1)) := fun e => by rw [take_snoc la k hlt, take_snoc lb k hlt2, HEQ.out, e]
        have HNE : Hid (¬ la[k]'hlt = lb[k]'hlt2 → (la == lb) = false) := fun h => by
          rw [beq_eq_false_iff_ne]; intro e; subst e; exact h rfl
        generalize la[k]'hlt = x at *
        generalize lb[k]'hlt2 = y at *
        have hd : decide ((k : Int) < (la.length : Int)) = true := decide_eq_true (by omega)
        have HE1 : Hid (∀ w', Below wr.heap.size wr w' → w'.cell? ⟨b, o + k, none⟩ = some (.slice q m d)) := fun w' hb => cell_below e1 hb
        have HE2 : Hid (∀ w', Below wr.heap.size wr w' → w'.cell? ⟨b2, o2 + k, none⟩ = some (.slice q2 m2 d2)) := fun w' hb => cell_below e2 hb
        have HC1 : Hid (∀ w', Below wr.heap.size wr w' → (convert 31 9 (.slice q m d)).run Tryz.prog w' = .ok (.string (S x)) w') := fun w' hb => bconv (f1.below hb)
        have HC2 : Hid (∀ w', Below wr.heap.size wr w' → (convert 31 9 (.slice q2 m2 d2)).run Tryz.prog w' = .ok (.string (S y)) w') := fun w' hb => bconv (f2.below hb)
        clear e1 e2 f1 f2
        go_wp2_with fail
        refine wp_region_eager [(0, true), (1, true), (2, true), (3, true), (4, true), (5, true), (6, true), (7, true), (8, true), (9, true), (10, true)] (by kernel_rfl) (by kernel_rfl) (eagerOpen rfl ?_)
        repeat (first
          | (first | (apply wpEager_take; (· rfl); (· (intro w' hb'; go_simp; try with_reducible rfl)); (try simp only [Act.put, List.setIfInBounds_toArray, List.set_cons_zero, List.set_cons_succ]); (try refine eagerOpen rfl ?_)) | (refine wpEager_skip (by rfl) ?_; (try simp only [Act.put, List.setIfInBounds_toArray, List.set_cons_zero, List.set_cons_succ]); (try refine eagerOpen rfl ?_)) | (refine wpEager_off (by rfl) ?_; (try simp only [Act.put, List.setIfInBounds_toArray, List.set_cons_zero, List.set_cons_succ]); (try refine eagerOpen rfl ?_)))
          | (apply wpEager_take; (· rfl); (· (intro w' hb'; have hk' := (fun w' hb => HE1.out w' hb) w' hb'; go_split_ands; go_simp; try with_reducible rfl)); (try simp only [Act.put, List.setIfInBounds_toArray, List.set_cons_zero, List.set_cons_succ]); (try refine eagerOpen rfl ?_))
          | (apply wpEager_take; (· rfl); (· (intro w' hb'; have hk' := (fun w' hb => HE2.out w' hb) w' hb'; go_split_ands; go_simp; try with_reducible rfl)); (try simp only [Act.put, List.setIfInBounds_toArray, List.set_cons_zero, List.set_cons_succ]); (try refine eagerOpen rfl ?_))
          | (apply wpEager_take; (· rfl); (· (intro w' hb'; have hk' := (fun w' hb => HC1.out w' hb) w' hb'; go_split_ands; go_simp; try with_reducible rfl)); (try simp only [Act.put, List.setIfInBounds_toArray, List.set_cons_zero, List.set_cons_succ]); (try refine eagerOpen rfl ?_))
          | (apply wpEager_take; (· rfl); (· (intro w' hb'; have hk' := (fun w' hb => HC2.out w' hb) w' hb'; go_split_ands; go_simp; try with_reducible rfl)); (try simp only [Act.put, List.setIfInBounds_toArray, List.set_cons_zero, List.set_cons_succ]); (try refine eagerOpen rfl ?_)))
        refine eagerEnd ?_
        have HBD : Hid (Below w.heap.size w wr.drew) := HBW.out.trans ((below_drew1 _ _).mono HBW.out.size)
        clear HE1 HE2 HC1 HC2
        by_cases hxy : x = y
        · have hbq : (x == y) = true := by rw [beq_iff_eq]; exact hxy
          have HN := Lib.hid (HST.out hxy)
          clear hxy
          rw [hbq]
          simp only [Bool.not_true, Bool.not_false]
          go_wp2_with fail
          go_roundw
          case rel => exact ⟨k + 1, by omega, by go_num, HN.out, HBD.out⟩
          case measure => simp [intOf]; omega
        · have hbq : (x == y) = false := by rw [beq_eq_false_iff_ne]; exact hxy
          have HN := Lib.hid (HNE.out hxy)
          clear hxy
          rw [hbq]
          simp only [Bool.not_true, Bool.not_false]
          go_wp2_with fail
          go_ret
          exact ⟨by rw [HN.out]; rfl, HBD.out⟩
      · have HR : Hid ((la == lb) = true) := by
          show _ = _
          have h1 := HEQ.out
          rw [List.take_of_length_le (by omega), List.take_of_length_le (by rw [← HL.out]; omega)] at h1
          rw [beq_iff_eq]; exact h1
        have hd : decide ((k : Int) < (la.length : Int)) = false := decide_eq_false (by omega)
        go_wp2_with fail
        go_ret
        exact ⟨by rw [HR.out]; rfl, HBW.out⟩
  · have hlen : ((la.length : Int) == (lb.length : Int)) = false := by rw [beq_eq_false_iff_ne]; omega
    have HR : Hid ((la == lb) = false) := by
      show _ = _
      rw [beq_eq_false_iff_ne]; intro e; exact hl (by rw [e])
    clear hl
    go_enter Tryz.func20, Tryz.ntmps20
    go_wp2_with fail
    go_ret
    exact ⟨by rw [HR.out]; rfl, Below.refl _ _⟩
end Go.Proofs.YtkacmgfehmjijaaGreatDoor.Frm

namespace Go.Proofs.YtkacmgfehmjijaaGreatDoor.CrcW
open Go.RowKit Go.Mir

theorem infoB : (Tryz.prog.info? 5).map (fun i => (i.zero, i.size, i.bytes)) = some (some (.int .u8 0), 1, 1) := by kernel_rfl

theorem bit_int (x : BitVec 32) (k : Nat) : (((x.toNat : Int) / 2 ^ k).tmod 2 == 1) = x.getLsbD k := by
  have e : ((x.toNat : Int) / 2 ^ k) = ((x.toNat / 2 ^ k : Nat) : Int) := by
    rw [Int.natCast_ediv, Int.natCast_pow]; rfl
  rw [e, Int.tmod_eq_emod_of_nonneg (Int.natCast_nonneg _)]
  rw [BitVec.getLsbD, Nat.testBit_eq_decide_div_mod_eq]
  by_cases h : x.toNat / 2 ^ k % 2 = 1
  · rw [h, beq_iff_eq.2 (show (((x.toNat / 2 ^ k : Nat) : Int) % 2) = 1 by omega)]; rfl
  · rw [decide_eq_false h, beq_eq_false_iff_ne]; omega

def flipped (y : UInt8) (r : Nat) : UInt8 := UInt8.ofNat (y.toNat ^^^ 2 ^ r)
theorem flipped_toNat (y : UInt8) (r : Nat) (hr : r < 8) : (flipped y r).toNat = y.toNat ^^^ 2 ^ r := by
  have h1 : (2 : Nat) ^ r < 2 ^ 8 := Nat.pow_lt_pow_right (by omega) hr
  have h2 : y.toNat ^^^ 2 ^ r < 2 ^ 8 := Nat.xor_lt_two_pow y.toNat_lt h1
  rw [flipped, UInt8.toNat_ofNat']
  exact Nat.mod_eq_of_lt h2
theorem flip_int (y : UInt8) (r : Nat) (hr : r < 8) : bits BinOp.xor IntKind.u8 (y.toNat : Int) (2 ^ r % 256) = ((flipped y r).toNat : Int) := by
  have h1 : (2 : Nat) ^ r < 2 ^ 8 := Nat.pow_lt_pow_right (by omega) hr
  have e : ((2 : Int) ^ r % 256) = ((2 ^ r : Nat) : Int) := by
    rw [Int.natCast_pow]
    have h3 : ((2 ^ r : Nat) : Int) = (2 : Int) ^ r := Int.natCast_pow 2 r
    rw [show ((2 : Nat) : Int) = 2 from rfl, ← h3]
    exact Int.emod_eq_of_lt (Int.natCast_nonneg _) (by omega)
  rw [e, u8_xor_nat _ _ y.toNat_lt (by omega), flipped_toNat y r hr]
theorem bits_set (m : List UInt8) (t : Nat) (ht : t / 8 < m.length) (j : Nat) : Crc.bitAt (m.set (t / 8) (flipped m[t / 8] (t % 8))) j = (Crc.bitAt m j ^^ decide (j = t)) := by
  unfold Crc.bitAt
  by_cases h : j / 8 = t / 8
  · have e1 : (m.set (t / 8) (flipped m[t / 8] (t % 8))).getD (j / 8) 0 = flipped m[t / 8] (t % 8) := by
      rw [h]; simp [ht]
    have e2 : m.getD (j / 8) 0 = m[t / 8] := by rw [h]; simp [ht]
    rw [e1, e2, flipped_toNat _ _ (by omega), Nat.testBit_xor, Nat.testBit_two_pow]
    congr 1
    have : (t % 8 = j % 8) ↔ (j = t) := by omega
    simp [this]
  · have e1 : (m.set (t / 8) (flipped m[t / 8] (t % 8))).getD (j / 8) 0 = m.getD (j / 8) 0 := by
      simp [List.getElem?_set, Ne.symm h]
    rw [e1, decide_eq_false (fun e => h (by rw [e]))]
    simp
theorem bytesV_set (m : List UInt8) (j : Nat) (y : UInt8) : bytesV (m.set j y) = (bytesV m).set j (.int .u8 (y.toNat : Int)) := by simp [bytesV, List.map_set]

end Go.Proofs.YtkacmgfehmjijaaGreatDoor.CrcW

namespace Go.Proofs.YtkacmgfehmjijaaGreatDoor.Frm
open Go.RowKit Go.Mir Go.Mir.Parts Wr Cod Cut Rdr

theorem frame_length (l : List UInt8) : (frame l).length = 8 + l.length := by unfold frame; simp only [List.length_append, be_length]
theorem frame_four (l : List UInt8) (r : List UInt8) : (frame l ++ r).take 4 = be l.length 4 := by
  unfold frame
  rw [List.append_assoc, List.append_assoc, List.take_append_of_le_length (by rw [be_length]; omega), List.take_of_length_le (by rw [be_length]; omega)]
theorem frame_body (l r : List UInt8) : ((frame l ++ r).drop 8).take l.length = l := by
  unfold frame
  rw [List.append_assoc, List.drop_append_of_le_length (by simp [be_length]), List.drop_of_length_le (by simp [be_length]), List.nil_append, List.take_append_of_le_length (by omega), List.take_of_length_le (by omega)]
theorem frame_take (l r : List UInt8) : (frame l ++ r).take (8 + l.length) = frame l := by
  rw [← frame_length, List.take_append_of_le_length (Nat.le_refl _), List.take_of_length_le (Nat.le_refl _)]
/-- there and back, whatever is behind -/
theorem one_frame (l r : List UInt8) (h1 : 1 ≤ l.length) (h2 : l.length ≤ 65536) : one (frame l ++ r) = (l, 8 + l.length, 0) := by
  have hv : beN ((frame l ++ r).take 4) = l.length := by rw [frame_four, beN_be _ _ (by omega) (by omega)]
  have hl : (frame l ++ r).length = 8 + l.length + r.length := by rw [List.length_append, frame_length]
  unfold one
  rw [hv, if_neg (by omega), if_neg (by omega), if_neg (by omega), frame_body, frame_take, if_pos rfl]
theorem one_frame0 (l : List UInt8) (h1 : 1 ≤ l.length) (h2 : l.length ≤ 65536) : one (frame l) = (l, 8 + l.length, 0) := by
  have := one_frame l [] h1 h2
  rwa [List.append_nil] at this
/-- torn -/
theorem one_torn (l : List UInt8) (h1 : 1 ≤ l.length) (h2 : l.length ≤ 65536) (k : Nat) (hk : k < 8 + l.length) : one ((frame l).take k) = ([], 0, 2) := by
  have hl : ((frame l).take k).length = k := by rw [List.length_take, frame_length]; omega
  unfold one
  by_cases h4 : k < 4
  · rw [if_pos (by omega)]
  · have hv : beN (((frame l).take k).take 4) = l.length := by
      rw [List.take_take, Nat.min_eq_left (by omega)]
      have := frame_four l []
      rw [List.append_nil] at this
      rw [this, beN_be _ _ (by omega) (by omega)]
    rw [hv, if_neg (by omega), if_neg (by omega), if_pos (by omega)]
/-- bytes of which one is another have another sum -/
theorem more_byte (s : BitVec 32) (a : List UInt8) (x y : UInt8) (b : List UInt8) (h : Crc.more s (a ++ x :: b) = Crc.more s (a ++ y :: b)) : x = y := by
  unfold Crc.more at h
  have h1 : Crc.run (s ^^^ Crc.ones) (a ++ x :: b) = Crc.run (s ^^^ Crc.ones) (a ++ y :: b) := by
    have := congrArg (· ^^^ Crc.ones) h
    simpa [Crc.xx] using this
  rw [Crc.run_append, Crc.run_append] at h1
  generalize Crc.run (s ^^^ Crc.ones) a = r at h1
  have e : ∀ z, Crc.run r (z :: b) = Crc.run (Crc.iter Crc.step 8 (r ^^^ Crc.byteW z)) b := fun z => rfl
  rw [e, e, Crc.iter_xor, Crc.iter_xor, Crc.run_xor, Crc.run_xor] at h1
  have h2 : Crc.iter Crc.step (8 * b.length) (Crc.iter Crc.step 8 (Crc.byteW x)) = Crc.iter Crc.step (8 * b.length) (Crc.iter Crc.step 8 (Crc.byteW y)) := by
    have := congrArg (Crc.run (Crc.iter Crc.step 8 r) b ^^^ ·) h1
    simpa [← BitVec.xor_assoc] using this
  rw [← Crc.iter_add, ← Crc.iter_add] at h2
  have h3 : Crc.iter Crc.step (8 * b.length + 8) (Crc.byteW x ^^^ Crc.byteW y) = 0#32 := by rw [Crc.iter_xor, h2]; simp
  have h4 := Crc.xor_eq_zero (Crc.iter_ne _ _ h3)
  have h5 := congrArg BitVec.toNat h4
  rw [Crc.byteW_toNat, Crc.byteW_toNat] at h5
  exact UInt8.toNat_inj.1 h5
theorem set_split (l : List UInt8) (j : Nat) (hj : j < l.length) (y : UInt8) : l.set j y = l.take j ++ y :: l.drop (j + 1) := List.set_eq_take_append_cons_drop .. |>.trans (by rw [if_pos hj])
/-- turned, behind the length -/
theorem one_odd (l : List UInt8) (h1 : 1 ≤ l.length) (h2 : l.length ≤ 65536) (j : Nat) (h4 : 4 ≤ j) (hj : j < 8 + l.length) (y : UInt8) (hy : ¬ (frame l)[j]'(by rw [frame_length]; exact hj) = y) : one ((frame l).set j y) = ([], 0, 9) := by
  have hfl := frame_length l
  have hl : ((frame l).set j y).length = 8 + l.length := by rw [List.length_set, hfl]
  have ht4 : ((frame l).set j y).take 4 = be l.length 4 := by
    rw [List.take_set_of_le (by omega)]
    have := frame_four l []
    rwa [List.append_nil] at this
  have hv : beN (((frame l).set j y).take 4) = l.length := by rw [ht4, beN_be _ _ (by omega) (by omega)]
  unfold one
  rw [hv, if_neg (by omega), if_neg (by omega), if_neg (by omega), if_neg]
  intro he
  rw [List.take_of_length_le (by omega : ((frame l).set j y).length ≤ 8 + l.length)] at he
  have hbl : (((frame l).set j y).drop 8).length = l.length := by rw [List.length_drop, hl]; omega
  rw [List.take_of_length_le (by omega)] at he
  have hd : (frame l).drop 8 = l := by
    have := frame_body l []
    rw [List.append_nil] at this
    rwa [List.take_of_length_le (by rw [List.length_drop, hfl]; omega)] at this
  by_cases h8 : j < 8
  · have hd2 : ((frame l).set j y).drop 8 = l := by rw [List.drop_set_of_lt (by omega), hd]
    rw [hd2] at he
    have := congrArg (·[j]?) he
    simp only [List.getElem?_set, hfl] at this
    rw [if_pos trivial, if_pos hj, List.getElem?_eq_getElem (by omega)] at this
    exact hy (Option.some.inj this)
  · have hd2 : ((frame l).set j y).drop 8 = l.set (j - 8) y := by rw [List.drop_set, if_neg (by omega), hd]
    rw [hd2] at he
    have hjl : j - 8 < l.length := by omega
    -- the sum that stands in both
    have hs : ((frame l).set j y).drop 4 = ((frame l).drop 4).set (j - 4) y := by rw [List.drop_set, if_neg (by omega)]
    have e4 : (frame (l.set (j - 8) y)).drop 4 = ((frame l).drop 4).set (j - 4) y := by rw [he, hs]
    have c1 : ∀ m : List UInt8, (frame m).drop 4 = be (Crc.more 0#32 ([be m.length 4, m].flatten)).toNat 4 ++ m := fun m => by
      unfold frame
      rw [List.append_assoc, List.drop_append_of_le_length (by rw [be_length]; omega), List.drop_of_length_le (by rw [be_length]; omega), List.nil_append]
    rw [c1, c1] at e4
    have e5 := congrArg (List.take 4) e4
    rw [List.take_set_of_le (by omega), List.take_append_of_le_length (by rw [be_length]; omega), List.take_append_of_le_length (by rw [be_length]; omega), List.take_of_length_le (by rw [be_length]; omega), List.take_of_length_le (by rw [be_length]; omega)] at e5
    have b1 := (Crc.more 0#32 ([be (l.set (j - 8) y).length 4, l.set (j - 8) y].flatten)).isLt
    have b2 := (Crc.more 0#32 ([be l.length 4, l].flatten)).isLt
    have e6 := congrArg beN e5
    rw [beN_be _ _ (by omega) (by omega), beN_be _ _ (by omega) (by omega)] at e6
    have e7 := BitVec.eq_of_toNat_eq e6
    simp only [List.flatten_cons, List.flatten_nil, List.append_nil, List.length_set] at e7
    rw [set_split l _ hjl, ← List.append_assoc] at e7
    have hl2 : l = l.take (j - 8) ++ l[j - 8] :: l.drop (j - 8 + 1) := by
      rw [List.getElem_cons_drop, List.take_append_drop]
    rw [show be l.length 4 ++ l = (be l.length 4 ++ l.take (j - 8)) ++ l[j - 8] :: l.drop (j - 8 + 1) by rw [List.append_assoc, ← hl2]] at e7
    have e8 := more_byte _ _ _ _ _ e7
    apply hy
    rw [e8]
    have : (frame l)[j]? = l[j - 8]? := by
      have := congrArg (·[j - 8]?) hd
      simp only [List.getElem?_drop] at this
      rwa [show 8 + (j - 8) = j by omega] at this
    rw [List.getElem?_eq_getElem (by omega), List.getElem?_eq_getElem hjl] at this
    exact Option.some.inj this
/-- one behind the other, and something that is none -/
theorem scan_frames (t : List UInt8) (ht : ¬ (one t).2.2 = 0) : ∀ (ls : List (List UInt8)), (∀ x ∈ ls, 1 ≤ x.length ∧ x.length ≤ 65536) → scan (ls.flatMap frame ++ t) = (ls, (ls.flatMap frame).length)
  | [], _ => by rw [List.flatMap_nil, List.nil_append, scan_no ht]; rfl
  | x :: r, h => by
    have hx := h x (by simp)
    have ih := scan_frames t ht r (fun y hy => h y (by simp [hy]))
    have ho := one_frame x (r.flatMap frame ++ t) hx.1 hx.2
    rw [← List.append_assoc] at ho
    rw [List.flatMap_cons, scan_ok (by rw [ho]), ho]
    dsimp only
    have hd : ((frame x ++ r.flatMap frame ++ t)).drop (8 + x.length) = r.flatMap frame ++ t := by
      rw [List.append_assoc, ← frame_length, List.drop_append_of_le_length (Nat.le_refl _), List.drop_of_length_le (Nat.le_refl _), List.nil_append]
    rw [hd, ih, List.length_append, frame_length]
theorem flipped_ne (y : UInt8) (r : Nat) (hr : r < 8) : ¬ y = CrcW.flipped y r := fun h => by
  have h1 := congrArg UInt8.toNat h
  rw [CrcW.flipped_toNat y r hr] at h1
  have h2 : y.toNat ^^^ (y.toNat ^^^ 2 ^ r) = 0 := by rw [← h1]; simp
  rw [← Nat.xor_assoc, Nat.xor_self, Nat.zero_xor] at h2
  have := Nat.pow_pos (n := r) (show 0 < 2 by omega)
  omega
theorem one_zero : one (List.replicate 20 0) = ([], 0, 4) := by
  unfold one
  rw [if_neg (by decide), if_pos (by decide)]
end Go.Proofs.YtkacmgfehmjijaaGreatDoor.Frm

namespace Go.Proofs.YtkacmgfehmjijaaGreatDoor.Rol
open Go.RowKit Go.Mir Dk
open Frm (frame scan one frame_length scan_frames scan_ok scan_no one_torn one_frame one_frame0)

/-! ### what is scanned -/
theorem scan_len : ∀ (n : Nat) (l : List UInt8), l.length ≤ n → (scan l).2 ≤ l.length ∧ l.take (scan l).2 = (scan l).1.flatMap frame ∧ ∀ x ∈ (scan l).1, 1 ≤ x.length ∧ x.length ≤ 65536
  | 0, l, hn => by
    have hl : l = [] := List.length_eq_zero_iff.1 (by omega)
    subst hl
    rw [scan_no (by decide)]
    exact ⟨Nat.le_refl _, rfl, fun x hx => (nomatch hx)⟩
  | n + 1, l, hn => by
    by_cases ho : (one l).2.2 = 0
    · obtain ⟨a1, a2, a3, a4, a5, a6⟩ := Frm.one_ok ho
      have hdl : (l.drop (one l).2.1).length = l.length - (one l).2.1 := List.length_drop
      obtain ⟨b1, b2, b3⟩ := scan_len n (l.drop (one l).2.1) (by omega)
      rw [scan_ok ho]
      dsimp only
      refine ⟨by omega, ?_, fun x hx => ?_⟩
      · rw [List.flatMap_cons, a4, ← b2, List.take_add]
      · rcases List.mem_cons.1 hx with hx | hx
        · subst hx; exact ⟨a5, a6⟩
        · exact b3 x hx
    · rw [scan_no ho]
      exact ⟨Nat.zero_le _, by rw [List.take_zero]; rfl, fun x hx => (nomatch hx)⟩
theorem scan_le (l : List UInt8) : (scan l).2 ≤ l.length := (scan_len _ l (Nat.le_refl _)).1
theorem one_nil : ¬ (one []).2.2 = 0 := by decide
theorem scan_all (ls : List (List UInt8)) (h : ∀ x ∈ ls, 1 ≤ x.length ∧ x.length ≤ 65536) : scan (ls.flatMap frame) = (ls, (ls.flatMap frame).length) := by
  have := scan_frames [] one_nil ls h
  rwa [List.append_nil] at this
theorem scan_take (l : List UInt8) : scan (l.take (scan l).2) = scan l := by
  obtain ⟨h1, h2, h3⟩ := scan_len _ l (Nat.le_refl _)
  rw [h2, scan_all _ h3, ← h2, List.length_take, Nat.min_eq_left h1]

/-! ### what is done -/
def fD (d : DD) (i : Nat) : FD := (d.fs[i]?).getD FD.none
theorem fD_eq {d : DD} {i : Nat} (h : i < d.fs.length) : d.fs[i] = fD d i := by
  unfold fD; rw [List.getElem?_eq_getElem h]; rfl
def appD (d : DD) (i : Nat) (b : List UInt8) : DD :=
  if b.length = 0 then d else if doE d i (fD d i) (.put (frame b)) = 0 then syncD (doD d i (fD d i) (.put (frame b))) i (fD (doD d i (fD d i) (.put (frame b))) i) else doD d i (fD d i) (.put (frame b))
def appE (d : DD) (i : Nat) (b : List UInt8) : Int :=
  if b.length = 0 then 1 else if doE d i (fD d i) (.put (frame b)) = 0 then syncE (doD d i (fD d i) (.put (frame b))) else doE d i (fD d i) (.put (frame b))
/-- a cut, and a sync -/
def clrD (d : DD) (i m : Nat) : DD :=
  if doE d i (fD d i) (.cut m) = 0 then syncD (doD d i (fD d i) (.cut m)) i (fD (doD d i (fD d i) (.cut m)) i) else doD d i (fD d i) (.cut m)
def clrE (d : DD) (i m : Nat) : Int :=
  if doE d i (fD d i) (.cut m) = 0 then syncE (doD d i (fD d i) (.cut m)) else doE d i (fD d i) (.cut m)
def endD (d : DD) (i : Nat) : DD := if unitsAll (fD d i).steps = 0 then d else syncD d i (fD d i)
def endE (d : DD) (i : Nat) : Int := if unitsAll (fD d i).steps = 0 then 0 else syncE d
def mendD (d : DD) (i : Nat) : DD :=
  if (scan (fD d i).now).2 < (fD d i).now.length then (if doE d i (fD d i) (.cut (scan (fD d i).now).2) = 0 then endD (doD d i (fD d i) (.cut (scan (fD d i).now).2)) i else doD d i (fD d i) (.cut (scan (fD d i).now).2)) else endD d i
def mendE (d : DD) (i : Nat) : Int :=
  if (scan (fD d i).now).2 < (fD d i).now.length then (if doE d i (fD d i) (.cut (scan (fD d i).now).2) = 0 then endE (doD d i (fD d i) (.cut (scan (fD d i).now).2)) i else doE d i (fD d i) (.cut (scan (fD d i).now).2)) else endE d i

/-! ### a disk of one file -/
def dI (room fuse : Nat) (down : Bool) (i : Nat) (f : FD) : DD := ⟨[FD.none, FD.none, FD.none].set i f, room, fuse, down⟩
def fS (x : List UInt8) : FD := ⟨x, x, [], x.length⟩
theorem new_dI (room i : Nat) : DD.new room = dI room 0 false i (fS []) := by
  unfold DD.new dI
  congr 1
  match i with
  | 0 => rfl
  | 1 => rfl
  | 2 => rfl
  | i + 3 => rfl
theorem fD_dI (room fuse : Nat) (down : Bool) (i : Nat) (hi : i < 3) (f : FD) : fD (dI room fuse down i f) i = f := by
  match i, hi with
  | 0, _ => rfl
  | 1, _ => rfl
  | 2, _ => rfl
theorem used_dI (room fuse : Nat) (down : Bool) (i : Nat) (hi : i < 3) (f : FD) : usedL (dI room fuse down i f).fs = f.need := by
  match i, hi with
  | 0, _ => rfl
  | 1, _ => show 0 + (f.need + 0) = _; omega
  | 2, _ => show 0 + (0 + (f.need + 0)) = _; omega
theorem set_dI (room fuse : Nat) (down : Bool) (i : Nat) (f g : FD) : setF (dI room fuse down i f) i g = dI room fuse down i g := by
  unfold setF dI
  simp only [List.set_set]
theorem burn_dI (room fuse : Nat) (down : Bool) (i : Nat) (f : FD) : (dI room fuse down i f).burn = if 0 < fuse then dI room (fuse - 1) (decide (fuse = 1)) i f else dI room fuse down i f := rfl
theorem none_settle (u : Nat) : FD.none.settle u = FD.none := rfl
theorem crash_dI (us : List Int) (room fuse : Nat) (down : Bool) (i : Nat) (hi : i < 3) (f : FD) : crashD us (dI room fuse down i f) = dI room 0 false i (f.settle (crU us i f)) := by
  match i, hi with
  | 0, _ => rfl
  | 1, _ => rfl
  | 2, _ => rfl
/-- a step that fits -/
theorem do_dI (room fuse : Nat) (i : Nat) (hi : i < 3) (f : FD) (s : St) (h : max f.need (s.size f.now.length) ≤ room) :
    (doE (dI room fuse false i f) i f s = 0 ∧ doD (dI room fuse false i f) i f s = dI room (fuse - 1) false i (f.take s) ∧ fuse ≠ 1) ∨
    (doE (dI room fuse false i f) i f s = 18 ∧ doD (dI room fuse false i f) i f s = dI room 0 true i (f.take s) ∧ fuse = 1) := by
  have hu := used_dI room fuse false i hi f
  have e0 : ¬ (dI room fuse false i f).down = true := Bool.false_ne_true
  have e1 : ¬ (dI room fuse false i f).room < f.need - f.need + max f.need (s.size f.now.length) := by show ¬ room < _; omega
  unfold doE doD
  rw [hu, if_neg e0, if_neg e1, if_neg e0, if_neg e1, set_dI, burn_dI]
  by_cases h1 : fuse = 1
  · subst h1
    exact .inr ⟨rfl, rfl, rfl⟩
  · refine .inl ?_
    by_cases h0 : 0 < fuse
    · rw [if_pos h0, decide_eq_false h1]
      exact ⟨rfl, rfl, h1⟩
    · rw [if_neg h0]
      obtain rfl : fuse = 0 := by omega
      exact ⟨rfl, rfl, h1⟩
theorem sync_dI (room fuse : Nat) (i : Nat) (f : FD) :
    (syncE (dI room fuse false i f) = 0 ∧ syncD (dI room fuse false i f) i f = dI room (fuse - 1) false i (f.settle (unitsAll f.steps)) ∧ fuse ≠ 1) ∨
    (syncE (dI room fuse false i f) = 18 ∧ syncD (dI room fuse false i f) i f = dI room 0 true i f ∧ fuse = 1) := by
  have e0 : ¬ (dI room fuse false i f).down = true := Bool.false_ne_true
  unfold syncE syncD
  rw [if_neg e0, if_neg e0, burn_dI]
  by_cases h1 : fuse = 1
  · subst h1
    exact .inr ⟨rfl, rfl, rfl⟩
  · refine .inl ?_
    by_cases h0 : 0 < fuse
    · rw [if_pos h0, decide_eq_false h1]
      exact ⟨rfl, by rw [if_neg (show ¬ (dI room (fuse - 1) false i f).down = true from Bool.false_ne_true)]; exact set_dI _ _ _ _ _ _, h1⟩
    · rw [if_neg h0]
      obtain rfl : fuse = 0 := by omega
      exact ⟨rfl, by rw [if_neg (show ¬ (dI room 0 false i f).down = true from Bool.false_ne_true)]; exact set_dI _ _ _ _ _ _, h1⟩
theorem settle_put (x y : List UInt8) (n : Nat) : (⟨x, x ++ y, [.put y], n⟩ : FD).settle (unitsAll [.put y]) = fS (x ++ y) := by
  have h : someU x [.put y] (unitsAll [.put y]) = x ++ y := by
    rw [someU_all _ _ _ (Nat.le_refl _)]
    show (St.put y).act x (St.put y).units = _
    rw [act_full]
  show (⟨someU x _ _, someU x _ _, [], (someU x _ _).length⟩ : FD) = _
  rw [h]; rfl
theorem settle_cut (x : List UInt8) (g n : Nat) : (⟨x, x.take g, [.cut g], n⟩ : FD).settle (unitsAll [.cut g]) = fS (x.take g) := by
  have h : someU x [.cut g] (unitsAll [.cut g]) = x.take g := by
    rw [someU_all _ _ _ (Nat.le_refl _)]
    show (St.cut g).act x (St.cut g).units = _
    rw [act_full]
  show (⟨someU x _ _, someU x _ _, [], (someU x _ _).length⟩ : FD) = _
  rw [h]; rfl
theorem take_put (x y : List UInt8) : (fS x).take (.put y) = ⟨x, x ++ y, [.put y], x.length + y.length⟩ := by
  show (⟨x, (St.put y).act x (St.put y).units, [.put y], max x.length (x.length + y.length)⟩ : FD) = _
  rw [act_full, Nat.max_eq_right (by omega)]
theorem take_cut (x : List UInt8) (g : Nat) (h : g ≤ x.length) : (fS x).take (.cut g) = ⟨x, x.take g, [.cut g], x.length⟩ := by
  show (⟨x, (St.cut g).act x (St.cut g).units, [.cut g], max x.length g⟩ : FD) = _
  rw [act_full, Nat.max_eq_left h]
/-- bytes put, and a sync -/
theorem put_sync (room fuse : Nat) (i : Nat) (hi : i < 3) (x y : List UInt8) (h : x.length + y.length ≤ room) :
    (doE (dI room fuse false i (fS x)) i (fS x) (.put y) = 0 ∧ doD (dI room fuse false i (fS x)) i (fS x) (.put y) = dI room (fuse - 1) false i ⟨x, x ++ y, [.put y], x.length + y.length⟩ ∧ fuse ≠ 1 ∧
      ((syncE (dI room (fuse - 1) false i ⟨x, x ++ y, [.put y], x.length + y.length⟩) = 0 ∧ syncD (dI room (fuse - 1) false i ⟨x, x ++ y, [.put y], x.length + y.length⟩) i ⟨x, x ++ y, [.put y], x.length + y.length⟩ = dI room (fuse - 1 - 1) false i (fS (x ++ y)) ∧ fuse ≠ 2) ∨
       (syncE (dI room (fuse - 1) false i ⟨x, x ++ y, [.put y], x.length + y.length⟩) = 18 ∧ syncD (dI room (fuse - 1) false i ⟨x, x ++ y, [.put y], x.length + y.length⟩) i ⟨x, x ++ y, [.put y], x.length + y.length⟩ = dI room 0 true i ⟨x, x ++ y, [.put y], x.length + y.length⟩ ∧ fuse = 2))) ∨
    (doE (dI room fuse false i (fS x)) i (fS x) (.put y) = 18 ∧ doD (dI room fuse false i (fS x)) i (fS x) (.put y) = dI room 0 true i ⟨x, x ++ y, [.put y], x.length + y.length⟩ ∧ fuse = 1) := by
  have h1 := do_dI room fuse i hi (fS x) (.put y) (by show max x.length (x.length + y.length) ≤ room; omega)
  rw [take_put] at h1
  rcases h1 with ⟨a, b, c⟩ | h1
  · refine .inl ⟨a, b, c, ?_⟩
    have h2 := sync_dI room (fuse - 1) i ⟨x, x ++ y, [.put y], x.length + y.length⟩
    rw [settle_put] at h2
    rcases h2 with ⟨a2, b2, c2⟩ | ⟨a2, b2, c2⟩
    · exact .inl ⟨a2, b2, by omega⟩
    · exact .inr ⟨a2, b2, by omega⟩
  · exact .inr h1
theorem app_up (room fuse : Nat) (i : Nat) (hi : i < 3) (x b : List UInt8) (hb : 1 ≤ b.length) (h : x.length + (8 + b.length) ≤ room) :
    (appE (dI room fuse false i (fS x)) i b = 0 ∧ appD (dI room fuse false i (fS x)) i b = dI room (fuse - 2) false i (fS (x ++ frame b)) ∧ fuse ≠ 1 ∧ fuse ≠ 2) ∨
    (appE (dI room fuse false i (fS x)) i b = 18 ∧ appD (dI room fuse false i (fS x)) i b = dI room 0 true i ⟨x, x ++ frame b, [.put (frame b)], x.length + (frame b).length⟩ ∧ (fuse = 1 ∨ fuse = 2)) := by
  have hp := put_sync room fuse i hi x (frame b) (by rw [frame_length]; omega)
  have hb0 : ¬ b.length = 0 := by omega
  unfold appE appD
  rw [if_neg hb0, if_neg hb0, fD_dI _ _ _ _ hi]
  rcases hp with ⟨a, c, hf, hs⟩ | ⟨a, c, hf⟩
  · rw [if_pos a, if_pos a, c, fD_dI _ _ _ _ hi]
    rcases hs with ⟨a2, c2, hf2⟩ | ⟨a2, c2, hf2⟩
    · exact .inl ⟨a2, by rw [c2]; rfl, hf, hf2⟩
    · exact .inr ⟨a2, c2, .inr hf2⟩
  · have h18 : ¬ doE (dI room fuse false i (fS x)) i (fS x) (.put (frame b)) = 0 := by rw [a]; decide
    rw [if_neg h18, if_neg h18]
    exact .inr ⟨a, c, .inl hf⟩
theorem do_dn {d : DD} {i : Nat} {f : FD} {s : St} (h : d.down = true) : doD d i f s = d ∧ doE d i f s = 18 := by
  unfold doD doE
  rw [if_pos h, if_pos h]; exact ⟨rfl, rfl⟩
theorem app_down {d : DD} (i : Nat) (b : List UInt8) (hb : 1 ≤ b.length) (hd : d.down = true) : appE d i b = 18 ∧ appD d i b = d := by
  obtain ⟨e1, e2⟩ := do_dn (i := i) (f := fD d i) (s := .put (frame b)) hd
  have hb0 : ¬ b.length = 0 := by omega
  have h18 : ¬ (18 : Int) = 0 := by decide
  unfold appE appD
  rw [if_neg hb0, if_neg hb0, e2, if_neg h18, if_neg h18]
  exact ⟨rfl, e1⟩
theorem app_nil (d : DD) (i : Nat) (b : List UInt8) (hb : b.length = 0) : appE d i b = 1 ∧ appD d i b = d := by
  unfold appE appD
  rw [if_pos hb, if_pos hb]
  exact ⟨rfl, rfl⟩
theorem mend_up (room fuse : Nat) (i : Nat) (hi : i < 3) (x : List UInt8) (h : x.length ≤ room) :
    (mendE (dI room fuse false i (fS x)) i = 0 ∧ ∃ f', mendD (dI room fuse false i (fS x)) i = dI room f' false i (fS (x.take (scan x).2)) ∧ (fuse = 0 → f' = 0)) ∨
    (mendE (dI room fuse false i (fS x)) i = 18 ∧ mendD (dI room fuse false i (fS x)) i = dI room 0 true i ⟨x, x.take (scan x).2, [.cut (scan x).2], x.length⟩ ∧ fuse ≠ 0) := by
  have hsl := scan_le x
  unfold mendE mendD
  rw [fD_dI _ _ _ _ hi]
  by_cases hg : (scan x).2 < x.length
  · rw [if_pos (show (scan (fS x).now).2 < (fS x).now.length from hg), if_pos (show (scan (fS x).now).2 < (fS x).now.length from hg)]
    have h1 := do_dI room fuse i hi (fS x) (.cut (scan x).2) (by show max x.length (scan x).2 ≤ room; omega)
    rw [take_cut x _ hsl] at h1
    rcases h1 with ⟨a, c, hf⟩ | ⟨a, c, hf⟩
    · rw [show (scan (fS x).now).2 = (scan x).2 from rfl, a, if_pos rfl, if_pos rfl, c]
      unfold endE endD
      rw [fD_dI _ _ _ _ hi]
      have hu1 : ¬ unitsAll [St.cut (scan x).2] = 0 := by show ¬ 1 + 0 = 0; omega
      rw [if_neg hu1, if_neg hu1]
      have h2 := sync_dI room (fuse - 1) i ⟨x, x.take (scan x).2, [.cut (scan x).2], x.length⟩
      rw [settle_cut] at h2
      rcases h2 with ⟨a2, b2, c2⟩ | ⟨a2, b2, c2⟩
      · exact .inl ⟨a2, _, b2, by omega⟩
      · exact .inr ⟨a2, b2, by omega⟩
    · rw [show (scan (fS x).now).2 = (scan x).2 from rfl, a, if_neg (by decide), if_neg (by decide)]
      exact .inr ⟨rfl, c, by omega⟩
  · rw [if_neg (show ¬ (scan (fS x).now).2 < (fS x).now.length from hg), if_neg (show ¬ (scan (fS x).now).2 < (fS x).now.length from hg)]
    unfold endE endD
    rw [fD_dI _ _ _ _ hi, if_pos (show unitsAll (fS x).steps = 0 from rfl), if_pos (show unitsAll (fS x).steps = 0 from rfl), List.take_of_length_le (by omega)]
    exact .inl ⟨rfl, _, rfl, fun h => h⟩
/-- what a crash leaves of what was put -/
theorem crash_up (us : List Int) (room fuse : Nat) (down : Bool) (i : Nat) (hi : i < 3) (x : List UInt8) : crashD us (dI room fuse down i (fS x)) = dI room 0 false i (fS x) := crash_dI us room fuse down i hi (fS x)
theorem crash_put (us : List Int) (room fuse : Nat) (down : Bool) (i : Nat) (hi : i < 3) (x y : List UInt8) (n : Nat) : ∃ u, u ≤ y.length ∧ crashD us (dI room fuse down i ⟨x, x ++ y, [.put y], n⟩) = dI room 0 false i (fS (x ++ y.take u)) := by
  have hu : crU us i ⟨x, x ++ y, [.put y], n⟩ ≤ y.length := crU_le (us := us) (k := i) (f := ⟨x, x ++ y, [.put y], n⟩)
  refine ⟨crU us i ⟨x, x ++ y, [.put y], n⟩, hu, ?_⟩
  rw [crash_dI us room fuse down i hi]
  generalize crU us i ⟨x, x ++ y, [.put y], n⟩ = u at *
  have h : someU x [.put y] u = x ++ y.take u := by
    show (St.put y).act x (min u y.length) = _
    rw [Nat.min_eq_left (by omega)]; rfl
  show dI room 0 false i ⟨someU x [.put y] u, someU x [.put y] u, [], (someU x [.put y] u).length⟩ = _
  rw [h]; rfl
theorem crash_cut (us : List Int) (room fuse : Nat) (down : Bool) (i : Nat) (hi : i < 3) (x : List UInt8) (g n : Nat) : ∃ y, (y = x ∨ y = x.take g) ∧ crashD us (dI room fuse down i ⟨x, x.take g, [.cut g], n⟩) = dI room 0 false i (fS y) := by
  rw [crash_dI us room fuse down i hi]
  generalize crU us i ⟨x, x.take g, [.cut g], n⟩ = u
  refine ⟨someU x [.cut g] u, ?_, rfl⟩
  show (if min u 1 = 0 then x else x.take g) = x ∨ (if min u 1 = 0 then x else x.take g) = x.take g
  split
  · exact .inl rfl
  · exact .inr rfl
/-- frames, and a beginning of one more -/
theorem scan_more (ls : List (List UInt8)) (h : ∀ x ∈ ls, 1 ≤ x.length ∧ x.length ≤ 65536) (b : List UInt8) (h1 : 1 ≤ b.length) (h2 : b.length ≤ 65536) (u : Nat) (hu : u ≤ (frame b).length) :
    (scan (ls.flatMap frame ++ (frame b).take u)).1 = ls ∨ (scan (ls.flatMap frame ++ (frame b).take u)).1 = ls ++ [b] := by
  by_cases hk : u < 8 + b.length
  · rw [scan_frames _ (by rw [one_torn b h1 h2 u hk]; decide) ls h]
    exact .inl rfl
  · rw [List.take_of_length_le (by rw [frame_length]; omega)]
    rw [show ls.flatMap frame ++ frame b = (ls ++ [b]).flatMap frame by simp]
    rw [scan_all _ (fun x hx => by
      rcases List.mem_append.1 hx with hx | hx
      · exact h x hx
      · rw [List.mem_singleton] at hx; subst hx; exact ⟨h1, h2⟩)]
    exact .inr rfl
end Go.Proofs.YtkacmgfehmjijaaGreatDoor.Rol

namespace Go.Proofs.YtkacmgfehmjijaaGreatDoor.Rk
open Go.RowKit Go.Mir Go.Mir.Parts Dk Rol
open Frm (frame scan)
open Cut (Ls LsO)

theorem enc_ok {l : List UInt8} (h : 1 ≤ l.length) : Frm.enc l = (frame l, 0) := by unfold Frm.enc; rw [if_neg (by omega)]
theorem enc_no {l : List UInt8} (h : l.length = 0) : Frm.enc l = ([], 1) := by unfold Frm.enc; rw [if_pos h]
theorem RDB.put {x : World} {ts : List RF} {d : DD} {g : Nat} {M A : Array Value} (h : RDB x ts d) (hz : x.heap[g]? = some (.cells M 37 (0, 0))) : RDB (x.setRow g A) ts d := h.step (KR.of_turn (turns_setRow _ _ _) hz)
theorem RDB.fd {x : World} {ts : List RF} {d : DD} (h : RDB x ts d) {i : Nat} (hi : i < 3) : d.fs[i]? = some (fD d i) := by
  have hl : i < d.fs.length := by rw [h.m3]; exact hi
  rw [List.getElem?_eq_getElem hl, fD_eq hl]
theorem rput_in (ts : List RF) (d : DD) (i : Nat) (hi : i < 3) (p : Option Addr) (B : List UInt8) (c : Nat) (w : World) (h : RDB w ts d) (hur : usedL d.fs ≤ d.room) (hb : Bs w p B.length c B) (hu : B.length ≤ 60000) (hfew : (fD d i).steps.length + 1 ≤ 2199023255552) :
    Calls Tryz.prog 14 #[.agg (rdA ts d), .int .i64 (i : Int), .slice p B.length c] w (ROut (doD d i (fD d i) (.put B)) (doE d i (fD d i) (.put B)) w) :=
  rappend_of ts d _ _ i p B c w h.n3 h.m3 hb (by omega) (fun w1 q k hb1 hq => rdo_put ts d i hi (fD d i) (h.fd hi) B q k w1 (h.below hb1) hur hq hu hfew)
theorem rput_out (ts : List RF) (d : DD) (i : Int) (hi : i < 0 ∨ 3 ≤ i) (p : Option Addr) (B : List UInt8) (c : Nat) (w : World) (h : RDB w ts d) (hb : Bs w p B.length c B) (hu : B.length ≤ 60000) :
    Calls Tryz.prog 14 #[.agg (rdA ts d), .int .i64 i, .slice p B.length c] w (ROut d 1 w) :=
  rappend_of ts d _ _ i p B c w h.n3 h.m3 hb (by omega) (fun w1 q k hb1 _ => rdo_out ts d i hi _ _ _ w1 (h.below hb1) ⟨_, rfl⟩ ⟨_, rfl⟩)
theorem rcut_in (ts : List RF) (d : DD) (i : Nat) (hi : i < 3) (m : Nat) (hm : m ≤ (fD d i).now.length) (w : World) (h : RDB w ts d) (hur : usedL d.fs ≤ d.room) (hfew : (fD d i).steps.length + 1 ≤ 2199023255552) :
    Calls Tryz.prog 31 #[.agg (rdA ts d), .int .i64 (i : Int), .int .i64 (m : Int)] w (ROut (doD d i (fD d i) (.cut m)) (doE d i (fD d i) (.cut m)) w) :=
  rcut_of ts d _ _ i m w h.n3 h.m3 (fun w1 hb1 => rdo_cut ts d i hi (fD d i) (h.fd hi) m hm w1 (h.below hb1) hur hfew)
theorem rcut_out (ts : List RF) (d : DD) (i z : Int) (hi : i < 0 ∨ 3 ≤ i) (w : World) (h : RDB w ts d) :
    Calls Tryz.prog 31 #[.agg (rdA ts d), .int .i64 i, .int .i64 z] w (ROut d 1 w) :=
  rcut_of ts d _ _ i z w h.n3 h.m3 (fun w1 hb1 => rdo_out ts d i hi _ _ _ w1 (h.below hb1) ⟨_, rfl⟩ ⟨_, rfl⟩)
theorem rcut_bad (ts : List RF) (d : DD) (i : Nat) (hi : i < 3) (z : Int) (hm : z < 0 ∨ ((fD d i).now.length : Int) < z) (w : World) (h : RDB w ts d) :
    Calls Tryz.prog 31 #[.agg (rdA ts d), .int .i64 (i : Int), .int .i64 z] w (ROut d 1 w) :=
  rcut_of ts d _ _ i z w h.n3 h.m3 (fun w1 hb1 => rdo_cutbad ts d i hi (fD d i) (h.fd hi) z hm w1 (h.below hb1))
set_option maxRecDepth 100000 in
set_option maxHeartbeats 3200000 in
theorem rclr_any (ts : List RF) (d : DD) (i : Nat) (hi : i < 3) (w : World) (h : RDB w ts d) (hur : usedL d.fs ≤ d.room) (hfew : (fD d i).steps.length + 1 ≤ 2199023255552) :
    Calls Tryz.prog 12 #[.agg (rdA ts d), .int .i64 (i : Int)] w (ROut (clrD d i 0) (clrE d i 0) w) := by
  have hz := zeroD
  obtain ⟨q1, q2, q3, q4⟩ := boxes w ts d
  have HROW := Lib.hid q1
  have HZX := Lib.hid q2
  have HLOW := Lib.hid q4
  have HR := Lib.hid (h.below q4)
  have HI := Lib.hid hi
  have HUR := Lib.hid hur
  have HFEW := Lib.hid hfew
  clear q1 q2 q3 q4 h hi hur hfew
  have HN3 := Lib.hid HR.out.n3
  have HM3 := Lib.hid HR.out.m3
  obtain ⟨MD, hMD⟩ : ∃ MD, clrD d i 0 = MD := ⟨_, rfl⟩
  obtain ⟨ME, hME⟩ : ∃ ME, clrE d i 0 = ME := ⟨_, rfl⟩
  rw [hMD, hME]
  unfold clrD at hMD
  unfold clrE at hME
  go_enter Tryz.func12, Tryz.ntmps12
  go_upto_region 1 with fail
  generalize (w.alloc (.cells (rdA ts d) 37)).alloc (.cells zD 37) = w2 at *
  have HCL : Hid (Calls Tryz.prog 31 #[.agg (rdA ts d), .int .i64 (i : Int), .int .i64 0] w2 (ROut (doD d i (fD d i) (.cut 0)) (doE d i (fD d i) (.cut 0)) w2)) := rcut_in ts d i HI.out 0 (Nat.zero_le _) w2 HR.out HUR.out HFEW.out
  obtain ⟨D1, hD1⟩ : ∃ D1, doD d i (fD d i) (.cut 0) = D1 := ⟨_, rfl⟩
  obtain ⟨E1, hE1⟩ : ∃ E1, doE d i (fD d i) (.cut 0) = E1 := ⟨_, rfl⟩
  rw [hD1, hE1] at hMD HCL
  rw [hD1, hE1] at hME
  have HMD := Lib.hid hMD.symm
  have HME := Lib.hid hME.symm
  clear hD1 hE1 hMD hME
  go_wp2_with (refine wpList_load_row rfl 37 _ rfl w.heap.size rfl 37 (rdA ts d) (0, 0) _ HROW.out Tryz.underlying37 rfl (infoRD _ (rdA_size HR.out.n3 HR.out.m3)) ?_)
  refine HCL.out.mono ?_
  rintro e y1 ⟨TS, rfl, hrd, hy1⟩
  skip
  -- behind the first step: its result (y1, TS, D1, E1) is stored into the box; then a sync where it was OK
  -- SLOTS: RB the slot of the box (3 or 2)
  have HLY := Lib.hid (HLOW.out.trans (hy1.mono HLOW.out.size))
  have HZY := Lib.hid (Below.keepOld hy1 HZX.out)
  have HRY := Lib.hid (Below.keepOld hy1 HROW.out)
  have HRD := Lib.hid hrd
  clear HLOW HZX HROW HR hy1 hrd
  go_upto_region 2 with (refine wpList_store_row rfl 37 _ _ rfl w.heap.size (rdA TS D1) rfl rfl 37 (rdA ts d) HRY.out (infoRD _ (rdA_size HRD.out.n3 HRD.out.m3)) (by rw [rdA_size HRD.out.n3 HRD.out.m3, rdA_size HN3.out HM3.out]) (rdA_one HRD.out.n3 HRD.out.m3) ?_)
  try simp only [Act.put, List.setIfInBounds_toArray, List.set_cons_zero, List.set_cons_succ]
  have HR := Lib.hid (HRD.out.put (A := rdA TS D1) HRY.out)
  have HROW := Lib.hid (setRow_heap _ _ _ (rdA TS D1) _ _ HRY.out)
  have HZX : Hid ((y1.setRow w.heap.size (rdA TS D1)).heap[w.heap.size + 1]? = some (.cells zD 37 (0, 0))) := by show _ = _; rw [setRow_other _ _ _ _ (by omega)]; exact HZY.out
  have HLOW : Hid (Below w.heap.size w (y1.setRow w.heap.size (rdA TS D1))) := below_setRow HLY.out (Nat.le_refl _) _
  clear HRY HZY HLY HRD HN3 HM3
  generalize y1.setRow w.heap.size (rdA TS D1) = w3 at *
  by_cases he : E1 = 0
  · rw [if_pos he] at HME HMD
    have hb0 : (E1 == 0) = true := by rw [he]; rfl
    subst he
    go_upto_region 4 with fail
    go_wp2_with (refine wpList_load_row rfl 37 _ rfl w.heap.size rfl 37 (rdA TS D1) (0, 0) _ HROW.out Tryz.underlying37 rfl (infoRD _ (rdA_size HR.out.n3 HR.out.m3)) ?_)
    refine (rsync_in TS D1 i HI.out (fD D1 i) (HR.out.fd HI.out) w3 HR.out).mono ?_
    rw [← HME.out, ← HMD.out]
    rintro e y2 ⟨T2, rfl, hr2, hy2⟩
    have HLY := Lib.hid (HLOW.out.trans (hy2.mono HLOW.out.size))
    have HZY := Lib.hid (Below.keepOld hy2 HZX.out)
    have HRD := Lib.hid hr2
    clear HLOW HZX HROW HR hy2 hr2 HME HMD
    go_wp2_with (refine wpList_store_row rfl 37 _ _ rfl (w.heap.size + 1) (rdA T2 MD) rfl rfl 37 zD HZY.out (infoRD _ (rdA_size HRD.out.n3 HRD.out.m3)) (by rw [rdA_size HRD.out.n3 HRD.out.m3]; rfl) (rdA_one HRD.out.n3 HRD.out.m3) ?_)
    have HS := Lib.hid (setRow_heap _ _ _ (rdA T2 MD) _ _ HZY.out)
    refine bodyPost_ret (results_cell_tmp2 rfl _ _ _ _ _ _ _ rfl HS.out Tryz.underlying37 rfl (infoRD _ (rdA_size HRD.out.n3 HRD.out.m3))) rfl ?_
    exact ⟨T2, rfl, HRD.out.put HZY.out, below_setRow HLY.out (by omega) _⟩
  · rw [if_neg he] at HME HMD
    have hb0 : (E1 == 0) = false := beq_eq_false_iff_ne.2 he
    have f1 := HME.out
    have f2 := HMD.out
    clear HME HMD
    subst ME MD
    go_upto_region 3 with fail
    go_wp2_with (first
      | refine wpList_load_row rfl 37 _ rfl w.heap.size rfl 37 (rdA TS D1) (0, 0) _ HROW.out Tryz.underlying37 rfl (infoRD _ (rdA_size HR.out.n3 HR.out.m3)) ?_
      | refine wpList_store_row rfl 37 _ _ rfl (w.heap.size + 1) (rdA TS D1) rfl rfl 37 zD HZX.out (infoRD _ (rdA_size HR.out.n3 HR.out.m3)) (by rw [rdA_size HR.out.n3 HR.out.m3]; rfl) (rdA_one HR.out.n3 HR.out.m3) ?_)
    have HS := Lib.hid (setRow_heap _ _ _ (rdA TS D1) _ _ HZX.out)
    refine bodyPost_ret (results_cell_tmp2 rfl _ _ _ _ _ _ _ rfl HS.out Tryz.underlying37 rfl (infoRD _ (rdA_size HR.out.n3 HR.out.m3))) rfl ?_
    exact ⟨TS, rfl, HR.out.put HZX.out, below_setRow HLOW.out (by omega) _⟩
set_option maxRecDepth 100000 in
set_option maxHeartbeats 3200000 in
theorem rapp_any (ts : List RF) (d : DD) (i : Nat) (hi : i < 3) (p : Option Addr) (b : List UInt8) (c : Nat) (w : World) (h : RDB w ts d) (hur : usedL d.fs ≤ d.room) (hb : Bs w p b.length c b) (hn : b.length ≤ 4000) (hfew : (fD d i).steps.length + 1 ≤ 2199023255552) :
    Calls Tryz.prog 10 #[.agg (rdA ts d), .int .i64 (i : Int), .slice p b.length c] w (ROut (appD d i b) (appE d i b) w) := by
  have HBS := Lib.hid hb
  clear hb
  have hz := zeroD
  obtain ⟨q1, q2, q3, q4⟩ := boxes w ts d
  have HROW := Lib.hid q1
  have HZX := Lib.hid q2
  have HLOW := Lib.hid q4
  have HR := Lib.hid (h.below q4)
  have HI := Lib.hid hi
  have HUR := Lib.hid hur
  have HFEW := Lib.hid hfew
  clear q1 q2 q3 q4 h hi hur hfew
  have HB2 := Lib.hid (HBS.out.below HLOW.out)
  have HN3 := Lib.hid HR.out.n3
  have HM3 := Lib.hid HR.out.m3
  obtain ⟨MD, hMD⟩ : ∃ MD, appD d i b = MD := ⟨_, rfl⟩
  obtain ⟨ME, hME⟩ : ∃ ME, appE d i b = ME := ⟨_, rfl⟩
  rw [hMD, hME]
  unfold appD at hMD
  unfold appE at hME
  have HEN := Lib.hid (fun w' (hb : Bs w' p b.length c b) => Frm.rencode_any p b.length c b w' hb hn)
  go_enter Tryz.func10, Tryz.ntmps10
  go_upto_region 1 with fail
  generalize (w.alloc (.cells (rdA ts d) 37)).alloc (.cells zD 37) = w2 at *
  go_wp2_with fail
  refine (HEN.out w2 HB2.out).mono ?_
  by_cases h0 : b.length = 0
  · rw [enc_no h0]
    rw [if_pos h0] at hMD hME
    rintro e y1 ⟨p1, c1, rfl, _, hy1⟩
    have hl1 := HLOW.out.trans (hy1.mono HLOW.out.size)
    have hz1 := Below.keepOld hy1 HZX.out
    have hr1 := Below.keepOld hy1 HROW.out
    have hd1 := HR.out.below hy1
    clear HLOW HZX HROW HR hy1 HEN HB2
    have HLOW := Lib.hid hl1
    have HZX := Lib.hid hz1
    have HROW := Lib.hid hr1
    have HR := Lib.hid hd1
    clear hl1 hz1 hr1 hd1
    subst MD ME
    go_upto_region 3 with fail
    go_wp2_with (first
      | refine wpList_load_row rfl 37 _ rfl w.heap.size rfl 37 (rdA ts d) (0, 0) _ HROW.out Tryz.underlying37 rfl (infoRD _ (rdA_size HR.out.n3 HR.out.m3)) ?_
      | refine wpList_store_row rfl 37 _ _ rfl (w.heap.size + 1) (rdA ts d) rfl rfl 37 zD HZX.out (infoRD _ (rdA_size HR.out.n3 HR.out.m3)) (by rw [rdA_size HR.out.n3 HR.out.m3]; rfl) (rdA_one HR.out.n3 HR.out.m3) ?_)
    have HS := Lib.hid (setRow_heap _ _ _ (rdA ts d) _ _ HZX.out)
    refine bodyPost_ret (results_cell_tmp2 rfl _ _ _ _ _ _ _ rfl HS.out Tryz.underlying37 rfl (infoRD _ (rdA_size HR.out.n3 HR.out.m3))) rfl ?_
    exact ⟨ts, rfl, HR.out.put HZX.out, below_setRow HLOW.out (by omega) _⟩
  · rw [enc_ok (by omega)]
    rw [if_neg h0] at hMD hME
    rintro e y0 ⟨p1, c1, rfl, ho1, hy0⟩
    have hl1 := HLOW.out.trans (hy0.mono HLOW.out.size)
    have hz1 := Below.keepOld hy0 HZX.out
    have hr1 := Below.keepOld hy0 HROW.out
    have hd1 := HR.out.below hy0
    clear HLOW HZX HROW HR hy0 HEN HB2
    have HLOW := Lib.hid hl1
    have HZX := Lib.hid hz1
    have HROW := Lib.hid hr1
    have HR := Lib.hid hd1
    clear hl1 hz1 hr1 hd1
    have hfl : (frame b).length ≤ 60000 := by rw [Frm.frame_length]; omega
    dsimp only at ho1 ⊢
    have HCL := Lib.hid (rput_in ts d i HI.out p1 (frame b) c1 y0 HR.out HUR.out (Cut.own_bs ho1) hfl HFEW.out)
    obtain ⟨D1, hD1⟩ : ∃ D1, doD d i (fD d i) (.put (frame b)) = D1 := ⟨_, rfl⟩
    obtain ⟨E1, hE1⟩ : ∃ E1, doE d i (fD d i) (.put (frame b)) = E1 := ⟨_, rfl⟩
    rw [hD1, hE1] at hMD HCL
    rw [hD1, hE1] at hME
    have HMD := Lib.hid hMD.symm
    have HME := Lib.hid hME.symm
    clear hD1 hE1 hMD hME ho1
    go_upto_region 4 with fail
    go_wp2_with (refine wpList_load_row rfl 37 _ rfl w.heap.size rfl 37 (rdA ts d) (0, 0) _ HROW.out Tryz.underlying37 rfl (infoRD _ (rdA_size HR.out.n3 HR.out.m3)) ?_)
    refine HCL.out.mono ?_
    rintro e y1 ⟨TS, rfl, hrd, hy1⟩
    skip
    -- behind the first step: its result (y1, TS, D1, E1) is stored into the box; then a sync where it was OK
    -- SLOTS: RB the slot of the box (3 or 2)
    have HLY := Lib.hid (HLOW.out.trans (hy1.mono HLOW.out.size))
    have HZY := Lib.hid (Below.keepOld hy1 HZX.out)
    have HRY := Lib.hid (Below.keepOld hy1 HROW.out)
    have HRD := Lib.hid hrd
    clear HLOW HZX HROW HR hy1 hrd
    go_upto_region 5 with (refine wpList_store_row rfl 37 _ _ rfl w.heap.size (rdA TS D1) rfl rfl 37 (rdA ts d) HRY.out (infoRD _ (rdA_size HRD.out.n3 HRD.out.m3)) (by rw [rdA_size HRD.out.n3 HRD.out.m3, rdA_size HN3.out HM3.out]) (rdA_one HRD.out.n3 HRD.out.m3) ?_)
    try simp only [Act.put, List.setIfInBounds_toArray, List.set_cons_zero, List.set_cons_succ]
    have HR := Lib.hid (HRD.out.put (A := rdA TS D1) HRY.out)
    have HROW := Lib.hid (setRow_heap _ _ _ (rdA TS D1) _ _ HRY.out)
    have HZX : Hid ((y1.setRow w.heap.size (rdA TS D1)).heap[w.heap.size + 1]? = some (.cells zD 37 (0, 0))) := by show _ = _; rw [setRow_other _ _ _ _ (by omega)]; exact HZY.out
    have HLOW : Hid (Below w.heap.size w (y1.setRow w.heap.size (rdA TS D1))) := below_setRow HLY.out (Nat.le_refl _) _
    clear HRY HZY HLY HRD HN3 HM3
    generalize y1.setRow w.heap.size (rdA TS D1) = w3 at *
    by_cases he : E1 = 0
    · rw [if_pos he] at HME HMD
      have hb0 : (E1 == 0) = true := by rw [he]; rfl
      subst he
      go_upto_region 7 with fail
      go_wp2_with (refine wpList_load_row rfl 37 _ rfl w.heap.size rfl 37 (rdA TS D1) (0, 0) _ HROW.out Tryz.underlying37 rfl (infoRD _ (rdA_size HR.out.n3 HR.out.m3)) ?_)
      refine (rsync_in TS D1 i HI.out (fD D1 i) (HR.out.fd HI.out) w3 HR.out).mono ?_
      rw [← HME.out, ← HMD.out]
      rintro e y2 ⟨T2, rfl, hr2, hy2⟩
      have HLY := Lib.hid (HLOW.out.trans (hy2.mono HLOW.out.size))
      have HZY := Lib.hid (Below.keepOld hy2 HZX.out)
      have HRD := Lib.hid hr2
      clear HLOW HZX HROW HR hy2 hr2 HME HMD
      go_wp2_with (refine wpList_store_row rfl 37 _ _ rfl (w.heap.size + 1) (rdA T2 MD) rfl rfl 37 zD HZY.out (infoRD _ (rdA_size HRD.out.n3 HRD.out.m3)) (by rw [rdA_size HRD.out.n3 HRD.out.m3]; rfl) (rdA_one HRD.out.n3 HRD.out.m3) ?_)
      have HS := Lib.hid (setRow_heap _ _ _ (rdA T2 MD) _ _ HZY.out)
      refine bodyPost_ret (results_cell_tmp2 rfl _ _ _ _ _ _ _ rfl HS.out Tryz.underlying37 rfl (infoRD _ (rdA_size HRD.out.n3 HRD.out.m3))) rfl ?_
      exact ⟨T2, rfl, HRD.out.put HZY.out, below_setRow HLY.out (by omega) _⟩
    · rw [if_neg he] at HME HMD
      have hb0 : (E1 == 0) = false := beq_eq_false_iff_ne.2 he
      have f1 := HME.out
      have f2 := HMD.out
      clear HME HMD
      subst ME MD
      go_upto_region 6 with fail
      go_wp2_with (first
        | refine wpList_load_row rfl 37 _ rfl w.heap.size rfl 37 (rdA TS D1) (0, 0) _ HROW.out Tryz.underlying37 rfl (infoRD _ (rdA_size HR.out.n3 HR.out.m3)) ?_
        | refine wpList_store_row rfl 37 _ _ rfl (w.heap.size + 1) (rdA TS D1) rfl rfl 37 zD HZX.out (infoRD _ (rdA_size HR.out.n3 HR.out.m3)) (by rw [rdA_size HR.out.n3 HR.out.m3]; rfl) (rdA_one HR.out.n3 HR.out.m3) ?_)
      have HS := Lib.hid (setRow_heap _ _ _ (rdA TS D1) _ _ HZX.out)
      refine bodyPost_ret (results_cell_tmp2 rfl _ _ _ _ _ _ _ rfl HS.out Tryz.underlying37 rfl (infoRD _ (rdA_size HR.out.n3 HR.out.m3))) rfl ?_
      exact ⟨TS, rfl, HR.out.put HZX.out, below_setRow HLOW.out (by omega) _⟩
theorem lso_low {w : World} {base base' : Nat} {v : Value} {ls : List (List UInt8)} (h : LsO w base v ls) (hb : base' ≤ base) : LsO w base' v ls := by
  obtain ⟨hs, h1, h2⟩ := h.all
  exact ⟨hs, own_base h1 (fun k hk => by have := (h1.lt k hk).1; omega), fun j hj => by
    obtain ⟨q, k, a, b⟩ := h2 j hj
    exact ⟨q, k, a, own_base b (fun i hi => by have := (b.lt i hi).1; omega)⟩⟩
def RBodP (l : List UInt8) (w : World) (e : Ending) (w' : World) : Prop := ∃ v, e = .returned v ∧ LsO w' w.heap.size v (scan l).1 ∧ Below w.heap.size w w'
set_option maxRecDepth 100000 in
set_option maxHeartbeats 1600000 in
theorem rbodies_any (ts : List RF) (d : DD) (i : Nat) (hi : i < 3) (w : World) (h : RDB w ts d) :
    Calls Tryz.prog 22 #[.agg (rdA ts d), .int .i64 (i : Int)] w (RBodP (fD d i).now w) := by
  have HB1 := Lib.hid (Below.allocs w (.cells (rdA ts d) 37))
  have HROW : Hid ((w.alloc (.cells (rdA ts d) 37)).heap[w.heap.size]? = some (.cells (rdA ts d) 37 (0, 0))) := heap_alloc_last _ _
  have HR := Lib.hid (h.below HB1.out)
  have hi3i : (i : Int) < 3 := by omega
  have hti : i < ts.length := by rw [h.n3]; exact hi
  have ht : ts[i]? = some (ts[i]'hti) := List.getElem?_eq_getElem hti
  generalize ts[i]'hti = t at *
  have HF := Lib.hid (h.fd hi)
  have HT := Lib.hid ht
  have HNB : Hid ((fD d i).need ≤ 1000000) := by
    obtain ⟨t', f', _, a, _, _, b⟩ := h.at.file i hi
    rw [h.fd hi] at a
    cases a; exact b
  clear h ht hti
  go_enter Tryz.func22, Tryz.ntmps22
  go_upto_region 1 with fail
  generalize w.alloc (.cells (rdA ts d) 37) = w1 at *
  have HRG := Lib.hid (rd_range HR.out.n3 HR.out.m3 HROW.out i HT.out HF.out)
  have HHO := Lib.hid (rholds_any t (fD d i) w1 (HR.out.each i t _ HT.out HF.out).1.now HNB.out)
  have HLE : Hid ((fD d i).now.length ≤ 1000000) := Nat.le_trans (HR.out.each i t _ HT.out HF.out).1.now.ok.le HNB.out
  generalize (fD d i).now = L at *
  go_wp2_with ((with_reducible refine wpAt 11 ?_); refine wpList_load_mid rfl 34 _ rfl w.heap.size (i * 2) rfl (fA t (fD d i)).toList _ HRG.out Tryz.underlying34 rfl (infoFi (fA t (fD d i)) rfl) ?_)
  try rw [Array.toArray_toList]
  refine HHO.out.mono ?_
  rintro e w5 ⟨p5, c5, rfl, ho5, hb5⟩
  have HB5 := Lib.hid (HB1.out.trans (hb5.mono HB1.out.size))
  have HSC := Lib.hid (Frm.rscanO_any p5 L.length c5 L w5 (Cut.own_bs ho5) HLE.out)
  clear ho5 hb5 HHO
  go_wp2_with fail
  refine HSC.out.mono ?_
  rintro e w6 ⟨v, rfl, hls, hb6⟩
  have HB6 := Lib.hid (HB5.out.trans (hb6.mono HB5.out.size))
  have hls2 := lso_low hls HB5.out.size
  have HL6 := Lib.hid hls2
  clear hls hls2 hb6 HSC
  go_wp2_with fail
  go_ret
  exact ⟨v, rfl, HL6.out, HB6.out⟩
end Go.Proofs.YtkacmgfehmjijaaGreatDoor.Rk

namespace Go.Proofs.YtkacmgfehmjijaaGreatDoor.Rol
open Go.RowKit Go.Mir Go.Mir.Parts Dk
open Cut (LsO LsA)

/-- blocks that may be a disk's -/
def DTy (base : Nat) (w : World) (k : Nat) : Prop := base ≤ k ∧ ∃ M t fr, w.heap[k]? = some (.cells M t fr) ∧ (t = 67 ∨ t = 108)
theorem dat_dty {w : World} {base db : Nat} {vs : List FV} {d : DD} (h : DAt w base db vs d) : ∀ k, DOwn db vs k → DTy base w k := by
  intro k hs
  refine ⟨(h.ownLt k hs).1, ?_⟩
  rcases hs with rfl | ⟨v, hv, hs⟩
  · exact ⟨_, _, _, h.row, .inl rfl⟩
  · obtain ⟨i, hi⟩ := List.mem_iff_getElem?.1 hv
    have hlt : i < d.fs.length := by rw [h.m3, ← h.n3]; exact (List.getElem?_eq_some_iff.1 hi).1
    obtain ⟨vals, ho, _⟩ := (h.each i v _ hi (List.getElem?_eq_getElem hlt)).steps
    rcases ho.2 with ⟨e, _⟩ | ⟨g, cap, cur, e, _, hg, _⟩
    · rw [e] at hs; simp [Value.ownBlock] at hs
    · rw [e] at hs
      simp [Value.ownBlock] at hs
      subst hs
      exact ⟨_, _, _, hg, .inr rfl⟩
/-- a disk of which no more is known than what it holds -/
def DX (base db : Nat) (d : DD) (w : World) : Prop := base ≤ w.heap.size ∧ ∃ vs, DAt w base db vs d
/-- what a call of a disk's has turned -/
def KT (base : Nat) (w w' : World) : Prop := Turns (DTy base w) w w'
theorem KT.refl (base : Nat) (w : World) : KT base w w := Turns.refl _ _
theorem KT.trans {base : Nat} {a b c : World} (h : KT base a b) (k : KT base b c) : KT base a c :=
  ⟨k.os.trans h.os, k.tape.trans h.tape, k.output.trans h.output, Nat.le_trans h.size k.size, fun i hi hS => by
    have e1 := h.block i hi hS
    have hS2 : ¬ DTy base b i := fun h' => hS (by
      obtain ⟨h1, M, t, fr, h2, h3⟩ := h'
      exact ⟨h1, M, t, fr, by rw [← e1]; exact h2, h3⟩)
    rw [k.block i (Nat.lt_of_lt_of_le hi h.size) hS2]; exact e1⟩
theorem KT.of_below {base : Nat} {a b : World} (h : Below a.heap.size a b) : KT base a b := Turns.of_below h
theorem KT.next {base : Nat} {a b c : World} (h : KT base a b) (k : Below b.heap.size b c) : KT base a c := h.trans (.of_below k)
theorem KT.below {base : Nat} {a b : World} (h : KT base a b) (hb : base ≤ a.heap.size) : Below base a b := Turns.below h hb (fun _ hi => hi.1)
theorem KT.row {base : Nat} {a b : World} (h : KT base a b) {k : Nat} {M : Array Value} {t : TypeId} {fr : Nat × Nat} (hr : a.heap[k]? = some (.cells M t fr)) (h1 : t ≠ 67) (h2 : t ≠ 108) : b.heap[k]? = some (.cells M t fr) :=
  Turns.keep h hr (fun ⟨_, M', t', fr', e, ht⟩ => by
    rw [hr] at e
    injection e with e1
    injection e1 with _ e2
    subst e2
    exact ht.elim h1 h2)
theorem KT.not {base : Nat} {a : World} {b e size n : Nat} {v : Value} {xs : List Value} (ho : a.ownsRow b e size v n xs) (h1 : e ≠ 67) (h2 : e ≠ 108) (k : Nat) (hk : v.ownBlock = some k) : ¬ DTy base a k := fun ⟨_, M', t', fr', e', ht⟩ => by
  rcases ho.2 with ⟨rfl, _⟩ | ⟨g, cap, cur, rfl, _, hg, _⟩
  · simp [Value.ownBlock] at hk
  · simp [Value.ownBlock] at hk
    subst hk
    rw [hg] at e'
    injection e' with e1
    injection e1 with _ e2
    subst e2
    exact ht.elim h1 h2
theorem KT.own {base : Nat} {a b : World} (h : KT base a b) {c e size n : Nat} {v : Value} {xs : List Value} (ho : a.ownsRow c e size v n xs) (h1 : e ≠ 67) (h2 : e ≠ 108) : b.ownsRow c e size v n xs :=
  own_touch ho h (fun k hk => KT.not ho h1 h2 k hk)
theorem KT.lsO {base : Nat} {a b : World} (h : KT base a b) {c : Nat} {v : Value} {ls : List (List UInt8)} (ho : LsO a c v ls) : LsO b c v ls := by
  obtain ⟨hs, h1, h2⟩ := ho.all
  exact ⟨hs, h.own h1 (by decide) (by decide), fun j hj => by
    obtain ⟨q, k, x, y⟩ := h2 j hj
    exact ⟨q, k, x, h.own y (by decide) (by decide)⟩⟩
theorem KT.lsA {base : Nat} {w0 a b : World} (h : KT base a b) {c : Nat} {v : Value} {ls : List (List UInt8)} (ho : LsA w0 a c v ls) : LsA w0 b c v ls := by
  obtain ⟨hs, h1, h2⟩ := ho.all
  exact ⟨hs, h.own h1 (by decide) (by decide), h2⟩
theorem KT.etype {base : Nat} {a b : World} (h : KT base a b) (hE : Rdr.EType a) (hb : 0 < base) : Rdr.EType b := by
  have hlt := hE.lt
  have h1 : a.heap[0]? = some (a.heap[0]'hlt) := Array.getElem?_eq_getElem hlt
  have h2 := Turns.keep h h1 (fun hs => by have := hs.1; omega)
  unfold Rdr.EType at hE ⊢
  rw [World.cell?] at hE ⊢
  rw [h1] at hE
  rw [h2]
  exact hE
theorem DX.below {base db : Nat} {d : DD} {w w' : World} (h : DX base db d w) (hb : Below w.heap.size w w') : DX base db d w' := by
  obtain ⟨h0, vs, h1⟩ := h
  exact ⟨Nat.le_trans h0 hb.size, vs, h1.below hb⟩
theorem DX.left {base db : Nat} {vs : List FV} {d d' : DD} {w w' : World} (h : DAt w base db vs d) (h0 : base ≤ w.heap.size) (hl : LeftD base db vs d' w w') : DX base db d' w' ∧ KT base w w' := by
  obtain ⟨vs', h1, h2, _⟩ := hl
  exact ⟨⟨Nat.le_trans h0 h2.size, vs', h1⟩, h2.imp (fun k _ hk => dat_dty h k hk)⟩
/-- what a call leaves, with its answer -/
def StP (base db : Nat) (x : Int) (d' : DD) (w : World) (e : Ending) (w' : World) : Prop := e = .returned (.int .i64 x) ∧ DX base db d' w' ∧ KT base w w'
theorem fD_lt {w : World} {base db : Nat} {vs : List FV} {d : DD} (h : DAt w base db vs d) {i : Nat} (hi : i < 3) : i < d.fs.length := by rw [h.m3]; exact hi
theorem xappend {base db : Nat} {d : DD} (w : World) (h : DX base db d w) (i : Nat) (hi : i < 3) (p : Option Addr) (n c : Nat) (b : List UInt8) (hb : Bs w p n c b) (hn : n ≤ 140737488355328) (hfew : (fD d i).steps.length + 1 ≤ 4398046511104) :
    Calls Tryz.prog 13 #[.pointer (some ⟨db, 0, none⟩), .int .i64 (i : Int), .slice p n c] w (StP base db (doE d i (fD d i) (.put b)) (doD d i (fD d i) (.put b)) w) := by
  obtain ⟨h0, vs, h1⟩ := h
  refine (append_in w h1 h0 i (fD_lt h1 hi) (fD d i) (fD_eq (fD_lt h1 hi)) p n c b hb hn hfew).mono ?_
  rintro e w' ⟨he, hl⟩
  exact ⟨he, DX.left h1 h0 hl⟩
theorem xcut {base db : Nat} {d : DD} (w : World) (h : DX base db d w) (i : Nat) (hi : i < 3) (m : Nat) (hm : m ≤ (fD d i).now.length) (hfew : (fD d i).steps.length + 1 ≤ 4398046511104) :
    Calls Tryz.prog 38 #[.pointer (some ⟨db, 0, none⟩), .int .i64 (i : Int), .int .i64 (m : Int)] w (StP base db (doE d i (fD d i) (.cut m)) (doD d i (fD d i) (.cut m)) w) := by
  obtain ⟨h0, vs, h1⟩ := h
  refine (cut_in w h1 h0 i (fD_lt h1 hi) (fD d i) (fD_eq (fD_lt h1 hi)) m hm hfew).mono ?_
  rintro e w' ⟨he, hl⟩
  exact ⟨he, DX.left h1 h0 hl⟩
theorem xsync {base db : Nat} {d : DD} (w : World) (h : DX base db d w) (i : Nat) (hi : i < 3) :
    Calls Tryz.prog 36 #[.pointer (some ⟨db, 0, none⟩), .int .i64 (i : Int)] w (StP base db (syncE d) (syncD d i (fD d i)) w) := by
  obtain ⟨h0, vs, h1⟩ := h
  refine (sync_in w h1 h0 i (fD_lt h1 hi) (fD d i) (fD_eq (fD_lt h1 hi))).mono ?_
  rintro e w' ⟨he, hl⟩
  exact ⟨he, DX.left h1 h0 hl⟩
theorem xread {base db : Nat} {d : DD} (w : World) (h : DX base db d w) (i : Nat) (hi : i < 3) :
    Calls Tryz.prog 45 #[.pointer (some ⟨db, 0, none⟩), .int .i64 (i : Int)] w fun e w' => ∃ p c, e = .returned (.slice p (fD d i).now.length c) ∧ Bs w' p (fD d i).now.length c (fD d i).now ∧ Below w.heap.size w w' := by
  obtain ⟨h0, vs, h1⟩ := h
  have := read_in w h1 i (fD_lt h1 hi)
  rw [fD_eq (fD_lt h1 hi)] at this
  refine this.mono ?_
  rintro e w' ⟨p, c, he, hr, hb⟩
  obtain ⟨p', c', e1, hs⟩ := hr.bs
  cases e1
  exact ⟨p, c, he, hs, hb⟩
theorem xunits {base db : Nat} {d : DD} (w : World) (h : DX base db d w) (i : Nat) (hi : i < 3) :
    Calls Tryz.prog 51 #[.pointer (some ⟨db, 0, none⟩), .int .i64 (i : Int)] w fun e w' => e = .returned (.int .i64 (unitsAll (fD d i).steps : Int)) ∧ Below w.heap.size w w' := by
  obtain ⟨h0, vs, h1⟩ := h
  have := units_in w h1 i (fD_lt h1 hi)
  rw [fD_eq (fD_lt h1 hi)] at this
  exact this
theorem xsize {base db : Nat} {d : DD} (w : World) (h : DX base db d w) (i : Nat) (hi : i < 3) :
    Calls Tryz.prog 25 #[.pointer (some ⟨db, 0, none⟩), .int .i64 (i : Int)] w fun e w' => e = .returned (.int .i64 ((fD d i).now.length : Int)) ∧ Below w.heap.size w w' := by
  obtain ⟨h0, vs, h1⟩ := h
  have := size_in w h1 i (fD_lt h1 hi)
  rw [fD_eq (fD_lt h1 hi)] at this
  exact this
theorem DX.room {base db : Nat} {d : DD} {w : World} (h : DX base db d w) : 1 ≤ d.room ∧ d.room ≤ 65536 ∧ usedL d.fs ≤ d.room := by
  obtain ⟨_, vs, h1⟩ := h
  exact ⟨h1.room1.1, h1.room1.2, h1.used⟩
theorem DX.len3 {base db : Nat} {d : DD} {w : World} (h : DX base db d w) : d.fs.length = 3 := by
  obtain ⟨_, vs, h1⟩ := h
  exact h1.m3
theorem DX.ok {base db : Nat} {d : DD} {w : World} (h : DX base db d w) {i : Nat} (hi : i < 3) : (fD d i).Ok := by
  obtain ⟨_, vs, h1⟩ := h
  have hl := fD_lt h1 hi
  have := (h1.each i _ _ (List.getElem?_eq_getElem (by rw [h1.n3]; exact hi)) (List.getElem?_eq_getElem hl)).ok
  rwa [fD_eq hl] at this
theorem DX.le {base db : Nat} {d : DD} {w : World} (h : DX base db d w) {i : Nat} (hi : i < 3) : (fD d i).now.length ≤ 65536 := by
  have h1 := (h.ok hi).le
  have h2 := h.room
  have hl : i < d.fs.length := by rw [h.len3]; exact hi
  have h3 := usedL_mem hl
  rw [fD_eq hl] at h3
  omega
end Go.Proofs.YtkacmgfehmjijaaGreatDoor.Rol

namespace Go.Proofs.YtkacmgfehmjijaaGreatDoor.Rol
open Go.RowKit Go.Mir Go.Mir.Parts Dk
open Frm (frame scan)
open Cut (Ls LsO)

theorem enc_ok {l : List UInt8} (h : 1 ≤ l.length) : Frm.enc l = (frame l, 0) := by unfold Frm.enc; rw [if_neg (by omega)]
theorem enc_no {l : List UInt8} (h : l.length = 0) : Frm.enc l = ([], 1) := by unfold Frm.enc; rw [if_pos h]

def rolA (db i : Nat) : Array Value := #[.pointer (some ⟨db, 0, none⟩), .int .i64 (i : Int)]
def RolAt (w : World) (rb db i : Nat) : Prop := w.heap[rb]? = some (.cells (rolA db i) 69 (0, 0))
theorem RolAt.below {w w' : World} {rb db i : Nat} (h : RolAt w rb db i) (hb : Below w.heap.size w w') : RolAt w' rb db i := Below.keepOld hb h
theorem RolAt.lt {w : World} {rb db i : Nat} (h : RolAt w rb db i) : rb < w.heap.size := (Array.getElem?_eq_some_iff.1 h).1
theorem RolAt.c0 {w : World} {rb db i : Nat} (h : RolAt w rb db i) : w.cell? ⟨rb, 0, none⟩ = some (.pointer (some ⟨db, 0, none⟩)) := by rw [cell_of_row _ _ _ _ _ _ h]; rfl
theorem RolAt.c1 {w : World} {rb db i : Nat} (h : RolAt w rb db i) : w.cell? ⟨rb, 1, none⟩ = some (.int .i64 (i : Int)) := by rw [cell_of_row _ _ _ _ _ _ h]; rfl
theorem RolAt.kt {w w' : World} {base rb db i : Nat} (h : RolAt w rb db i) (hk : KT base w w') : RolAt w' rb db i := hk.row h (by decide) (by decide)
theorem rnone_any {rb db i : Nat} (w : World) (h : RolAt w rb db i) : Calls Tryz.prog 34 #[.pointer (some ⟨rb, 0, none⟩)] w fun e w' => e = .returned (.bool false) ∧ w = w' := by
  have hc := h.c0
  clear h
  go_enter Tryz.func34, Tryz.ntmps34
  go_wp2_with fail
  go_ret
  exact ⟨rfl, rfl⟩
theorem tail7 {P : Program} {ops : Array Oper} {Q : Exit → Act → World → Prop} {l : List Oper} {i1 i2 i3 i4 i5 i6 i7 : Nat} {a : Act} {w : World} {o1 o2 o3 o4 o5 o6 o7 : Oper} (h1 : nthO l i1 = some o1) (h2 : nthO l i2 = some o2) (h3 : nthO l i3 = some o3) (h4 : nthO l i4 = some o4) (h5 : nthO l i5 = some o5) (h6 : nthO l i6 = some o6) (h7 : nthO l i7 = some o7) (h : wpList P ops Q [o1, o2, o3, o4, o5, o6, o7] a w) : wpList P ops Q (tailOps l [i1, i2, i3, i4, i5, i6, i7]) a w := by
  simp only [tailOps, h1, h2, h3, h4, h5, h6, h7]; exact h
set_option maxRecDepth 100000 in
set_option maxHeartbeats 1600000 in
theorem append_any {base db rb i : Nat} {d : DD} (w : World) (h : DX base db d w) (hr : RolAt w rb db i) (hi : i < 3) (p : Option Addr) (n c : Nat) (b : List UInt8) (hb : Bs w p n c b) (hn : n ≤ 4000) (hfew : (fD d i).steps.length + 1 ≤ 4398046511104) :
    Calls Tryz.prog 9 #[.pointer (some ⟨rb, 0, none⟩), .slice p n c] w (StP base db (appE d i b) (appD d i b) w) := by
  have H := Lib.hid h
  have HR := Lib.hid hr
  have HI := Lib.hid hi
  have HN := Lib.hid hb.length
  have HNN := Lib.hid hn
  have HEN := Lib.hid (Frm.encode_any p n c b w hb hn)
  have HRN := Lib.hid (rnone_any w hr)
  clear h hr hb hi
  by_cases h0 : b.length = 0
  · rw [enc_no h0] at HEN
    obtain ⟨a1, a2⟩ := app_nil d i b h0
    have HA1 := Lib.hid a1
    have HA2 := Lib.hid a2
    clear a1 a2 h0
    go_enter Tryz.func9, Tryz.ntmps9
    go_wp2_with fail
    refine HRN.out.mono ?_
    rintro e w' ⟨rfl, rfl⟩
    go_wp2_with fail
    refine HEN.out.mono ?_
    rintro e w1 ⟨p1, c1, rfl, ho1, hb1⟩
    have HB1 := Lib.hid hb1
    clear ho1 hb1
    go_wp2_with fail
    go_ret
    exact ⟨by rw [HA1.out]; rfl, by rw [HA2.out]; exact H.out.below HB1.out, .of_below HB1.out⟩
  · rw [enc_ok (by omega)] at HEN
    have HFL : Hid ((frame b).length ≤ 140737488355328) := by show _ ≤ _; rw [Frm.frame_length]; have := HN.out; omega
    have HFEW := Lib.hid hfew
    have HAE : Hid (appE d i b = if doE d i (fD d i) (.put (frame b)) = 0 then syncE (doD d i (fD d i) (.put (frame b))) else doE d i (fD d i) (.put (frame b))) := by show _ = _; unfold appE; rw [if_neg h0]
    have HAD : Hid (appD d i b = if doE d i (fD d i) (.put (frame b)) = 0 then syncD (doD d i (fD d i) (.put (frame b))) i (fD (doD d i (fD d i) (.put (frame b))) i) else doD d i (fD d i) (.put (frame b))) := by show _ = _; unfold appD; rw [if_neg h0]
    clear h0
    go_enter Tryz.func9, Tryz.ntmps9
    go_wp2_with fail
    refine HRN.out.mono ?_
    rintro e w' ⟨rfl, rfl⟩
    go_wp2_with fail
    refine HEN.out.mono ?_
    rintro e w1 ⟨p1, c1, rfl, ho1, hb1⟩
    have HO1 := Lib.hid (Cut.own_bs ho1)
    have HX := Lib.hid (H.out.below hb1)
    have HRX := Lib.hid (HR.out.below hb1)
    have HKX : Hid (KT base w w1) := KT.of_below hb1
    clear ho1 hb1
    dsimp only
    go_upto_region 6 with fail
    have HC0 : Hid (∀ w', Below w1.heap.size w1 w' → w'.cell? ⟨rb, 0, none⟩ = some (.pointer (some ⟨db, 0, none⟩))) := fun w' hb => (HRX.out.below hb).c0
    have HC1 : Hid (∀ w', Below w1.heap.size w1 w' → w'.cell? ⟨rb, 1, none⟩ = some (.int .i64 (i : Int))) := fun w' hb => (HRX.out.below hb).c1
    refine wp_region_eager_t (Below w1.heap.size w1) [0, 1, 2, 3, 4, 5, 6, 7, 8] [(0, true), (1, true), (2, true), (3, true), (4, true), (5, true), (6, true), (7, true), (8, true)] [9, 10] (by kernel_rfl) (by kernel_rfl) ?_ (eagerTOpen rfl ?_)
    · exact below_drew1 _ _
    repeat (first
      | (first | (apply wpEagerT_take; (· rfl); (· (intro w' hb'; go_simp; try with_reducible rfl)); (try simp only [Act.put, List.setIfInBounds_toArray, List.set_cons_zero, List.set_cons_succ]); (try refine eagerTOpen rfl ?_)) | (refine wpEagerT_skip (by rfl) ?_; (try simp only [Act.put, List.setIfInBounds_toArray, List.set_cons_zero, List.set_cons_succ]); (try refine eagerTOpen rfl ?_)))
      | (apply wpEagerT_take; (· rfl); (· (intro w' hb'; have hk' := (HC0.out) w' hb'; go_split_ands; go_simp; try with_reducible rfl)); (try simp only [Act.put, List.setIfInBounds_toArray, List.set_cons_zero, List.set_cons_succ]); (try refine eagerTOpen rfl ?_))
      | (apply wpEagerT_take; (· rfl); (· (intro w' hb'; have hk' := (HC1.out) w' hb'; go_split_ands; go_simp; try with_reducible rfl)); (try simp only [Act.put, List.setIfInBounds_toArray, List.set_cons_zero, List.set_cons_succ]); (try refine eagerTOpen rfl ?_)))
    refine eagerTEnd (tail2 rfl rfl ?_)
    clear HC0 HC1
    have HO2 := Lib.hid (HO1.out.below (below_drew1 _ _))
    skip
    have HY := Lib.hid (HX.out.below (below_drew1 _ _))
    have HRY := Lib.hid (HRX.out.below (below_drew1 _ _))
    have HKY := Lib.hid (HKX.out.next (below_drew1 _ _))
    generalize w1.drew = w2 at *
    clear HX HRX HKX
    have HAP := Lib.hid (xappend w2 HY.out i HI.out p1 _ c1 (frame b) HO2.out HFL.out HFEW.out)
    generalize doE d i (fD d i) (.put (frame b)) = x at *
    generalize doD d i (fD d i) (.put (frame b)) = d1 at *
    go_wp2_with fail
    refine HAP.out.mono ?_
    rintro e w3 ⟨rfl, hd3, hk3⟩
    have HX := Lib.hid hd3
    have HKX := Lib.hid (HKY.out.trans hk3)
    have HRX := Lib.hid (HRY.out.kt hk3)
    clear hd3 hk3 HKY HRY HY HAP HO1 HO2
    go_wp2_with fail
    refine noPanic_end ?_
    by_cases hx : x = 0
    · have z1 : (x != 0) = false := by simp [hx]
      rw [if_pos hx] at HAE HAD
      clear hx
      go_upto_region 9 with fail
      have HC0 : Hid (∀ w', Below w3.heap.size w3 w' → w'.cell? ⟨rb, 0, none⟩ = some (.pointer (some ⟨db, 0, none⟩))) := fun w' hb => (HRX.out.below hb).c0
      have HC1 : Hid (∀ w', Below w3.heap.size w3 w' → w'.cell? ⟨rb, 1, none⟩ = some (.int .i64 (i : Int))) := fun w' hb => (HRX.out.below hb).c1
      refine wp_region_eager_t (Below w3.heap.size w3) [0, 1, 2, 3, 4, 5, 6, 7] [(0, true), (1, true), (2, true), (3, true), (4, true), (5, true), (6, true), (7, true)] [8, 9] (by kernel_rfl) (by kernel_rfl) ?_ (eagerTOpen rfl ?_)
      · exact below_drew1 _ _
      repeat (first
        | (first | (apply wpEagerT_take; (· rfl); (· (intro w' hb'; go_simp; try with_reducible rfl)); (try simp only [Act.put, List.setIfInBounds_toArray, List.set_cons_zero, List.set_cons_succ]); (try refine eagerTOpen rfl ?_)) | (refine wpEagerT_skip (by rfl) ?_; (try simp only [Act.put, List.setIfInBounds_toArray, List.set_cons_zero, List.set_cons_succ]); (try refine eagerTOpen rfl ?_)))
        | (apply wpEagerT_take; (· rfl); (· (intro w' hb'; have hk' := (HC0.out) w' hb'; go_split_ands; go_simp; try with_reducible rfl)); (try simp only [Act.put, List.setIfInBounds_toArray, List.set_cons_zero, List.set_cons_succ]); (try refine eagerTOpen rfl ?_))
        | (apply wpEagerT_take; (· rfl); (· (intro w' hb'; have hk' := (HC1.out) w' hb'; go_split_ands; go_simp; try with_reducible rfl)); (try simp only [Act.put, List.setIfInBounds_toArray, List.set_cons_zero, List.set_cons_succ]); (try refine eagerTOpen rfl ?_)))
      refine eagerTEnd (tail2 rfl rfl ?_)
      clear HC0 HC1
      have HY := Lib.hid (HX.out.below (below_drew1 _ _))
      have HRY := Lib.hid (HRX.out.below (below_drew1 _ _))
      have HKY := Lib.hid (HKX.out.next (below_drew1 _ _))
      generalize w3.drew = w4 at *
      clear HX HRX HKX
      have HSY := Lib.hid (xsync w4 HY.out i HI.out)
      go_wp2_with fail
      refine HSY.out.mono ?_
      rintro e w5 ⟨rfl, hd5, hk5⟩
      have HD5 := Lib.hid hd5
      have HK5 := Lib.hid (HKY.out.trans hk5)
      clear hd5 hk5
      go_wp2_with fail
      refine noPanic_end ?_
      go_wp2_with fail
      go_ret
      exact ⟨by rw [HAE.out]; rfl, by rw [HAD.out]; exact HD5.out, HK5.out⟩
    · have z1 : (x != 0) = true := by simp [hx]
      rw [if_neg hx] at HAE HAD
      clear hx
      go_wp2_with fail
      go_ret
      exact ⟨by rw [HAE.out]; rfl, by rw [HAD.out]; exact HX.out, HKX.out⟩
set_option maxRecDepth 100000 in
set_option maxHeartbeats 1600000 in
theorem clear_any {base db rb i : Nat} {d : DD} (w : World) (h : DX base db d w) (hr : RolAt w rb db i) (hi : i < 3) (hfew : (fD d i).steps.length + 1 ≤ 4398046511104) :
    Calls Tryz.prog 11 #[.pointer (some ⟨rb, 0, none⟩)] w (StP base db (clrE d i 0) (clrD d i 0) w) := by
  have HX := Lib.hid h
  have HRX := Lib.hid hr
  have HKX : Hid (KT base w w) := KT.refl _ _
  have HI := Lib.hid hi
  have HRN := Lib.hid (rnone_any w hr)
  have HFEW := Lib.hid hfew
  have HAE : Hid (clrE d i 0 = if doE d i (fD d i) (.cut 0) = 0 then syncE (doD d i (fD d i) (.cut 0)) else doE d i (fD d i) (.cut 0)) := rfl
  have HAD : Hid (clrD d i 0 = if doE d i (fD d i) (.cut 0) = 0 then syncD (doD d i (fD d i) (.cut 0)) i (fD (doD d i (fD d i) (.cut 0)) i) else doD d i (fD d i) (.cut 0)) := rfl
  clear h hr hi hfew
  go_enter Tryz.func11, Tryz.ntmps11
  go_wp2_with fail
  refine HRN.out.mono ?_
  rintro e w' ⟨rfl, rfl⟩
  go_upto_region 3 with fail
  have HC0 : Hid (∀ w', Below w.heap.size w w' → w'.cell? ⟨rb, 0, none⟩ = some (.pointer (some ⟨db, 0, none⟩))) := fun w' hb => (HRX.out.below hb).c0
  have HC1 : Hid (∀ w', Below w.heap.size w w' → w'.cell? ⟨rb, 1, none⟩ = some (.int .i64 (i : Int))) := fun w' hb => (HRX.out.below hb).c1
  refine wp_region_eager_t (Below w.heap.size w) [0, 1, 2, 3, 4, 5, 6, 7] [(0, true), (1, true), (2, true), (3, true), (4, true), (5, true), (6, true), (7, true)] [8, 9] (by kernel_rfl) (by kernel_rfl) ?_ (eagerTOpen rfl ?_)
  · exact below_drew1 _ _
  repeat (first
    | (first | (apply wpEagerT_take; (· rfl); (· (intro w' hb'; go_simp; try with_reducible rfl)); (try simp only [Act.put, List.setIfInBounds_toArray, List.set_cons_zero, List.set_cons_succ]); (try refine eagerTOpen rfl ?_)) | (refine wpEagerT_skip (by rfl) ?_; (try simp only [Act.put, List.setIfInBounds_toArray, List.set_cons_zero, List.set_cons_succ]); (try refine eagerTOpen rfl ?_)))
    | (apply wpEagerT_take; (· rfl); (· (intro w' hb'; have hk' := (HC0.out) w' hb'; go_split_ands; go_simp; try with_reducible rfl)); (try simp only [Act.put, List.setIfInBounds_toArray, List.set_cons_zero, List.set_cons_succ]); (try refine eagerTOpen rfl ?_))
    | (apply wpEagerT_take; (· rfl); (· (intro w' hb'; have hk' := (HC1.out) w' hb'; go_split_ands; go_simp; try with_reducible rfl)); (try simp only [Act.put, List.setIfInBounds_toArray, List.set_cons_zero, List.set_cons_succ]); (try refine eagerTOpen rfl ?_)))
  refine eagerTEnd (tail2 rfl rfl ?_)
  clear HC0 HC1
  have HY := Lib.hid (HX.out.below (below_drew1 _ _))
  have HRY := Lib.hid (HRX.out.below (below_drew1 _ _))
  have HKY := Lib.hid (HKX.out.next (below_drew1 _ _))
  generalize w.drew = w2 at *
  clear HX HRX HKX
  have HAP : Hid (Calls Tryz.prog 38 #[.pointer (some ⟨db, 0, none⟩), .int .i64 (i : Int), .int .i64 0] w2 (StP base db (doE d i (fD d i) (.cut 0)) (doD d i (fD d i) (.cut 0)) w2)) := xcut w2 HY.out i HI.out 0 (Nat.zero_le _) HFEW.out
  generalize doE d i (fD d i) (.cut 0) = x at *
  generalize doD d i (fD d i) (.cut 0) = d1 at *
  go_wp2_with fail
  refine HAP.out.mono ?_
  rintro e w3 ⟨rfl, hd3, hk3⟩
  have HX := Lib.hid hd3
  have HKX := Lib.hid (HKY.out.trans hk3)
  have HRX := Lib.hid (HRY.out.kt hk3)
  clear hd3 hk3 HKY HRY HY HAP
  go_wp2_with fail
  refine noPanic_end ?_
  by_cases hx : x = 0
  · have z1 : (x != 0) = false := by simp [hx]
    rw [if_pos hx] at HAE HAD
    clear hx
    go_upto_region 6 with fail
    have HC0 : Hid (∀ w', Below w3.heap.size w3 w' → w'.cell? ⟨rb, 0, none⟩ = some (.pointer (some ⟨db, 0, none⟩))) := fun w' hb => (HRX.out.below hb).c0
    have HC1 : Hid (∀ w', Below w3.heap.size w3 w' → w'.cell? ⟨rb, 1, none⟩ = some (.int .i64 (i : Int))) := fun w' hb => (HRX.out.below hb).c1
    refine wp_region_eager_t (Below w3.heap.size w3) [0, 1, 2, 3, 4, 5, 6, 7] [(0, true), (1, true), (2, true), (3, true), (4, true), (5, true), (6, true), (7, true)] [8, 9] (by kernel_rfl) (by kernel_rfl) ?_ (eagerTOpen rfl ?_)
    · exact below_drew1 _ _
    repeat (first
      | (first | (apply wpEagerT_take; (· rfl); (· (intro w' hb'; go_simp; try with_reducible rfl)); (try simp only [Act.put, List.setIfInBounds_toArray, List.set_cons_zero, List.set_cons_succ]); (try refine eagerTOpen rfl ?_)) | (refine wpEagerT_skip (by rfl) ?_; (try simp only [Act.put, List.setIfInBounds_toArray, List.set_cons_zero, List.set_cons_succ]); (try refine eagerTOpen rfl ?_)))
      | (apply wpEagerT_take; (· rfl); (· (intro w' hb'; have hk' := (HC0.out) w' hb'; go_split_ands; go_simp; try with_reducible rfl)); (try simp only [Act.put, List.setIfInBounds_toArray, List.set_cons_zero, List.set_cons_succ]); (try refine eagerTOpen rfl ?_))
      | (apply wpEagerT_take; (· rfl); (· (intro w' hb'; have hk' := (HC1.out) w' hb'; go_split_ands; go_simp; try with_reducible rfl)); (try simp only [Act.put, List.setIfInBounds_toArray, List.set_cons_zero, List.set_cons_succ]); (try refine eagerTOpen rfl ?_)))
    refine eagerTEnd (tail2 rfl rfl ?_)
    clear HC0 HC1
    have HY := Lib.hid (HX.out.below (below_drew1 _ _))
    have HRY := Lib.hid (HRX.out.below (below_drew1 _ _))
    have HKY := Lib.hid (HKX.out.next (below_drew1 _ _))
    generalize w3.drew = w4 at *
    clear HX HRX HKX
    have HSY := Lib.hid (xsync w4 HY.out i HI.out)
    go_wp2_with fail
    refine HSY.out.mono ?_
    rintro e w5 ⟨rfl, hd5, hk5⟩
    have HD5 := Lib.hid hd5
    have HK5 := Lib.hid (HKY.out.trans hk5)
    clear hd5 hk5
    go_wp2_with fail
    refine noPanic_end ?_
    go_wp2_with fail
    go_ret
    exact ⟨by rw [HAE.out]; rfl, by rw [HAD.out]; exact HD5.out, HK5.out⟩
  · have z1 : (x != 0) = true := by simp [hx]
    rw [if_neg hx] at HAE HAD
    clear hx
    go_wp2_with fail
    go_ret
    exact ⟨by rw [HAE.out]; rfl, by rw [HAD.out]; exact HX.out, HKX.out⟩
end Go.Proofs.YtkacmgfehmjijaaGreatDoor.Rol
