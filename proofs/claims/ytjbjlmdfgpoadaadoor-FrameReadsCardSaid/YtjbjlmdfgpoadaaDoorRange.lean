/- A RANGE OVER A FUNCTION WHOSE ROUNDS ARE HANDED MEMORY THAT THE ITERATOR HAS LAID: the iterator tells of each element what it knows of the world ('G'). No program is named. Conditions: none. -/
import Derived.RangeFuncNested
import Derived.RangeFuncBound
import Derived.RangeFuncCalls
import Derived.RangeFuncLeaves
import Derived.RangeFuncBox
import Derived.Shelf.Abstract
import Derived.Shelf.RegionOpen
import Derived.WalkKit
import Derived.OwnWalkIn
import Derived.TacticsInMore
import Derived.LoopNIn
import Derived.LoopIn
import Derived.Maps.AppendAt
import Derived.Test.YtjbjlmdfgpoadaaDoorLib
namespace Go.Mir
open Go.RowKit

theorem grown_of_below {A B : World} (h : Below A.heap.size A B) (row : Option Nat) : A.grownBy B row := ⟨h.os, h.tape, h.output, h.size, fun k hk _ => h.block k hk⟩
theorem ownFrom_grow {β : Type} {b : Nat} {I : β → World → Prop} (h : OwnFrom b I) {s : β} {A B : World} (hs : I s A) (hb : Below A.heap.size A B) : I s B :=
  h s A B none hs (grown_of_below hb none) (fun r e => by cases e)
/-- what an iterator keeps to -/
def SeqG {α : Type} (P : Program) (n : Nat) (gf : Nat) (lb : Array Value) (encs : α → Array Value) (T : Nat → Prop) (G : List α → α → World → Prop) (S Sp : List α → Prop) (w : World) : Prop :=
  ∀ (l : Nat) (J Jx : List α → World → Prop) (W : World), Below w.heap.size w W → (∀ s A B, J s A → Below A.heap.size A B → J s B) → (∀ s A B, Jx s A → Below A.heap.size A B → Jx s B) →
    (∀ pre x W1, J pre W1 → G pre x W1 → YieldAt Fence.wide (n - 1) P l (encs x) W1 fun e W' => (e = .returned (.bool true) ∧ J (pre ++ [x]) W' ∧ Turns T W1 W') ∨ (e = .returned (.bool false) ∧ Jx (pre ++ [x]) W')) →
    J [] W → CallsIn Fence.wide n P gf (#[.func (.yield l) #[] #[]] ++ lb) W fun e W' => (∃ v, e = .returned v) ∧ ((∃ xs, S xs ∧ J xs W') ∨ ∃ pre, Sp pre ∧ Jx pre W')
/-- how a round may be left -/
def roundEnd {α : Type} (B : Nat) (T : Nat → Prop) (I : List α → World → Prop) (Ix : Code → List α → World → Prop) (xs : List α) (W : World) : Exit → Act → World → Prop
  | .normal, _, W' => KeepsFrom B W W' ∧ Turns T W W' ∧ I xs W'
  | .ret, _, W' => KeepsFrom B W W' ∧ Ix .ret xs W'
  | .exit id, _, W' => KeepsFrom B W W' ∧ Ix (.exit id) xs W'
  | .goto t, _, W' => KeepsFrom B W W' ∧ Ix (.goto t) xs W'
  | .panic _, _, _ => False
  | .outgrown, _, _ => False
/-- what the loop has laid -/
structure LoopAt (b : Nat) (r : Loop) (W : World) : Prop where
  loop : W.heap[b + 1]? = some (.loop r)
  calls : W.heap[b]? = some (.deferred (some []))
theorem LoopAt.lt {b : Nat} {r : Loop} {W : World} (h : LoopAt b r W) : b + 1 < W.heap.size := (Array.getElem?_eq_some_iff.1 h.loop).1
theorem LoopAt.keep {b : Nat} {r : Loop} {W W' : World} (h : LoopAt b r W) (hk : KeepsFrom b W W') : LoopAt b r W' := ⟨hk.same _ _ (by omega) h.loop rfl, hk.same _ _ (Nat.le_refl _) h.calls rfl⟩
theorem LoopAt.set {b : Nat} {r : Loop} {W : World} (h : LoopAt b r W) (r' : Loop) : LoopAt b r' (W.putObj (b + 1) (.loop r')) := ⟨World.putObj_heap_same h.lt, (World.putObj_heap_other (by omega)).trans h.calls⟩
theorem LoopAt.below {b : Nat} {r : Loop} {W W' : World} (h : LoopAt b r W) (hb : Below W.heap.size W W') : LoopAt b r W' := ⟨Below.keepOld hb h.loop, Below.keepOld hb h.calls⟩
variable {P : Program}
theorem rangeG {α : Type} {g : Operand} {ps : Array Tmp} {assign body : Code} {Q : Exit → Act → World → Prop} {a : Act} {w w0 : World} {n : Nat} (h1 : 1 ≤ n)
    {gf : Nat} {lb : Array Value} (hg : a.eval g = .func (.func gf) #[] lb) (eg : ∀ args w, (callFunc gf args).run P w = .ok (.enter gf args) w)
    {encs : α → Array Value} {T : Nat → Prop} {G : List α → α → World → Prop} {S Sp : List α → Prop} (hseq : SeqG P (n - 1) gf lb encs T G S Sp w0) (hT : ∀ k, w.heap.size ≤ k → T k) (hb0 : Below w0.heap.size w0 w) (hps : ∀ x, (encs x).size = ps.size)
    (hG : OwnFrom w.heap.size (fun (s : List α × α) W => G s.1 s.2 W)) (I : List α → World → Prop) (Ix : Code → List α → World → Prop) (hI : OwnFrom w.heap.size I) (hIx : ∀ c, OwnFrom w.heap.size (Ix c)) (h0 : I [] w) (a₁ : α → Act)
    (hassign : ∀ (l : Nat) (x : α) (W : World) (K : Act → World → Prop), K (a₁ x) W →
      assign.wpIn (Fence.wide.inRound l) (n - 1 - 1) P (Exit.then K (fun _ _ _ => False)) { tmps := (ps.zip (encs x)).foldl (fun t (p, v) => t.setIfInBounds p v) a.tmps, defers := [] } W)
    (hbody : ∀ (l : Nat) (pre : List α) (x : α) (W : World), I pre W → G pre x W → body.wpIn (Fence.wide.inRound l) (n - 1 - 1) P (roundEnd w.heap.size T I Ix (pre ++ [x]) W) (a₁ x) W)
    (hdone : ∀ (D : Nat) (xs : List α) (W : World), w.heap.size ≤ D → S xs → I xs W → W.heap[D]? = some (.deferred (some [])) → Q .normal { a with defers := { target := .collected D, args := #[] } :: a.defers } W)
    (hstop : ∀ (D : Nat) (c : Code) (pre : List α) (W : World), w.heap.size ≤ D → Sp pre → Ix c pre W → W.heap[D]? = some (.deferred (some [])) → c.wpIn Fence.wide n P Q { a with defers := { target := .collected D, args := #[] } :: a.defers } W) :
    (Code.rangeFunc g ps assign body).wpIn Fence.wide n P Q a w := by
  refine wpIn_rangeFunc fun fn hfn => ?_
  obtain ⟨b, hb⟩ : ∃ b, w.heap.size = b := ⟨_, rfl⟩
  let rec' : LoopState → Option Code → Loop := fun st pe => { state := st, pending := pe, fn, tmps := a.tmps, params := ps, assign, body, defers := b }
  obtain ⟨W1, hW1⟩ : ∃ W1, W1 = (w.alloc (.deferred (some []))).alloc (.loop (rec' .ready none)) := ⟨_, rfl⟩
  have hsz : W1.heap.size = b + 2 := by rw [hW1]; simp [hb]
  have hL1 : LoopAt b (rec' .ready none) W1 := by
    rw [hW1, ← hb]
    exact ⟨by have := World.alloc_heap_new (w.alloc (.deferred (some []))) (.loop (rec' .ready none)); rwa [World.size_alloc] at this, (Below.heap_alloc _ _ _ (by simp)).trans (World.alloc_heap_new w _)⟩
  have hww : Below w.heap.size w W1 := by rw [hW1]; exact ((Below.refl _ w).alloc (Nat.le_refl _) _).alloc (by simp) _
  rw [hb] at hI hIx hG hT hbody hdone hstop
  have turn : ∀ {s : List α} {W : World} {r : Loop} (r' : Loop), I s W → LoopAt b r W → I s (W.putObj (b + 1) (.loop r')) := fun r' hi hl => hI.putObj _ hi (by omega) hl.loop rfl
  have turnB : ∀ {W : World} {r : Loop} (r' : Loop), LoopAt b r W → Turns T W (W.putObj (b + 1) (.loop r')) := fun {W} {r} r' hl =>
    Turns.grown (grownBy_putObj' W (b + 1) _) (fun k e => by cases e; exact hT _ (by omega))
  refine ⟨b + 1, [{ target := .collected b, args := #[] }], W1, { target := .fn (.func gf) lb, args := #[.func (.yield (b + 1)) #[] #[]] }, W1, gf, #[.func (.yield (b + 1)) #[] #[]] ++ lb, W1, ?_, ?_, fun _ _ => trivial, ?_, fun h => by simp [Fence.wide] at h, ?_⟩
  · have := run_enterLoop_outer (P := P) (w := w) fn a.tmps ps assign body
    rw [hb] at this
    rw [hW1]
    exact this
  · simp only [resolve, hg]
    simp [go_sem]
  · simp [invoke, go_sem, eg]
  refine (hseq (b + 1) (fun pre W => I pre W ∧ LoopAt b (rec' .ready none) W) (fun pre W => ∃ c, Ix c pre W ∧ LoopAt b (rec' .done (some c)) W) W1
    (hb0.trans (hww.mono hb0.size)) (fun s A B hs hbl => ⟨ownFrom_grow hI hs.1 hbl, hs.2.below hbl⟩) (fun s A B ⟨c, hc, hl⟩ hbl => ⟨c, ownFrom_grow (hIx c) hc hbl, hl.below hbl⟩) ?_ ⟨ownFrom_grow hI h0 hww, hL1⟩).mono ?_
  · rintro pre x W ⟨hi, hl⟩ hx
    refine ⟨fn, _, assign, body, run_yield (P := P) (args := encs x) hl.loop (hps x), roundIn_of_wpIn hfn (hassign _ x W _ ⟨_, run_beginRound hl.loop rfl, ?_⟩)⟩
    have hx2 : G pre x (W.putObj (b + 1) (.loop { rec' .ready none with state := .busy })) := hG.putObj (s := (pre, x)) _ hx (by omega) hl.loop rfl
    refine wpIn_mono (hbody _ pre x _ (turn _ hi hl) hx2) ?_
    have hl2 := hl.set { rec' .ready none with state := .busy }
    have leave : ∀ (c : Code) (W3 : World), KeepsFrom b (W.putObj (b + 1) (.loop { rec' .ready none with state := .busy })) W3 → Ix c (pre ++ [x]) W3 →
        ∃ v w', (Instr.endRound (b + 1) (some c)).run P W3 = .ok v w' ∧ (fun (e : Ending) (W' : World) => (e = .returned (.bool true) ∧ (I (pre ++ [x]) W' ∧ LoopAt b (rec' .ready none) W') ∧ Turns T W W') ∨ (e = .returned (.bool false) ∧ ∃ c, Ix c (pre ++ [x]) W' ∧ LoopAt b (rec' .done (some c)) W')) (.returned v) w' := fun c W3 hk hc => by
      have hl3 := hl2.keep hk
      exact ⟨_, _, run_endRound (P := P) (some c) hl3.loop, .inr ⟨rfl, c, (hIx c).putObj _ hc (by omega) hl3.loop rfl, hl3.set _⟩⟩
    rintro e a3 W3 hp
    cases e with
    | normal =>
      have hl3 := hl2.keep hp.1
      exact ⟨_, _, run_endRound (P := P) none hl3.loop, .inl ⟨rfl, ⟨turn _ hp.2.2 hl3, hl3.set _⟩, ((turnB _ hl).trans hp.2.1 (fun _ _ h => h)).trans (turnB _ hl3) (fun _ _ h => h)⟩⟩
    | ret => exact leave .ret W3 hp.1 hp.2
    | exit id => exact leave (.exit id) W3 hp.1 hp.2
    | goto t => exact leave (.goto t) W3 hp.1 hp.2
    | panic ch => exact hp.elim
    | outgrown => exact hp.elim
  · rintro e W2 ⟨⟨v, rfl⟩, ⟨xs, hS, hi, hl⟩ | ⟨pre, hS, c, hi, hl⟩⟩
    · exact ⟨none, _, run_endLoop (P := P) hl.loop (by simp [rec']), hdone _ xs _ (Nat.le_refl _) hS (turn _ hi hl) (hl.set _).calls⟩
    · exact ⟨some c, _, run_endLoop (P := P) hl.loop (by simp [rec']), hstop _ c pre _ (Nat.le_refl _) hS ((hIx c).putObj _ hi (by omega) hl.loop rfl) (hl.set _).calls⟩
/-- the activation behind the assignment to the loop's variables -/
def setAll (a : Act) (l : List (Nat × Value)) : Act := { tmps := l.foldl (fun t p => t.setIfInBounds p.1 p.2) a.tmps, defers := [] }
theorem rangeS {α : Type} {g : Operand} {ps : Array Tmp} {assign body : Code} {Q : Exit → Act → World → Prop} {a : Act} {w w0 : World} {n : Nat} (h1 : 1 ≤ n)
    {gf : Nat} {lb : Array Value} (hg : a.eval g = .func (.func gf) #[] lb) (eg : ∀ args w, (callFunc gf args).run P w = .ok (.enter gf args) w)
    {encs : α → Array Value} {T : Nat → Prop} {G : List α → α → World → Prop} {S Sp : List α → Prop} (hseq : SeqG P (n - 1) gf lb encs T G S Sp w0) (hT : ∀ k, w.heap.size ≤ k → T k) (hb0 : Below w0.heap.size w0 w) (hps : ∀ x, (encs x).size = ps.size)
    (hG : OwnFrom w.heap.size (fun (s : List α × α) W => G s.1 s.2 W)) (I : List α → World → Prop) (Ix : Code → List α → World → Prop) (hI : OwnFrom w.heap.size I) (hIx : ∀ c, OwnFrom w.heap.size (Ix c)) (h0 : I [] w) (sets : α → List (Nat × Value))
    (hassign : ∀ (l : Nat) (x : α) (W : World) (K : Act → World → Prop), K (setAll a (sets x)) W →
      assign.wpIn (Fence.wide.inRound l) (n - 1 - 1) P (Exit.then K (fun _ _ _ => False)) { tmps := (ps.zip (encs x)).foldl (fun t (p, v) => t.setIfInBounds p v) a.tmps, defers := [] } W)
    (hbody : ∀ (l : Nat) (pre : List α) (x : α) (W : World), I pre W → G pre x W → body.wpIn (Fence.wide.inRound l) (n - 1 - 1) P (roundEnd w.heap.size T I Ix (pre ++ [x]) W) (setAll a (sets x)) W)
    (hdone : ∀ (D : Nat) (xs : List α) (W : World), w.heap.size ≤ D → S xs → I xs W → W.heap[D]? = some (.deferred (some [])) → Q .normal { a with defers := { target := .collected D, args := #[] } :: a.defers } W)
    (hstop : ∀ (D : Nat) (c : Code) (pre : List α) (W : World), w.heap.size ≤ D → Sp pre → Ix c pre W → W.heap[D]? = some (.deferred (some [])) → c.wpIn Fence.wide n P Q { a with defers := { target := .collected D, args := #[] } :: a.defers } W) :
    (Code.rangeFunc g ps assign body).wpIn Fence.wide n P Q a w :=
  rangeG h1 hg eg hseq hT hb0 hps hG I Ix hI hIx h0 (fun x => setAll a (sets x)) hassign hbody hdone hstop
end Go.Mir
