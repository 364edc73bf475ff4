/- LAYER 10: step, one call both ways. Conditions: sizes that fit; the ask stays as it is while the writer's blocks turn. -/
import Derived.Test.YthgaadnbmiekkaaW10Small
import Derived.Test.YthgaadnbmiekkaaRefWriter3
namespace Go.Proofs.Ythgaadnbmiekkaa.W10
open Go.RowKit Go.Mir Go.Mir.Parts Wr RW

/-- what is held behind one ask -/
def stepS (room : Nat) (l : List UInt8) (bad : Int) (o : OpD) : List UInt8 × Int :=
  if o.kind = 0 then numR room l bad o.n o.a else if o.kind = 1 then bytesR room l bad o.b else if o.kind = 2 then bytesR room l bad o.id else if o.kind = 3 then bytesR room l bad (o.id.take 16)
  else if o.kind = 4 then bytesR room l bad o.ids.flatten else (l, if bad = 0 then o.a else bad)
theorem putS_bytesR (room : Nat) (l : List UInt8) (bad : Int) (ps : List (List UInt8)) (h : l.length ≤ room) : putS room l bad true ps = bytesR room l bad ps.flatten := by
  unfold putS bytesR
  rw [total_flatten]
  by_cases hb : bad = 0
  · subst hb
    rw [if_pos rfl, if_pos rfl, if_pos rfl]
    by_cases ht : total ps ≤ room - l.length
    · rw [if_pos ht, if_pos (by omega)]
    · rw [if_neg ht, if_neg (by omega)]
  · rw [if_neg hb, if_neg hb]
theorem numS_numR (room : Nat) (l : List UInt8) (bad : Int) (n : Nat) (width : Int) (h : l.length ≤ room) : numS room l bad n width = numR room l bad n width := by
  unfold numS numR
  by_cases hw : 1 ≤ width ∧ width ≤ 8 ∧ (width = 8 ∨ n < 2 ^ (8 * width.toNat))
  · rw [if_pos hw, if_pos hw, putS_bytesR _ _ _ _ h]; simp
  · rw [if_neg hw, if_neg hw]
    unfold putS
    by_cases hb : bad = 0
    · rw [if_pos hb, if_pos hb]; simp
    · rw [if_neg hb, if_neg hb]

/-- what a step leaves: the writer and the reference's writer agree -/
structure StepLeft (wb : Nat) (v : Value) (room : Nat) (p : Option Addr) (r : List UInt8 × Int) (w wf : World) (v' : Value) (p2 : Option Addr) (n2 c2 : Nat) : Prop where
  wat : WAt wf wb v' room r.1 r.2
  bs : Bs wf p2 n2 c2 r.1
  apart : ∀ a, p2 = some a → a.block < wf.heap.size ∧ ¬ foot wb v' a.block
  turns : Turns (foot wb v) w wf
  next : ∀ k, foot wb v' k → foot wb v k ∨ w.heap.size ≤ k
  nextp : ∀ a, p2 = some a → p = some a ∨ w.heap.size ≤ a.block

theorem step_end {w W2 w1 w2 wf : World} {wb : Nat} {v : Value} {room : Nat} {l : List UInt8} {bad : Int} {p p2 : Option Addr} {n2 c2 : Nat} {r : List UInt8 × Int}
    (hsz : W2.heap.size = w.heap.size + 3) (hbw : Below w.heap.size w W2) (hw : WAt w wb v room l bad) (hp : ∀ a, p = some a → a.block < w.heap.size ∧ ¬ foot wb v a.block) (hl : Wr.Left wb v room r W2 w1) (hb2 : Below w1.heap.size w1 w2)
    (hs : Bs w2 p2 n2 c2 r.1) (hf : ∀ a, p2 = some a → (p = some a ∨ w1.heap.size ≤ a.block) ∧ a.block < w2.heap.size) (ht : Turns (fun k => k = w.heap.size + 2) w2 wf) :
    ∃ v', StepLeft wb v room p r w wf v' p2 n2 c2 := by
  obtain ⟨v', h1, h2, h3⟩ := hl
  have hlt := hw.lt
  have hlt1 := h1.lt
  have hs1 := h2.size
  have hs2 := hb2.size
  have hs3 := ht.size
  have hfoot : ∀ k, foot wb v' k → foot wb v k ∨ W2.heap.size ≤ k := by
    intro k hk
    rcases hk with rfl | hk
    · exact .inl (.inl rfl)
    · rcases Nat.lt_or_ge k W2.heap.size with h | h
      · exact .inl (.inr (h3 k hk h))
      · exact .inr h
  have hne : ∀ k, foot wb v' k → ¬ k = w.heap.size + 2 := by
    intro k hk e
    rcases hfoot k hk with h | h
    · have := hlt k h; omega
    · omega
  refine ⟨v', (h1.touch (Turns.of_below (S := fun _ => False) hb2) (fun _ _ h => h)).touch ht hne, hs.touch ht (fun a ha _ e => ?_), fun a ha => ⟨by have := (hf a ha).2; omega, fun hk => ?_⟩, ?_, fun k hk => ?_, fun a ha => ?_⟩
  · rcases (hf a ha).1 with h | h
    · have := (hp a h).1; omega
    · omega
  · rcases (hf a ha).1 with h | h
    · have h4 := (hp a h)
      rcases hfoot _ hk with h5 | h5
      · exact h4.2 h5
      · omega
    · have := hlt1 _ hk; omega
  · exact (((Turns.of_below (S := foot wb v) hbw).trans h2 (fun _ _ h => h)).trans (Turns.of_below (S := fun _ => False) hb2) (fun _ _ h => h.elim)).trans ht (fun i hi e => by omega)
  · rcases hfoot k hk with h | h
    · exact .inl h
    · exact .inr (by omega)
  · rcases (hf a ha).1 with h | h
    · exact .inl h
    · exact .inr (by omega)

theorem bs_of_range {w : World} {b o n c : Nat} {l : List UInt8} (h : w.rangeAt b o (bytesV l)) (hn : l.length = n) (hc : n ≤ c) (hm : c ≤ 9223372036854775807) : Bs w (some ⟨b, o, none⟩) n c l :=
  ⟨by rw [bytesV_length, hn, Nat.mul_one], hc, hm, fun h => (by cases h), fun a ha j u hu => by
    obtain rfl := Option.some.inj ha
    rw [add_none]; exact h j u hu⟩
end Go.Proofs.Ythgaadnbmiekkaa.W10
