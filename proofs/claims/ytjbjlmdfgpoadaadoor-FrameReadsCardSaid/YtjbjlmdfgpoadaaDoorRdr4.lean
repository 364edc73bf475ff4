/- THE WALKS OF A READER: an id; a hint. Conditions: none. -/
import Derived.Test.YtjbjlmdfgpoadaaDoorRdr3
import Derived.Test.YtjbjlmdfgpoadaaDoorEager2
namespace Go.Proofs.YtjbjlmdfgpoadaaDoor.Rdr
open Go.RowKit Go.Mir Go.Mir.Parts

theorem wpList_copy_turn {P : Program} {w : World} {ops : Array Oper} {rest : List Oper} {o : Oper} {a : Act} {Q : Exit → Act → World → Prop} (hgd : o.guard = none) (d s : Operand) (dT sT : TypeId)
    (ho : o.op = .call { callee := .builtin .copy, args := #[d, s], argTypes := #[dT, sT] }) (elem : TypeId) (hu : P.underlying dT = some (.slice elem)) (hsz : (P.info? elem).map (·.size) = some 1)
    (dp sp : Option Addr) (dLen dCap sLen sCap : Nat) (hd : a.eval d = .slice dp dLen dCap) (hs : a.eval s = .slice sp sLen sCap)
    (g off : Nat) (cur : Array Value) (t : TypeId) (hg : w.heap[g]? = some (.cells cur t (0, 0))) (cs : List Value) (hn : cs.length = Nat.min sLen dLen)
    (hpos : 0 < cs.length → dp = some ⟨g, off, none⟩ ∧ ∃ ad, sp = some ad ∧ ∀ j v, cs[j]? = some v → w.cell? (ad.add j) = some v)
    (hfit : off + cs.length ≤ cur.size) (h1 : ∀ v ∈ cs, v.oneCell' = true)
    (h : ∀ w', Hid (w'.heap[g]? = some (.cells (cur.toList.take off ++ (cs ++ cur.toList.drop (off + cs.length))).toArray t (0, 0))) → Turns (fun k => k = g) w w' → wpList P ops Q rest (a.put o.dst (goInt cs.length)) w') :
    wpList P ops Q (o :: rest) a w := by
  by_cases h0 : cs.length = 0
  · obtain rfl : cs = [] := List.eq_nil_of_length_eq_zero h0
    refine wpList_copy_nothing hgd d s dT sT ho elem hu hsz dp sp dLen dCap sLen sCap hd hs (by simpa using hn.symm) ?_
    exact h w (show _ = _ by simpa using hg) (Turns.refl _ _)
  · obtain ⟨rfl, ad, rfl, hsrc⟩ := hpos (by omega)
    refine wpList_copy_own hgd d s dT sT ho elem hu hsz g off dLen dCap ad sLen sCap hd hs cur t hg cs hn hsrc hfit h1 ?_
    exact h _ (setRow_heap w g _ _ t _ hg) (turns_setRow w g _)
theorem bytesV_rep (n k : Nat) : (bytesV (List.replicate n 0)).drop k = bytesV (List.replicate (n - k) 0) := by unfold bytesV; rw [List.map_replicate, List.map_replicate, List.drop_replicate]
def RD.idV (s : RD) (n : Nat) : List UInt8 := s.takeB n true ++ List.replicate (n - (s.takeB n true).length) 0
def IdP (base rb : Nat) (s : RD) (n : Nat) (w : World) (e : Ending) (w' : World) : Prop := e = .returned (.agg (idA (s.idV n))) ∧ LeftR base rb (s.takeS n true) w w'
theorem RAt.touch {S : Nat → Prop} {w w' : World} {base rb : Nat} {s : RD} (h : RAt w base rb s) (ht : Turns S w w') (hS : ∀ k M t fr, w.heap[k]? = some (.cells M t fr) → (t = 5 ∨ t = 74 ∨ t = 69) → ¬ S k) : RAt w' base rb s := by
  obtain ⟨v, bv, h⟩ := h
  exact ⟨v, bv, ht.keep h.row (hS _ _ _ _ h.row (.inr (.inr rfl))), h.low, h.bytes.touch ht (fun k M fr hk => hS k M _ fr hk (.inl rfl)), h.fault.touch ht (fun k M fr hk => hS k M _ fr hk (.inr (.inl rfl))), h.at1, h.len⟩

def zid : Array Value := idA (List.replicate 32 0)
def zhint : Array Value := idA (List.replicate 16 0)
end Go.Proofs.YtjbjlmdfgpoadaaDoor.Rdr
