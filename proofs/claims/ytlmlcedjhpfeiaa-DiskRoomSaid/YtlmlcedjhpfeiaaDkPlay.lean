/- CALLS PLAYED, one behind the other. Conditions: none. -/
import Derived.Test.YtlmlcedjhpfeiaaDkOps
namespace Go.Proofs.Ytlmlcedjhpfeiaa.Dk
open Go.RowKit Go.Mir Go.Mir.Parts

/-- what a call does of a disk -/
def opD (d : DD) (o : DOp) : DD := if o.kind = 0 then putD d o.file o.b else if o.kind = 1 then cutD d o.file o.n else if o.kind = 2 then synD d o.file else if o.kind = 3 then ⟨d.fs, d.room, o.n.toNat, d.down⟩ else if o.kind = 4 then crashD o.us d else d
def playD : DD → List DOp → DD
  | d, [] => d
  | d, o :: r => playD (opD d o) r
theorem playD_take : ∀ (l : List DOp) (d : DD) (k : Nat) (h : k < l.length), playD d (l.take (k + 1)) = opD (playD d (l.take k)) l[k]
  | [], d, k, h => by simp at h
  | o :: r, d, 0, _ => by simp [playD]
  | o :: r, d, k + 1, h => by
    simp only [List.take_succ_cons, playD, List.getElem_cons_succ]
    exact playD_take r (opD d o) k (by simpa using h)
def FewD (d : DD) (N : Nat) : Prop := ∀ f ∈ d.fs, f.steps.length ≤ N
theorem FewD.mono {d : DD} {N M : Nat} (h : FewD d N) (hm : N ≤ M) : FewD d M := fun f hf => Nat.le_trans (h f hf) hm
theorem FewD.set {d : DD} {N i : Nat} {f : FD} (h : FewD d N) (hf : f.steps.length ≤ N) : FewD (setF d i f) N := fun g hg => by
  rcases List.mem_or_eq_of_mem_set hg with hg | hg
  · exact h g hg
  · rw [hg]; exact hf
theorem FewD.burn {d : DD} {N : Nat} (h : FewD d N) : FewD d.burn N := fun g hg => h g (by rw [burn_fs] at hg; exact hg)
theorem FewD.doD {d : DD} {N i : Nat} {f : FD} {s : St} (h : FewD d N) (hf : f.steps.length ≤ N) : FewD (doD d i f s) (N + 1) := by
  unfold Dk.doD
  split
  · exact h.mono (by omega)
  · split
    · exact h.mono (by omega)
    · refine FewD.burn (FewD.set (h.mono (by omega)) ?_)
      show (f.steps ++ [s]).length ≤ _
      rw [List.length_append]
      simp; omega
theorem FewD.syncD {d : DD} {N i : Nat} {f : FD} (h : FewD d N) : FewD (syncD d i f) N := by
  unfold Dk.syncD
  split
  · exact h
  · split
    · exact h.burn
    · exact FewD.set h.burn (Nat.zero_le _)
theorem crF_few (us : List Int) : ∀ (l : List FD) (k : Nat), ∀ f ∈ crF us k l, f.steps.length = 0
  | [], k, f, hf => by simp [crF] at hf
  | g :: r, k, f, hf => by
    rw [crF, List.mem_cons] at hf
    rcases hf with rfl | hf
    · rfl
    · exact crF_few us r (k + 1) f hf
theorem FewD.opD {d : DD} {N : Nat} (h : FewD d N) (o : DOp) : FewD (opD d o) (N + 1) := by
  have hs : FewD d (N + 1) := h.mono (by omega)
  unfold Dk.opD
  split
  · unfold putD
    split
    · split
      · rename_i f hf
        exact h.doD (h f (List.mem_of_getElem? hf))
      · exact hs
    · exact hs
  · split
    · unfold cutD
      split
      · split
        · rename_i f hf
          split
          · exact h.doD (h f (List.mem_of_getElem? hf))
          · exact hs
        · exact hs
      · exact hs
    · split
      · unfold synD
        split
        · split
          · exact hs.syncD
          · exact hs
        · exact hs
      · split
        · exact hs
        · split
          · intro f hf
            have := crF_few o.us d.fs 0 f hf
            omega
          · exact hs
theorem FewD.playD : ∀ (l : List DOp) {d : DD} {N : Nat}, FewD d N → FewD (playD d l) (N + l.length)
  | [], _, _, h => h
  | o :: r, _, N, h => by
    have := FewD.playD r (h.opD o)
    simp only [Dk.playD, List.length_cons]
    rw [show N + (r.length + 1) = N + 1 + r.length by omega]
    exact this
/-- a crash, whatever units are told -/
theorem crF_nil : ∀ (l : List FD) (k : Nat), crF [] k l = l.map (fun f => f.settle 0)
  | [], k => rfl
  | f :: r, k => by rw [crF, crF_nil r (k + 1)]; rfl
theorem crash_all {base db : Nat} {vs : List FV} {d : DD} (w : World) (h : DAt w base db vs d) (hbase : base ≤ w.heap.size) (us : List Int) (p : Option Addr) (c : Nat) (hN : Ns w p us.length c us) (B : Nat) (hB : B ≤ base) (hap : ∀ a, p = some a → 0 < us.length → a.block < B) :
    Calls Try.prog 15 #[.pointer (some ⟨db, 0, none⟩), .slice p us.length c] w fun e w' => e = .returned (.tuple #[]) ∧ LeftD base db vs (crashD us d) w w' := by
  cases us with
  | nil =>
    have e1 : crashD [] d = crash0 d := by unfold crashD crash0; rw [crF_nil]
    rw [e1]
    exact crash_none w h hbase c p
  | cons x r =>
    refine crash_any w h hbase (x :: r) p c hN (fun a ha => ?_)
    have h1 := hap a ha (by simp)
    exact ⟨fun ho => by have := (h.ownLt _ ho).1; omega, by omega⟩
theorem Ns.lt {w : World} {p : Option Addr} {n c : Nat} {us : List Int} (h : Ns w p n c us) : ∀ a, p = some a → 0 < us.length → a.block < w.heap.size := fun a ha h0 => by
  subst ha
  have := h.sl.cell a rfl 0 (.int .i64 us[0]) (by simp [h0])
  exact block_lt_of_cell this
end Go.Proofs.Ytlmlcedjhpfeiaa.Dk
