/- PLAIN PART OF DiskRoom: a crash needs no more, and then a file's need is its length. Conditions: none. -/
import Derived.Test.YtlmlcedjhpfeiaaDk9
namespace Go.Proofs.Ytlmlcedjhpfeiaa.Dk

theorem crF_used (us : List Int) : ∀ (l : List FD) (k : Nat), (∀ f ∈ l, f.Ok) → usedL (crF us k l) ≤ usedL l
  | [], _, _ => Nat.le_refl _
  | f :: r, k, h => by
    have h1 := (h f List.mem_cons_self).all (crU us k f)
    have h2 := crF_used us r (k + 1) (fun g hg => h g (List.mem_cons_of_mem _ hg))
    show (someU f.kept f.steps (crU us k f)).length + usedL (crF us (k + 1) r) ≤ f.need + usedL r
    omega
/-- the sum of what files hold -/
def sizeL : List FD → Nat
  | [] => 0
  | f :: r => f.now.length + sizeL r
theorem sizeL_le : ∀ (l : List FD), (∀ f ∈ l, f.Ok) → sizeL l ≤ usedL l
  | [], _ => Nat.le_refl _
  | f :: r, h => by
    have h1 := (h f List.mem_cons_self).le
    have h2 := sizeL_le r (fun g hg => h g (List.mem_cons_of_mem _ hg))
    show f.now.length + sizeL r ≤ f.need + usedL r
    omega
theorem sizeL_cr (us : List Int) : ∀ (l : List FD) (k : Nat), sizeL (crF us k l) = usedL (crF us k l)
  | [], _ => rfl
  | f :: r, k => by
    show (someU f.kept f.steps (crU us k f)).length + sizeL (crF us (k + 1) r) = (someU f.kept f.steps (crU us k f)).length + usedL (crF us (k + 1) r)
    rw [sizeL_cr us r (k + 1)]
end Go.Proofs.Ytlmlcedjhpfeiaa.Dk
