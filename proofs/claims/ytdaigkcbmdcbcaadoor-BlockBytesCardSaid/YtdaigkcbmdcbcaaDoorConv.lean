/- BYTES AS A STRING. No program is named. Conditions: none. -/
import Derived.Test.YtdaigkcbmdcbcaaDoorLib
import Derived.Laws.BytesArg
import Derived.Laws.BytesString
import Derived.Deep.Draws
namespace Go.Mir
open Go.RowKit

/-- a list of bytes as a string -/
def strOf (l : List UInt8) : ByteArray := strOfNums (l.map fun b => (b.toNat : Int))
theorem run_convert_bs {P : Program} {w : World} {p : Option Addr} {n c : Nat} {l : List UInt8} (src dst e : TypeId) (hs : P.underlying src = some (.slice e)) (he : P.underlying e = some (.int .u8)) (hd : P.underlying dst = some .string) (h : Bs w p n c l) :
    (convert src dst (.slice p n c)).run P w = .ok (.string (strOf l)) w := by
  have hl := h.length
  by_cases hn : n = 0
  · have hnil : l = [] := List.length_eq_zero_iff.1 (by omega)
    subst hnil; subst hn
    cases p with
    | none => rw [run_convert_bytes_nil w src e hs he 0 c dst hd]; rfl
    | some a =>
      rw [run_convert_bytes_string w src dst e _ 0 c hs he hd, run_bytesToString w a 0 c [] ?_]
      · rfl
      · exact run_loadCells_list (P := P) w a [] (fun j v hj => by simp at hj)
  · obtain ⟨b, o, rfl⟩ := h.addr (by omega) (by omega)
    exact run_convert_bytes_arg w src e hs he b o n c _ (by simpa using hl) (fun i hi => by
      rw [h.byte (by omega)]
      simp [List.getD, show i < l.length by omega]) dst hd
theorem Bs.drewN {w : World} {p : Option Addr} {n c : Nat} {l : List UInt8} (h : Bs w p n c l) (k : Nat) : Bs (w.drewN k) p n c l :=
  ⟨h.len, h.le, h.max, h.nil0, fun a ha j u hu => by
    have := h.cell a ha j u hu
    exact this⟩
end Go.Mir
