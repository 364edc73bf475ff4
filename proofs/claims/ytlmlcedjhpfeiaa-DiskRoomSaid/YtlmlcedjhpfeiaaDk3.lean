/- THE WALKS OF A DISK: steps done, and counted. Conditions: none. -/
import Derived.Test.YtlmlcedjhpfeiaaDk2
import Derived.Deep.Upon
import Derived.Deep.Cut
namespace Go.Proofs.Ytlmlcedjhpfeiaa.Dk
open Go.RowKit Go.Mir

theorem info8 : (Try.prog.info? 5).map (fun i => (i.zero, i.size, i.bytes)) = some (some (.int .u8 0), 1, 1) := by kernel_rfl
/-- bytes appended to a full slice that is only read -/
theorem wpList_append_rd {w : World} {ops : Array Oper} {rest : List Oper} {o : Oper} {a : Act} {Q : Exit → Act → World → Prop} (hgd : o.guard = none) (s x : Operand)
    (ho : o.op = .call { callee := .builtin .append, args := #[s, x], argTypes := #[22, 22] })
    {base : Nat} {p2 : Option Addr} {n2 : Nat} {l l2 : List UInt8} (hs : a.eval s = .slice p2 n2 n2) (hR : Rd w base (.slice p2 n2 n2) l)
    {px : Option Addr} {m c : Nat} (hx : a.eval x = .slice px m c) (hS : Bs w px m c l2) (hb : n2 + m ≤ 140737488355328) (hbase : base ≤ w.heap.size)
    (h : ∀ p' c' w', Rd w' base (.slice p' (n2 + m) c') (l ++ l2) → Below w.heap.size w w' → wpList Try.prog ops Q rest (a.put o.dst (.slice p' (n2 + m) c')) w') : wpList Try.prog ops Q (o :: rest) a w := by
  obtain ⟨i, hi0, hz, hsize, hby⟩ := info_parts info8
  have hnl : n2 = l.length := by
    obtain ⟨p', c', e, _⟩ := hR.bs
    cases e; rfl
  have hm : l2.length = m := hS.length
  by_cases hm0 : m = 0
  · subst hm0
    have hl2 : l2 = [] := List.length_eq_zero_iff.1 hm
    subst hl2
    refine wpList_plain hgd fun K hK => ?_
    have hsrc : Src Try.prog i.size 22 (.slice px 0 c) 0 [] w := by
      cases px with
      | none => exact Src.ofNil w Try.underlying22 c
      | some ad => exact Src.ofSlice w Try.underlying22 ad 0 c [] (by simp) (fun j u hu => by simp at hu) (fun u hu => by simp at hu)
    have hr := run_append_nothing (P := Try.prog) w 22 22 o.type 5 i Try.underlying22 hi0 p2 n2 n2 (Nat.le_refl _) _ hsrc
    unfold Oper.wp execOp
    simp only [ho, resolve, invoke, builtin, Sem.run_bind, Sem.run_pure, Result.andThen_ok, List.map_toArray, List.map_cons, List.map_nil, hs, hx, hr]
    exact hK _ _ (h p2 n2 w (by simpa using hR) (Below.refl _ _))
  · obtain ⟨ab, ao, rfl⟩ := hS.addr (by omega) (by omega)
    rcases hR with ⟨hv, rfl⟩ | ⟨g, cap, cur, hv, h2, h3, h4, h5, h6, h7⟩
    · cases hv
      refine wpList_append_nx (w := w) hgd s x 22 ho (base := w.heap.size) Try.underlying22 info8 rfl (by omega) hs (World.ownsRow_nil w _ _ _) hx hS (bytesV_one _) ⟨by omega, by omega⟩ (Nat.le_refl _) ?_
      intro p' c' w' ho' hg _ _
      rw [List.nil_append] at ho'
      refine h p' c' w' ?_ ((Below.refl _ _).grown hg (Nat.le_refl _) (fun k hk => by simp [Value.ownBlock] at hk))
      rw [List.nil_append, ← hm, Nat.zero_add]
      rw [← hm, Nat.zero_add] at ho'
      exact (Rd.of_own ho').base hbase
    · cases hv
      refine wpList_plain hgd fun K hK => ?_
      have hcells : ∀ j u, (bytesV l)[j]? = some u → w.cell? ((⟨g, 0, none⟩ : Addr).add j) = some u := fun j u hu => by
        have hj : j < l.length := by have := (List.getElem?_eq_some_iff.1 hu).1; rwa [bytesV_length] at this
        rw [add_none, Nat.zero_add, cell_of_row _ _ _ _ _ _ h3, ← Array.getElem?_toList]
        rw [← h7, List.getElem?_take, if_pos hj] at hu
        exact hu
      obtain ⟨v', w', hr, k1, k2⟩ := run_append_arg_grows (P := Try.prog) w 22 o.type 5 i (.int .u8 0) 1 1 Try.underlying22 hi0 hz hsize hby rfl (by omega) ⟨g, 0, none⟩ l.length l.length (bytesV l) (by rw [bytesV_length, Nat.mul_one]) hcells ⟨ab, ao, none⟩ m c (bytesV l2) hS.len (hS.cell _ rfl) (by omega) (by simp only [maxLen]; omega) (by omega)
      unfold Oper.wp execOp
      simp only [ho, resolve, invoke, builtin, Sem.run_bind, Sem.run_pure, Result.andThen_ok, List.map_toArray, List.map_cons, List.map_nil, hs, hx, hr]
      obtain ⟨p', c', rfl, hsl⟩ := own_sl k1
      refine hK _ _ (h p' c' w' ?_ ⟨k2.os, k2.tape, k2.output, k2.size, fun k hk => k2.block k hk (by simp)⟩)
      rw [← hm] at k1 ⊢
      rw [← bytesV_append] at k1
      have : (l ++ l2).length = l.length + l2.length := List.length_append
      rw [← this] at k1 ⊢
      exact (Rd.of_own k1).base hbase

theorem sl_take8 {w : World} {p : Option Addr} {n c k : Nat} {l : List UInt8} (h : Bs w p n c l) (hk : k ≤ n) : Bs w p k c (l.take k) :=
  ⟨by rw [bytesV_length, List.length_take, h.length, Nat.mul_one]; exact Nat.min_eq_left hk, Nat.le_trans hk h.le, h.max, h.nil0, fun a ha j u hu => by
    rw [show bytesV (l.take k) = (bytesV l).take k by simp [bytesV, List.map_take], List.getElem?_take] at hu
    split at hu
    · exact h.cell a ha j u hu
    · cases hu⟩
theorem putUnits_any (p : Option Addr) (n c : Nat) (w : World) : Calls Try.prog 66 #[.agg #[.slice p n c]] w fun e w' => e = .returned (.int .i64 (n : Int)) ∧ Below w.heap.size w w' := by
  have HB := Lib.hid (Below.allocs w (.cells #[.slice p n c] 68))
  have hc : (w.alloc (.cells #[.slice p n c] 68)).cell? ⟨w.heap.size, 0, none⟩ = some (.slice p n c) := by rw [cell_of_row _ _ _ _ _ _ (heap_alloc_last _ _)]; rfl
  go_enter Try.func66, Try.ntmps66
  go_wp2_with fail
  go_ret
  exact ⟨rfl, HB.out⟩
theorem cutUnits_any (n : Int) (w : World) : Calls Try.prog 68 #[.agg #[.int .i64 n]] w fun e w' => e = .returned (.int .i64 1) ∧ Below w.heap.size w w' := by
  have HB := Lib.hid (Below.allocs w (.cells #[.int .i64 n] 70))
  go_enter Try.func68, Try.ntmps68
  go_wp2_with fail
  go_ret
  exact ⟨rfl, HB.out⟩
def RdP (base : Nat) (l : List UInt8) (w : World) (e : Ending) (w' : World) : Prop := ∃ p c, e = .returned (.slice p l.length c) ∧ Rd w' base (.slice p l.length c) l ∧ Below w.heap.size w w'
set_option maxRecDepth 100000 in
theorem putDo_any {base : Nat} (p : Option Addr) (n c : Nat) (b : List UInt8) (p2 : Option Addr) (n2 c2 : Nat) (l : List UInt8) (u : Nat) (w : World) (hb : Rd w base (.slice p n c) b) (hl : Rd w base (.slice p2 n2 c2) l) (hu : u ≤ n) (hbase : base ≤ w.heap.size) (hsz : n2 + u ≤ 140737488355328) :
    Calls Try.prog 65 #[.agg #[.slice p n c], .slice p2 n2 c2, .int .i64 (u : Int)] w (RdP base (l ++ b.take u) w) := by
  obtain ⟨p', c', e1, hbs⟩ := hb.bs
  cases e1
  obtain ⟨p2', c2', e2, hls⟩ := hl.bs
  cases e2
  have hba := Below.allocs w (.cells #[.slice p b.length c] 68)
  have HB := Lib.hid hba
  have HS := Lib.hid (sl_take8 (hbs.below hba) hu)
  have HL := Lib.hid ((hl.below hba).full)
  have hcap := hbs.le
  have hmax := hbs.max
  have hcap2 := hls.le
  have hmax2 := hls.max
  have HBL : Hid (base ≤ (w.alloc (.cells #[.slice p b.length c] 68)).heap.size) := Nat.le_trans hbase hba.size
  have hc : (w.alloc (.cells #[.slice p b.length c] 68)).cell? ⟨w.heap.size, 0, none⟩ = some (.slice p b.length c) := by rw [cell_of_row _ _ _ _ _ _ (heap_alloc_last _ _)]; rfl
  clear hba hb hl hbs hls
  go_enter Try.func65, Try.ntmps65
  go_upto_region 1 with fail
  generalize w.alloc (.cells #[.slice p b.length c] 68) = w1 at *
  refine wp_region_tail 10 (by kernel_rfl) (by kernel_rfl) ?_
  simp only [List.take_succ_cons, List.take_zero, List.drop_succ_cons, List.drop_zero]
  have HBD := Lib.hid (HB.out.trans (below_drew1 w.heap.size w1))
  have HSD : Hid (Bs w1.drew p u c (b.take u)) := HS.out.below (below_drew1 _ _)
  have HLD : Hid (Rd w1.drew base (.slice p2 l.length l.length) l) := HL.out.below (below_drew1 _ _)
  have HBLD : Hid (base ≤ w1.drew.heap.size) := HBL.out
  have hcd : w1.drew.cell? ⟨w.heap.size, 0, none⟩ = some (.slice p b.length c) := hc
  generalize w1.drew = wd at *
  have huc : u ≤ c := by omega
  repeat still_step
  refine wpStill_nil ?_
  go_wp2_with (refine wpList_append_rd rfl _ _ rfl rfl HLD.out rfl HSD.out (by omega) HBLD.out ?_)
  intro p9 c9 w9 hr9 hb9
  have HR9 := Lib.hid hr9
  have HB9 := Lib.hid (HBD.out.trans (hb9.mono HBD.out.size))
  have HLN : Hid ((l ++ b.take u).length = l.length + u) := by show _ = _; rw [List.length_append, List.length_take]; omega
  clear hr9 hb9
  go_wp2_with fail
  go_ret
  exact ⟨p9, c9, by rw [HLN.out]; rfl, by rw [HLN.out]; exact HR9.out, HB9.out⟩
theorem cutDo_any {base : Nat} (n : Nat) (p2 : Option Addr) (n2 c2 : Nat) (l : List UInt8) (u : Nat) (w : World) (hl : Rd w base (.slice p2 n2 c2) l) (hn : u = 0 ∨ n ≤ l.length) (hu : u ≤ 1) :
    Calls Try.prog 67 #[.agg #[.int .i64 (n : Int)], .slice p2 n2 c2, .int .i64 (u : Int)] w (RdP base ((St.cut n).act l u) w) := by
  obtain ⟨p2', c2', e2, hls⟩ := hl.bs
  cases e2
  have hba := Below.allocs w (.cells #[.int .i64 (n : Int)] 70)
  have HB := Lib.hid hba
  have HL := Lib.hid (hl.below hba)
  have hcap2 := hls.le
  have hmax2 := hls.max
  have hc : (w.alloc (.cells #[.int .i64 (n : Int)] 70)).cell? ⟨w.heap.size, 0, none⟩ = some (.int .i64 (n : Int)) := by rw [cell_of_row _ _ _ _ _ _ (heap_alloc_last _ _)]; rfl
  clear hba hl hls
  by_cases h0 : u = 0
  · subst h0
    go_enter Try.func67, Try.ntmps67
    go_wp2_with fail
    go_ret
    exact ⟨p2, c2, rfl, HL.out, HB.out⟩
  · have hnl : n ≤ l.length := by omega
    have hnc : n ≤ c2 := by omega
    have hu1 : u = 1 := by omega
    have hub : ((u : Int) == 0) = false := by rw [beq_eq_false_iff_ne]; omega
    have HA : Hid ((St.cut n).act l u = l.take n) := by show _ = _; simp [St.act, h0]
    have HN : Hid ((l.take n).length = n) := by show _ = _; rw [List.length_take]; omega
    have HC := Lib.hid (HL.out.cut n hnl)
    clear h0 hu1 hn
    go_enter Try.func67, Try.ntmps67
    go_wp2_with fail
    go_ret
    exact ⟨p2, c2, by rw [HA.out, HN.out]; rfl, by rw [HA.out, HN.out]; exact HC.out, HB.out⟩
theorem Rd.lens {w : World} {base : Nat} {p : Option Addr} {n c : Nat} {l : List UInt8} (h : Rd w base (.slice p n c) l) : n = l.length ∧ n ≤ c ∧ c ≤ 9223372036854775807 := by
  obtain ⟨p', c', e, hb⟩ := h.bs
  cases e
  exact ⟨rfl, hb.le, hb.max⟩
theorem ta_pp (v : Value) (w : World) : (Instr.typeAssert (.iface 68 v) 83 68 true).run Try.prog w = .ok (.tuple #[v, .bool true]) w := by kernel_rfl
theorem ta_cp (v : Value) (w : World) : (Instr.typeAssert (.iface 70 v) 83 68 true).run Try.prog w = .ok (.tuple #[.agg #[.slice none 0 0], .bool false]) w := by kernel_rfl
theorem ta_cc (v : Value) (w : World) : (Instr.typeAssert (.iface 70 v) 83 70 true).run Try.prog w = .ok (.tuple #[v, .bool true]) w := by kernel_rfl
theorem ta_pc (v : Value) (w : World) : (Instr.typeAssert (.iface 68 v) 83 70 true).run Try.prog w = .ok (.tuple #[.agg #[.int .i64 0], .bool false]) w := by kernel_rfl
/-- how long a file would be -/
theorem after_any {base db : Nat} {vs : List FV} {d : DD} (w : World) (h : DAt w base db vs d) (i : Nat) (hi : i < d.fs.length) (sv : Value) (s : St) (hs : StAt w base sv s) (hsz : s.size d.fs[i].now.length ≤ 4611686018427387904) :
    Calls Try.prog 42 #[.pointer (some ⟨db, i * 4, none⟩), sv] w fun e w' => e = .returned (.int .i64 (s.size d.fs[i].now.length : Int)) ∧ Below w.heap.size w w' := by
  have hv : i < vs.length := by have := h.n3; have := h.m3; omega
  have hc := (h.file i hv).2.1
  have hf := h.each i _ _ (List.getElem?_eq_getElem hv) (List.getElem?_eq_getElem hi)
  obtain ⟨pn, cn, e, hb⟩ := hf.now.bs
  rw [e] at hc
  generalize d.fs[i] = f at *
  cases s with
  | put b =>
    obtain ⟨bv, rfl, hrd⟩ := hs
    obtain ⟨p, c, rfl, hbs⟩ := hrd.bs
    have hle := hbs.le
    have hmax := hbs.max
    have hle2 := hb.le
    have hmax2 := hb.max
    have HBB := Lib.hid (Below.allocs w (.cells #[.slice p b.length c] 68))
    have hc2 : (w.alloc (.cells #[.slice p b.length c] 68)).cell? ⟨db, i * 4 + 1, none⟩ = some (.slice pn f.now.length cn) := by rw [HBB.out.cell (block_lt_of_cell hc)]; exact hc
    have hc0 : (w.alloc (.cells #[.slice p b.length c] 68)).cell? ⟨w.heap.size, 0, none⟩ = some (.slice p b.length c) := by rw [cell_of_row _ _ _ _ _ _ (heap_alloc_last _ _)]; rfl
    have hw1 : IntKind.i64.wrap ((f.now.length : Int) + (b.length : Int)) = (f.now.length : Int) + (b.length : Int) := IntWalk.i64_in _ (by simp only [St.size] at hsz; omega)
    have HSZ : Hid ((St.put b).size f.now.length = f.now.length + b.length) := rfl
    have hta := ta_pp
    have hg1 := cell_grown hc2
    have hg0 := cell_grown hc0
    have HF := Lib.hid hsz
    clear hrd hbs hb hf e hsz h hc hc2 hc0
    go_enter Try.func42, Try.ntmps42
    go_upto_region 4 with fail
    clear hta
    generalize w.alloc (.cells #[.slice p b.length c] 68) = w1 at *
    refine wp_region_grow (by kernel_rfl) (by kernel_rfl) ?_
    repeat (first
      | ((with_reducible refine wpQuietGd ?_); (with_reducible refine wpQuiet_skip ?_ ?_); (· rfl); simp only [Act.put, List.setIfInBounds_toArray, List.set_cons_zero, List.set_cons_succ])
      | quiet_step (fail))
    refine wpQuiet_nil ?_
    intro w2 hb2
    have HB2 := Lib.hid (HBB.out.trans (hb2.mono HBB.out.size))
    clear hb2 hg1 hg0
    go_wp2_with fail
    go_ret
    exact ⟨by rw [HSZ.out, Int.natCast_add]; rfl, HB2.out⟩
  | cut n =>
    cases hs
    have HBB := Lib.hid (Below.allocs w (.cells #[.int .i64 (n : Int)] 70))
    have hc0 : (w.alloc (.cells #[.int .i64 (n : Int)] 70)).cell? ⟨w.heap.size, 0, none⟩ = some (.int .i64 (n : Int)) := by rw [cell_of_row _ _ _ _ _ _ (heap_alloc_last _ _)]; rfl
    have hta := ta_cp
    have htc := ta_cc
    clear hb hf e hsz h hc
    go_enter Try.func42, Try.ntmps42
    go_wp2_with fail
    go_ret
    exact ⟨rfl, HBB.out⟩
end Go.Proofs.Ytlmlcedjhpfeiaa.Dk
