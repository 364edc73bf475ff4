/- PARTS, JOINED: A REGION THAT DRAWS ITS ORDER, WALKED IN ONE ORDER, WHERE A CALL MAY TELL MORE OF THE WORLD THAN WAS KNOWN AT THE START (the condition may grow behind each operation that runs in its turn). No program is named. Conditions: none. REPLIES: law ReplyBytes. Conditions: internal/bytealg.MaxLen holds an int; the laid cell of errors.errorType. WHAT COMES IN, OPENED: a law's argument that can be read as data, as the walks' own readings. No program is named. Conditions: none. REPLIES that came in. Conditions: none. -/
import Derived.Test.YtmphajilnkgcaaaGreatDoorRq1
import Derived.Test.YtmphajilnkgcaaaGreatDoorRq2
import Derived.Test.YtmphajilnkgcaaaGreatDoorRq3
import Derived.Test.YtmphajilnkgcaaaGreatDoorRq4
import Derived.Test.YtmphajilnkgcaaaGreatDoorRq5
import Derived.Deep.Slices
import Derived.Test.YtmphajilnkgcaaaGreatDoorRows
namespace Go.Mir
open Go.RowKit

theorem wpAnyH_mono {P : Program} {md : Region.Mode} {ops : Array Oper} {Q : Exit → Act → World → Prop} {S S' : World → Prop} (hs : ∀ x, S' x → S x) :
    ∀ (n : Nat) (listed : Array Bool) (a : Act) (w : World), wpAnyH P md ops Q S' n listed a w → wpAnyH P md ops Q S n listed a w
  | 0, _, _, _, h => h
  | n + 1, _, _, _, h => ⟨h.1, fun i hi => wpOp_mono (fun a' w' h' => ⟨hs _ h'.1, wpAnyH_mono hs n _ a' w' h'.2⟩) (h.2 i hi)⟩
def wpEagerX (P : Program) (ops : Array Oper) (Q : Exit → Act → World → Prop) : List (Oper × Bool) → (World → Prop) → Act → World → Prop
  | [], _, a, w => Q .normal a w
  | (o, true) :: r, S, a, w => ∃ v, YieldsIf P ops S o v a ∧ wpEagerX P ops Q r S (a.put o.dst v) w
  | (o, false) :: r, S, a, w => if Region.wanted o (yielded ops a.tmps) then o.wp P a w (fun a' w' => ∃ S' : World → Prop, (∀ x, S' x → S x) ∧ S' w' ∧ wpEagerX P ops Q r S' a' w') Q else wpEagerX P ops Q r S (a.put o.dst undef) w
theorem wpAnyH_eagerX {P : Program} {l : List Oper} {ops : Array Oper} (hl : l.toArray = ops) {Q : Exit → Act → World → Prop} (hs : Region.noSelect ops = true) (hQ : ∀ c a d v w, Q (.panic c) (a.put d v) w → Q (.panic c) a w) :
    ∀ (π : List (Nat × Bool)) (listed : Array Bool) (S : World → Prop) (a : Act) (w : World), planB ops π listed = true → S w → wpEagerX P ops Q (planOps l π) S a w → wpAnyH P .any ops Q S π.length listed a w
  | [], listed, S, a, w, hp, _, h => by
    refine wpAnyH_done ?_ h _
    simpa [planB, List.isEmpty_iff] using hp
  | (i, true) :: r, listed, S, a, w, hp, hS, h => by
    simp only [planB, Bool.and_eq_true] at hp
    obtain ⟨⟨⟨h1, h2⟩, h3⟩, h4⟩ := hp
    obtain ⟨o, ho⟩ := Option.isSome_iff_exists.1 h1
    have hn : nthO l i = some o := by rw [← nthO_eq, hl]; exact ho
    simp only [planOps, hn, wpEagerX] at h
    obtain ⟨v, hy, h⟩ := h
    exact wpAnyH_take ho hs h2 h3 (fun c a w => hQ c a _ _ w) hy hS (wpAnyH_eagerX hl hs hQ r _ S _ _ h4 hS h)
  | (i, false) :: r, listed, S, a, w, hp, hS, h => by
    simp only [planB, Bool.and_eq_true, beq_iff_eq] at hp
    obtain ⟨⟨h1, h2⟩, h4⟩ := hp
    obtain ⟨o, ho⟩ := Option.isSome_iff_exists.1 h1
    have hn : nthO l i = some o := by rw [← nthO_eq, hl]; exact ho
    simp only [planOps, hn, wpEagerX] at h
    refine wpAnyH_all h2 (by simp) fun j hj => ?_
    rw [List.mem_singleton] at hj
    subst hj
    unfold wpOp
    simp only [ho]
    split at h
    · rename_i hw
      rw [if_pos hw]
      exact .inl (Oper.wp_mono (fun a' w' ⟨S', h5, h6, h7⟩ => ⟨h5 _ h6, wpAnyH_mono h5 _ _ _ _ (wpAnyH_eagerX hl hs hQ r _ S' _ _ h4 h6 h7)⟩) h)
    · rename_i hw
      rw [if_neg hw]
      exact ⟨hS, wpAnyH_eagerX hl hs hQ r _ S _ _ h4 hS h⟩
/-- the beginning -/
theorem wp_region_eager_x {P : Program} {id : Nat} {Q : Exit → Act → World → Prop} {a : Act} {w : World} {l : List Oper} (S : World → Prop) (π : List (Nat × Bool)) (hm : P.follows .mixedOrders = true)
    (hp : (planB l.toArray π (Array.replicate l.length false) && Region.noSelect l.toArray && π.length == l.length) = true) (hS : S w.drew)
    (h : wpEagerX P l.toArray (NoPanic Q) (planOps l π) S a w.drew) : (Code.region id l.toArray true).wp P Q a w := by
  refine wp_region_noPanic ?_
  simp only [Bool.and_eq_true, beq_iff_eq] at hp
  obtain ⟨⟨h1, h2⟩, h3⟩ := hp
  have := wpAnyH_eagerX (P := P) (Q := NoPanic Q) (l := l) rfl h2 (fun _ _ _ _ _ h => h) π (Array.replicate l.length false) S a w.drew h1 hS h
  refine wp_region_held hm (S := S) ?_
  rw [h3] at this
  have hz : l.toArray.size = l.length := List.size_toArray ..
  rw [hz]
  exact this
section
variable {P : Program} {ops : Array Oper} {S : World → Prop} {Q : Exit → Act → World → Prop}
theorem eagerXOpen {l : List Oper} {i : Nat} {b : Bool} {r : List (Nat × Bool)} {a : Act} {w : World} {o : Oper} (ho : nthO l i = some o)
    (h : wpEagerX P ops Q ((o, b) :: planOps l r) S a w) : wpEagerX P ops Q (planOps l ((i, b) :: r)) S a w := by
  unfold planOps; rw [ho]; exact h
theorem eagerXEnd {l : List Oper} {a : Act} {w : World} (h : Q .normal a w) : wpEagerX P ops (NoPanic Q) (planOps l []) S a w := h
theorem wpEagerX_take {o : Oper} {r : List (Oper × Bool)} {a : Act} {w : World} {v : Value} (hw : Region.wanted o (yielded ops a.tmps) = true)
    (hy : ∀ w', S w' → (execOp a.eval o).run P w' = .ok (.value v) w') (h : wpEagerX P ops Q r S (a.put o.dst v) w) : wpEagerX P ops Q ((o, true) :: r) S a w := ⟨v, .inl ⟨hw, hy⟩, h⟩
theorem wpEagerX_skip {o : Oper} {r : List (Oper × Bool)} {a : Act} {w : World} (hw : Region.wanted o (yielded ops a.tmps) = false)
    (h : wpEagerX P ops Q r S (a.put o.dst undef) w) : wpEagerX P ops Q ((o, true) :: r) S a w := ⟨undef, .inr ⟨hw, rfl⟩, h⟩
theorem wpEagerX_off {o : Oper} {r : List (Oper × Bool)} {a : Act} {w : World} (hw : Region.wanted o (yielded ops a.tmps) = false)
    (h : wpEagerX P ops Q r S (a.put o.dst undef) w) : wpEagerX P ops Q ((o, false) :: r) S a w := by
  unfold wpEagerX; rw [if_neg (by rw [hw]; exact Bool.false_ne_true)]; exact h
theorem wpEagerX_load {op : Oper} {r : List (Oper × Bool)} {a : Act} {w : World} (hw : Region.wanted op (yielded ops a.tmps) = true) (ty : TypeId) (x : Operand) (ho : op.op = .load ty x)
    (b o : Nat) (hx : a.eval x = .pointer (some ⟨b, o, none⟩)) (M : Array Value) (d : TypeDesc) (hc : ∀ w', S w' → w'.rangeAt b o M.toList)
    (hu : P.underlying ty = some d) (hd : d.isRow = true) (hi : (P.info? ty).map (·.size) = some M.size)
    (h : wpEagerX P ops Q r S (a.put op.dst (.agg M)) w) : wpEagerX P ops Q ((op, true) :: r) S a w := by
  refine wpEagerX_take hw (fun w' hb => ?_) h
  unfold execOp
  simp only [ho, hx, Instr.loadAt, Instr.sureAddr, Sem.run_bind, Sem.run_pure, Result.andThen_ok, run_loadVar_mid w' b o ty M.toList d (hc w' hb) hu hd (by simpa using hi)]
/-- at an operation that runs in its turn: the way back is shut till a condition is shown, at least as strong as the one before -/
theorem wpEagerX_op {o : Oper} {r : List (Oper × Bool)} {a : Act} {w : World} (hw : Region.wanted o (yielded ops a.tmps) = true)
    (h : ∀ K : Act → World → Prop, Shut (∀ (S' : World → Prop) a w, (∀ x, S' x → S x) → S' w → wpEagerX P ops Q r S' a w → K a w) → Oper.wp P o a w K Q) : wpEagerX P ops Q ((o, false) :: r) S a w := by
  unfold wpEagerX; rw [if_pos hw]; exact h _ fun S' _ _ h0 h1 h2 => ⟨S', h0, h1, h2⟩
theorem eagerXLoadAt {r : List (Oper × Bool)} {a : Act} {w : World} (n : Nat) {d : Option Nat} {ty : TypeId} {t : TypeId} {p : String} {af : Array Edge} {g : Option (Nat × Bool)} {b : Bool}
    (h : wpEagerX P ops Q ((⟨d, .load ty (.tmp n), t, p, af, g⟩, b) :: r) S a w) : wpEagerX P ops Q ((⟨d, .load ty (.tmp n), t, p, af, g⟩, b) :: r) S a w := h
theorem eagerXAt {r : List (Oper × Bool)} {a : Act} {w : World} (n : Nat) {op : Op} {t : TypeId} {p : String} {af : Array Edge} {g : Option (Nat × Bool)} {b : Bool}
    (h : wpEagerX P ops Q ((⟨some n, op, t, p, af, g⟩, b) :: r) S a w) : wpEagerX P ops Q ((⟨some n, op, t, p, af, g⟩, b) :: r) S a w := h
end
end Go.Mir

namespace Go.Proofs.YtmphajilnkgcaaaGreatDoor.Rpl
open Go.RowKit Go.Mir Go.Mir.Hx Go.Mir.Parts Rdr Wr Cod

theorem dec_enc {r : RP} (h : r.right) (hw : r.wf) : rD (encD r) 5 = r := by
  rw [rD_fit _ (encD_len r)]
  have e0 : (encD r).take 1 = be r.kind.toNat 1 := List.take_left' (be_length _ _)
  have d1 : (encD r).drop 1 = be r.err.toNat 1 ++ (be r.se 4 ++ (be r.sq 4 ++ (be r.qu 4 ++ (be r.us 4 ++ be r.ex 4)))) := List.drop_left' (be_length _ _)
  have d2 : (encD r).drop 2 = be r.se 4 ++ (be r.sq 4 ++ (be r.qu 4 ++ (be r.us 4 ++ be r.ex 4))) := by rw [show 2 = 1 + 1 from rfl, ← List.drop_drop, d1]; exact List.drop_left' (be_length _ _)
  have d6 : (encD r).drop 6 = be r.sq 4 ++ (be r.qu 4 ++ (be r.us 4 ++ be r.ex 4)) := by rw [show 6 = 2 + 4 from rfl, ← List.drop_drop, d2]; exact List.drop_left' (be_length _ _)
  have d10 : (encD r).drop 10 = be r.qu 4 ++ (be r.us 4 ++ be r.ex 4) := by rw [show 10 = 6 + 4 from rfl, ← List.drop_drop, d6]; exact List.drop_left' (be_length _ _)
  have d14 : (encD r).drop 14 = be r.us 4 ++ be r.ex 4 := by rw [show 14 = 10 + 4 from rfl, ← List.drop_drop, d10]; exact List.drop_left' (be_length _ _)
  have d18 : (encD r).drop 18 = be r.ex 4 := by rw [show 18 = 14 + 4 from rfl, ← List.drop_drop, d14]; exact List.drop_left' (be_length _ _)
  have t18 : (be r.ex 4).take 4 = be r.ex 4 := List.take_of_length_le (by rw [be_length]; exact Nat.le_refl _)
  rw [e0, d1, d2, d6, d10, d14, d18, List.take_left' (be_length _ _), List.take_left' (be_length _ _), List.take_left' (be_length _ _), List.take_left' (be_length _ _), List.take_left' (be_length _ _), t18]
  have hk0 := h.1.1
  have hk1 := h.1.2.1
  have he0 := h.1.2.2.1
  have he1 := h.1.2.2.2
  have hn (n : Nat) (hm : n ∈ r.nums) : n < 256 ^ 4 := hw n hm
  rw [beN_be _ 1 (by omega) (by omega), beN_be _ 1 (by omega) (by omega), beN_be _ 4 (by omega) (hn _ (by simp [RP.nums])), beN_be _ 4 (by omega) (hn _ (by simp [RP.nums])), beN_be _ 4 (by omega) (hn _ (by simp [RP.nums])), beN_be _ 4 (by omega) (hn _ (by simp [RP.nums])), beN_be _ 4 (by omega) (hn _ (by simp [RP.nums]))]
  have k1 : ((r.kind.toNat : Nat) : Int) = r.kind := by omega
  have k2 : ((r.err.toNat : Nat) : Int) = r.err := by omega
  rw [k1, k2]
theorem dec_encD {r : RP} (h : r.right) (hw : r.wf) : decD (encD r) = (r, 0) := by
  unfold decD
  rw [encD_len, if_neg (by omega), if_neg (by omega), dec_enc h hw, if_pos h]
set_option maxRecDepth 100000 in
theorem encode_no (r : RP) (w : World) (hr : ¬ r.right) : Calls Tryz.prog 4 #[.agg (rpA r)] w fun e w' => e = .returned (.tuple #[.slice none 0 0, .int .i64 1]) ∧ Below w.heap.size w w' := by
  have HB1 := Lib.hid (Below.allocs w (.cells (rpA r) 26))
  have HR1 := Lib.hid (heap_alloc_last w (.cells (rpA r) 26))
  have HC := Lib.hid (right_any r (w.alloc (.cells (rpA r) 26)))
  rw [decide_eq_false hr] at HC
  clear hr
  go_enter Tryz.func4, Tryz.ntmps4
  go_wp2_with (refine wpList_load_row rfl 26 _ rfl w.heap.size rfl 26 (rpA r) (0, 0) _ HR1.out Tryz.underlying26 rfl (infoR _ rfl) ?_)
  refine HC.out.mono ?_
  rintro e w2 ⟨rfl, hb2⟩
  go_wp2_with fail
  go_ret2
  exact ⟨rfl, HB1.out.trans (hb2.mono HB1.out.size)⟩
theorem rp_range {w : World} {g : Nat} {r : RP} {t : TypeId} {fr : Nat × Nat} (h : w.heap[g]? = some (.cells (rpA r) t fr)) : w.rangeAt g 0 (rpA r).toList := range_row h [] (rpA r).toList [] (by simp)
theorem line_len (r : RP) (hw : r.wf) : (lineB r).length ≤ 200 := by
  by_cases hr : r.right
  · by_cases he : r.err = 0
    · rw [lnN_ok r hr he]; exact lnN_len r hw 5
    · rw [lnN_no r hr he]; exact lnN_len r hw 0
  · rw [lineB, if_neg hr]; exact Nat.zero_le _
set_option maxRecDepth 100000 in
set_option maxHeartbeats 3200000 in
theorem law_bytes (r : RP) (w : World) (hm : MaxL w) (hE : EType w) (hw : r.wf) :
    Calls Tryz.prog 3 #[.agg (rpA r)] w fun e w' => e = .returned (.bool true) ∧ Below w.heap.size w w' := by
  have hz := zeroR
  have HM := Lib.hid hm
  have HE := Lib.hid hE
  have HB1 := Lib.hid (Below.allocs w (.cells (rpA r) 26))
  have HR1 := Lib.hid (heap_alloc_last w (.cells (rpA r) 26))
  have HL := Lib.hid (fun w => line_any r w hw)
  have HRL := Lib.hid (fun w => rline_any r w hw)
  have HRI := Lib.hid (fun w => right_any r w)
  have HRR := Lib.hid (fun w => rright_any r w)
  clear hm hE
  by_cases hr : r.right
  · have HEN := Lib.hid (fun w => encode_any r w hr hw)
    unfold EncP at HEN
    simp only [encD_len] at HEN
    have HBY := Lib.hid (fun w => rbytes_any r w hr hw)
    have HPL := Lib.hid (parse_line hr hw)
    have HDE := Lib.hid (dec_encD hr hw)
    have hll := line_len r hw
    rw [decide_eq_true hr] at HRI HRR
    clear hr hw
    go_enter Tryz.func3, Tryz.ntmps3
    go_wp2_with (refine wpList_load_row rfl 26 _ rfl w.heap.size rfl 26 (rpA r) (0, 0) _ HR1.out Tryz.underlying26 rfl (infoR _ rfl) ?_)
    refine (HEN.out _).mono ?_
    rintro e w2 ⟨p, c, rfl, hbs, hb⟩
    have HR2 := Lib.hid (Below.keepOld hb HR1.out)
    have HB2 := Lib.hid (HB1.out.trans (hb.mono HB1.out.size))
    have HBS2 := Lib.hid hbs
    clear hb hbs HR1 HB1 HEN
    go_wp2_with (refine wpList_load_row rfl 26 _ rfl w.heap.size rfl 26 (rpA r) (0, 0) _ HR2.out Tryz.underlying26 rfl (infoR _ rfl) ?_)
    refine (HL.out _).mono ?_
    rintro e w3 ⟨rfl, hb⟩
    have HRX := Lib.hid (Below.keepOld hb HR2.out)
    have HB3 := Lib.hid (HB2.out.trans (hb.mono HB2.out.size))
    have HBS3 := Lib.hid (HBS2.out.below hb)
    clear hb HR2 HB2 HL HBS2
    go_upto_region 3 with fail
    skip
    -- region 3 in world w3 (HRX: the box there)
    have HROW : Hid (∀ w', Below w3.heap.size w3 w' → w'.rangeAt w.heap.size 0 (rpA r).toList) := fun w' hb => range_below (rp_range HRX.out) hb
    refine wp_region_eager_in (Below w3.heap.size w3) [(0, true), (2, true), (1, false), (3, false), (4, true), (5, true), (6, true), (7, true), (8, true), (9, false), (10, true), (11, true), (12, true), (13, true), (14, true), (15, false), (16, true), (17, true)] (by kernel_rfl) (by kernel_rfl) ?_ (eagerOpen rfl ?_)
    · exact below_drew1 _ _
    have hy0 : Below w3.heap.size w3 w3.drew := below_drew1 _ _
    repeat (first
      | ((with_reducible refine eagerLoadAt 1 ?_); refine wpEager_load (by rfl) 26 _ rfl w.heap.size 0 rfl (rpA r) _ (fun w' hb => HROW.out w' hb) Tryz.underlying26 rfl (infoR _ rfl) ?_; (try simp only [Act.put, List.setIfInBounds_toArray, List.set_cons_zero, List.set_cons_succ]); (try refine eagerOpen rfl ?_))
      | (first | (apply wpEager_take; (· rfl); (· (intro w' hb'; go_simp; try with_reducible rfl)); (try simp only [Act.put, List.setIfInBounds_toArray, List.set_cons_zero, List.set_cons_succ]); (try refine eagerOpen rfl ?_)) | (refine wpEager_skip (by rfl) ?_; (try simp only [Act.put, List.setIfInBounds_toArray, List.set_cons_zero, List.set_cons_succ]); (try refine eagerOpen rfl ?_)) | (refine wpEager_off (by rfl) ?_; (try simp only [Act.put, List.setIfInBounds_toArray, List.set_cons_zero, List.set_cons_succ]); (try refine eagerOpen rfl ?_))))
    (refine wpEager_op (by rfl) (fun K hK => ?_); go_simp; (refine (HRI.out _).mono ?_; rintro e y ⟨rfl, hb⟩; have hy1 : Below w3.heap.size w3 y := hy0.trans (hb.mono hy0.size); clear hb); refine Shut.out hK _ _ (by assumption) ?_; clear hK K; (try simp only [Act.put, List.setIfInBounds_toArray, List.set_cons_zero, List.set_cons_succ]); (try refine eagerOpen rfl ?_))
    (refine wpEager_op (by rfl) (fun K hK => ?_); go_simp; (refine (HRR.out _).mono ?_; rintro e y2 ⟨rfl, hb⟩; have hy2 : Below w3.heap.size w3 y2 := hy1.trans (hb.mono hy1.size); clear hb); refine Shut.out hK _ _ (by assumption) ?_; clear hK K; (try simp only [Act.put, List.setIfInBounds_toArray, List.set_cons_zero, List.set_cons_succ]); (try refine eagerOpen rfl ?_))
    repeat (first
      | ((with_reducible refine eagerLoadAt 1 ?_); refine wpEager_load (by rfl) 26 _ rfl w.heap.size 0 rfl (rpA r) _ (fun w' hb => HROW.out w' hb) Tryz.underlying26 rfl (infoR _ rfl) ?_; (try simp only [Act.put, List.setIfInBounds_toArray, List.set_cons_zero, List.set_cons_succ]); (try refine eagerOpen rfl ?_))
      | (first | (apply wpEager_take; (· rfl); (· (intro w' hb'; go_simp; try with_reducible rfl)); (try simp only [Act.put, List.setIfInBounds_toArray, List.set_cons_zero, List.set_cons_succ]); (try refine eagerOpen rfl ?_)) | (refine wpEager_skip (by rfl) ?_; (try simp only [Act.put, List.setIfInBounds_toArray, List.set_cons_zero, List.set_cons_succ]); (try refine eagerOpen rfl ?_)) | (refine wpEager_off (by rfl) ?_; (try simp only [Act.put, List.setIfInBounds_toArray, List.set_cons_zero, List.set_cons_succ]); (try refine eagerOpen rfl ?_))))
    (refine wpEager_op (by rfl) (fun K hK => ?_); go_simp; (refine (HRR.out _).mono ?_; rintro e y3 ⟨rfl, hb⟩; have hy3 : Below w3.heap.size w3 y3 := hy2.trans (hb.mono hy2.size); clear hb); refine Shut.out hK _ _ (by assumption) ?_; clear hK K; (try simp only [Act.put, List.setIfInBounds_toArray, List.set_cons_zero, List.set_cons_succ]); (try refine eagerOpen rfl ?_))
    repeat (first
      | ((with_reducible refine eagerLoadAt 1 ?_); refine wpEager_load (by rfl) 26 _ rfl w.heap.size 0 rfl (rpA r) _ (fun w' hb => HROW.out w' hb) Tryz.underlying26 rfl (infoR _ rfl) ?_; (try simp only [Act.put, List.setIfInBounds_toArray, List.set_cons_zero, List.set_cons_succ]); (try refine eagerOpen rfl ?_))
      | (first | (apply wpEager_take; (· rfl); (· (intro w' hb'; go_simp; try with_reducible rfl)); (try simp only [Act.put, List.setIfInBounds_toArray, List.set_cons_zero, List.set_cons_succ]); (try refine eagerOpen rfl ?_)) | (refine wpEager_skip (by rfl) ?_; (try simp only [Act.put, List.setIfInBounds_toArray, List.set_cons_zero, List.set_cons_succ]); (try refine eagerOpen rfl ?_)) | (refine wpEager_off (by rfl) ?_; (try simp only [Act.put, List.setIfInBounds_toArray, List.set_cons_zero, List.set_cons_succ]); (try refine eagerOpen rfl ?_))))
    (refine wpEager_op (by rfl) (fun K hK => ?_); go_simp; (refine (HRL.out _).mono ?_; rintro e y4 ⟨rfl, hb⟩; have hy4 : Below w3.heap.size w3 y4 := hy3.trans (hb.mono hy3.size); clear hb); refine Shut.out hK _ _ (by assumption) ?_; clear hK K; (try simp only [Act.put, List.setIfInBounds_toArray, List.set_cons_zero, List.set_cons_succ]); (try refine eagerOpen rfl ?_))
    repeat (first | (apply wpEager_take; (· rfl); (· (intro w' hb'; go_simp; try with_reducible rfl)); (try simp only [Act.put, List.setIfInBounds_toArray, List.set_cons_zero, List.set_cons_succ]); (try refine eagerOpen rfl ?_)) | (refine wpEager_skip (by rfl) ?_; (try simp only [Act.put, List.setIfInBounds_toArray, List.set_cons_zero, List.set_cons_succ]); (try refine eagerOpen rfl ?_)) | (refine wpEager_off (by rfl) ?_; (try simp only [Act.put, List.setIfInBounds_toArray, List.set_cons_zero, List.set_cons_succ]); (try refine eagerOpen rfl ?_)))
    refine eagerEnd ?_
    have HR4 := Lib.hid (Below.keepOld hy4 HRX.out)
    have HB4 := Lib.hid (HB3.out.trans (hy4.mono HB3.out.size))
    have HBS4 := Lib.hid (HBS3.out.below hy4)
    clear hy0 hy1 hy2 hy3 hy4 HRX HB3 HBS3 HROW HRI HRR HRL
    have hp := decode_any y4 p 22 c (encD r) HBS4.out (HE.out.below HB4.out HE.out.lt) (by omega)
    unfold DecP at hp
    rw [HDE.out] at hp
    have HP := Lib.hid hp
    clear hp
    go_wp2_with fail
    refine HP.out.mono ?_
    rintro e w5 ⟨rfl, hb⟩
    have hal := below_setRow (Below.allocs w5 (.cells zR 26)) (Nat.le_refl _) (rpA r)
    have HR6 := Lib.hid (Below.keepOld hal (Below.keepOld hb HR4.out))
    have HB6 := Lib.hid (HB4.out.trans ((hb.trans (hal.mono hb.size)).mono HB4.out.size))
    have HBS6 := Lib.hid ((HBS4.out.below hb).below hal)
    have HY6 := Lib.hid (setRow_heap _ _ _ (rpA r) _ _ (heap_alloc_last w5 (.cells zR 26)))
    clear hb hal HR4 HB4 HBS4 HP
    go_upto_region 8 with (refine wpList_store_row rfl 26 _ _ rfl w5.heap.size (rpA r) rfl rfl 26 zR (heap_alloc_last _ _) (infoR _ rfl) rfl (rpA_one _) ?_)
    try simp only [Act.put, List.setIfInBounds_toArray, List.set_cons_zero, List.set_cons_succ]
    generalize (w5.alloc (.cells zR 26)).setRow w5.heap.size (rpA r) = w6 at *
    generalize w5.heap.size = g5 at *
    have hp := parse_any (lineB r) w6 (by omega) (HM.out.below HB6.out)
    unfold ParP at hp
    rw [HPL.out] at hp
    have HP := Lib.hid hp
    clear hp
    go_wp2_with fail
    refine HP.out.mono ?_
    rintro e w7 ⟨rfl, hb⟩
    have hal := below_setRow (Below.allocs w7 (.cells zR 26)) (Nat.le_refl _) (rpA r)
    have HR8 := Lib.hid (Below.keepOld hal (Below.keepOld hb HR6.out))
    have HB8 := Lib.hid (HB6.out.trans ((hb.trans (hal.mono hb.size)).mono HB6.out.size))
    have HBS8 := Lib.hid ((HBS6.out.below hb).below hal)
    have HY8 := Lib.hid (Below.keepOld hal (Below.keepOld hb HY6.out))
    have HZ8 := Lib.hid (setRow_heap _ _ _ (rpA r) _ _ (heap_alloc_last w7 (.cells zR 26)))
    clear hb hal HR6 HB6 HBS6 HP HY6
    go_upto_region 9 with (refine wpList_store_row rfl 26 _ _ rfl w7.heap.size (rpA r) rfl rfl 26 zR (heap_alloc_last _ _) (infoR _ rfl) rfl (rpA_one _) ?_)
    try simp only [Act.put, List.setIfInBounds_toArray, List.set_cons_zero, List.set_cons_succ]
    generalize (w7.alloc (.cells zR 26)).setRow w7.heap.size (rpA r) = w8 at *
    generalize w7.heap.size = g7 at *
    have HC1 : Hid (∀ w', Below w8.heap.size w8 w' → (convert 27 9 (.slice p 22 c)).run Tryz.prog w' = .ok (.string (S (encD r))) w') := fun w' hb => Cut.bconv (HBS8.out.below hb)
    have HX0 : Hid (∀ w', Below w8.heap.size w8 w' → w'.rangeAt w.heap.size 0 (rpA r).toList) := fun w' hb => range_below (rp_range HR8.out) hb
    have HX1 : Hid (∀ w', Below w8.heap.size w8 w' → w'.rangeAt g5 0 (rpA r).toList) := fun w' hb => range_below (rp_range HY8.out) hb
    have HX2 : Hid (∀ w', Below w8.heap.size w8 w' → w'.rangeAt g7 0 (rpA r).toList) := fun w' hb => range_below (rp_range HZ8.out) hb
    obtain ⟨kind, err, se, sq, qu, us, ex⟩ := r
    clear HBS8 HR8 HY8 HZ8 HDE HPL hll
    refine wp_region_eager_x (Below w8.heap.size w8) [(0, true), (1, true), (2, true), (3, false), (4, true), (5, true), (6, true), (7, true), (8, true), (9, true), (10, true), (11, true), (12, true), (13, true), (14, true), (15, true), (16, true), (17, true), (18, true), (19, true), (20, true), (21, true), (22, true), (23, true), (24, true), (25, false), (26, true), (27, true)] (by kernel_rfl) (by kernel_rfl) ?_ (eagerXOpen rfl ?_)
    · exact below_drew1 _ _
    have hy0 : Below w8.heap.size w8 w8.drew := below_drew1 _ _
    repeat (first
      | ((with_reducible refine eagerXLoadAt 1 ?_); refine wpEagerX_load (by rfl) 26 _ rfl w.heap.size 0 rfl #[.int .i64 kind, .int .i64 err, .int .u32 (se : Int), .int .u32 (sq : Int), .int .u32 (qu : Int), .int .u32 (us : Int), .int .u32 (ex : Int)] _ (fun w' hb => HX0.out w' hb) Tryz.underlying26 rfl (infoR _ rfl) ?_; (try simp only [Act.put, List.setIfInBounds_toArray, List.set_cons_zero, List.set_cons_succ]); (try refine eagerXOpen rfl ?_))
      | (apply wpEagerX_take; (· rfl); (· (intro w' hb'; have hk' := (fun w' hb => HC1.out w' hb) w' hb'; go_split_ands; go_simp; try with_reducible rfl)); (try simp only [Act.put, List.setIfInBounds_toArray, List.set_cons_zero, List.set_cons_succ]); (try refine eagerXOpen rfl ?_))
      | (first | (apply wpEagerX_take; (· rfl); (· (intro w' hb'; go_simp; try with_reducible rfl)); (try simp only [Act.put, List.setIfInBounds_toArray, List.set_cons_zero, List.set_cons_succ]); (try refine eagerXOpen rfl ?_)) | (refine wpEagerX_skip (by rfl) ?_; (try simp only [Act.put, List.setIfInBounds_toArray, List.set_cons_zero, List.set_cons_succ]); (try refine eagerXOpen rfl ?_)) | (refine wpEager_off (by rfl) ?_; (try simp only [Act.put, List.setIfInBounds_toArray, List.set_cons_zero, List.set_cons_succ]); (try refine eagerXOpen rfl ?_))))
    (refine wpEagerX_op (by rfl) (fun K hK => ?_); go_simp; (refine (HBY.out w8.drew).mono ?_; rintro e y ⟨p1, c1, rfl, ho, hb⟩; have HO1 := Lib.hid ho; have HY1 := Lib.hid (hy0.trans hb); have hsub : ∀ x, Below y.heap.size y x → Below w8.heap.size w8 x := fun x hx => HY1.out.trans (hx.mono HY1.out.size); have hy1 : Below y.heap.size y y := Below.refl _ _; clear hb ho); refine Shut.out hK _ _ _ hsub (by assumption) ?_; clear hK K hsub; (try simp only [Act.put, List.setIfInBounds_toArray, List.set_cons_zero, List.set_cons_succ]); (try refine eagerXOpen rfl ?_))
    have HC2 : Hid (∀ w', Below y.heap.size y w' → (convert 27 9 (.slice p1 22 c1)).run Tryz.prog w' = .ok (.string (S (encD ⟨kind, err, se, sq, qu, us, ex⟩))) w') := fun w' hb => Cut.bconv (HO1.out.below hb)
    have HS1 : Hid (∀ x, Below y.heap.size y x → Below w8.heap.size w8 x) := fun x hx => HY1.out.trans (hx.mono HY1.out.size)
    repeat (first
      | (apply wpEagerX_take; (· rfl); (· (intro w' hb'; have hk' := (fun w' hb => HC2.out w' hb) w' hb'; go_split_ands; go_simp; try with_reducible rfl)); (try simp only [Act.put, List.setIfInBounds_toArray, List.set_cons_zero, List.set_cons_succ]); (try refine eagerXOpen rfl ?_))
      | ((with_reducible refine eagerXLoadAt 1 ?_); refine wpEagerX_load (by rfl) 26 _ rfl w.heap.size 0 rfl #[.int .i64 kind, .int .i64 err, .int .u32 (se : Int), .int .u32 (sq : Int), .int .u32 (qu : Int), .int .u32 (us : Int), .int .u32 (ex : Int)] _ (fun w' hb => HX0.out w' (HS1.out w' hb)) Tryz.underlying26 rfl (infoR _ rfl) ?_; (try simp only [Act.put, List.setIfInBounds_toArray, List.set_cons_zero, List.set_cons_succ]); (try refine eagerXOpen rfl ?_))
      | ((with_reducible refine eagerXLoadAt 6 ?_); refine wpEagerX_load (by rfl) 26 _ rfl g5 0 rfl #[.int .i64 kind, .int .i64 err, .int .u32 (se : Int), .int .u32 (sq : Int), .int .u32 (qu : Int), .int .u32 (us : Int), .int .u32 (ex : Int)] _ (fun w' hb => HX1.out w' (HS1.out w' hb)) Tryz.underlying26 rfl (infoR _ rfl) ?_; (try simp only [Act.put, List.setIfInBounds_toArray, List.set_cons_zero, List.set_cons_succ]); (try refine eagerXOpen rfl ?_))
      | ((with_reducible refine eagerXLoadAt 8 ?_); refine wpEagerX_load (by rfl) 26 _ rfl g7 0 rfl #[.int .i64 kind, .int .i64 err, .int .u32 (se : Int), .int .u32 (sq : Int), .int .u32 (qu : Int), .int .u32 (us : Int), .int .u32 (ex : Int)] _ (fun w' hb => HX2.out w' (HS1.out w' hb)) Tryz.underlying26 rfl (infoR _ rfl) ?_; (try simp only [Act.put, List.setIfInBounds_toArray, List.set_cons_zero, List.set_cons_succ]); (try refine eagerXOpen rfl ?_))
      | (first | (apply wpEagerX_take; (· rfl); (· (intro w' hb'; go_simp; try with_reducible rfl)); (try simp only [Act.put, List.setIfInBounds_toArray, List.set_cons_zero, List.set_cons_succ]); (try refine eagerXOpen rfl ?_)) | (refine wpEagerX_skip (by rfl) ?_; (try simp only [Act.put, List.setIfInBounds_toArray, List.set_cons_zero, List.set_cons_succ]); (try refine eagerXOpen rfl ?_)) | (refine wpEager_off (by rfl) ?_; (try simp only [Act.put, List.setIfInBounds_toArray, List.set_cons_zero, List.set_cons_succ]); (try refine eagerXOpen rfl ?_))))
    have HB9 := Lib.hid (HB8.out.trans (HY1.out.mono HB8.out.size))
    (refine wpEagerX_op (by rfl) (fun K hK => ?_); go_simp; (refine (alive15_any y (HM.out.below HB9.out)).mono ?_; rintro e y2 ⟨rfl, hb⟩; have HY2 := Lib.hid (HB9.out.trans (hb.mono HB9.out.size)); have hsub : ∀ x, Below y2.heap.size y2 x → Below y.heap.size y x := fun x hx => hb.trans (hx.mono hb.size); have hy2 : Below y2.heap.size y2 y2 := Below.refl _ _); refine Shut.out hK _ _ _ hsub (by assumption) ?_; clear hK K hsub; (try simp only [Act.put, List.setIfInBounds_toArray, List.set_cons_zero, List.set_cons_succ]); (try refine eagerXOpen rfl ?_))
    repeat (first | (apply wpEagerX_take; (· rfl); (· (intro w' hb'; go_simp; try with_reducible rfl)); (try simp only [Act.put, List.setIfInBounds_toArray, List.set_cons_zero, List.set_cons_succ]); (try refine eagerXOpen rfl ?_)) | (refine wpEagerX_skip (by rfl) ?_; (try simp only [Act.put, List.setIfInBounds_toArray, List.set_cons_zero, List.set_cons_succ]); (try refine eagerXOpen rfl ?_)) | (refine wpEager_off (by rfl) ?_; (try simp only [Act.put, List.setIfInBounds_toArray, List.set_cons_zero, List.set_cons_succ]); (try refine eagerXOpen rfl ?_)))
    refine eagerXEnd ?_
    go_wp2_with fail
    go_ret
    exact ⟨rfl, HY2.out⟩
  · have HEN := Lib.hid (fun w => encode_no r w hr)
    have HQ : Hid (lineB r = []) := if_neg hr
    rw [decide_eq_false hr] at HRI HRR
    rw [HQ.out] at HL HRL
    clear hr hw
    go_enter Tryz.func3, Tryz.ntmps3
    go_wp2_with (refine wpList_load_row rfl 26 _ rfl w.heap.size rfl 26 (rpA r) (0, 0) _ HR1.out Tryz.underlying26 rfl (infoR _ rfl) ?_)
    refine (HEN.out _).mono ?_
    rintro e w2 ⟨rfl, hb⟩
    have HR2 := Lib.hid (Below.keepOld hb HR1.out)
    have HB2 := Lib.hid (HB1.out.trans (hb.mono HB1.out.size))
    clear hb HR1 HB1 HEN
    go_wp2_with (refine wpList_load_row rfl 26 _ rfl w.heap.size rfl 26 (rpA r) (0, 0) _ HR2.out Tryz.underlying26 rfl (infoR _ rfl) ?_)
    refine (HL.out _).mono ?_
    rintro e w3 ⟨rfl, hb⟩
    have HRX := Lib.hid (Below.keepOld hb HR2.out)
    have HB3 := Lib.hid (HB2.out.trans (hb.mono HB2.out.size))
    clear hb HR2 HB2 HL
    go_upto_region 3 with fail
    skip
    -- region 3 in world w3 (HRX: the box there)
    have HROW : Hid (∀ w', Below w3.heap.size w3 w' → w'.rangeAt w.heap.size 0 (rpA r).toList) := fun w' hb => range_below (rp_range HRX.out) hb
    refine wp_region_eager_in (Below w3.heap.size w3) [(0, true), (2, true), (1, false), (3, false), (4, true), (5, true), (6, true), (7, true), (8, true), (9, false), (10, true), (11, true), (12, true), (13, true), (14, true), (15, false), (16, true), (17, true)] (by kernel_rfl) (by kernel_rfl) ?_ (eagerOpen rfl ?_)
    · exact below_drew1 _ _
    have hy0 : Below w3.heap.size w3 w3.drew := below_drew1 _ _
    repeat (first
      | ((with_reducible refine eagerLoadAt 1 ?_); refine wpEager_load (by rfl) 26 _ rfl w.heap.size 0 rfl (rpA r) _ (fun w' hb => HROW.out w' hb) Tryz.underlying26 rfl (infoR _ rfl) ?_; (try simp only [Act.put, List.setIfInBounds_toArray, List.set_cons_zero, List.set_cons_succ]); (try refine eagerOpen rfl ?_))
      | (first | (apply wpEager_take; (· rfl); (· (intro w' hb'; go_simp; try with_reducible rfl)); (try simp only [Act.put, List.setIfInBounds_toArray, List.set_cons_zero, List.set_cons_succ]); (try refine eagerOpen rfl ?_)) | (refine wpEager_skip (by rfl) ?_; (try simp only [Act.put, List.setIfInBounds_toArray, List.set_cons_zero, List.set_cons_succ]); (try refine eagerOpen rfl ?_)) | (refine wpEager_off (by rfl) ?_; (try simp only [Act.put, List.setIfInBounds_toArray, List.set_cons_zero, List.set_cons_succ]); (try refine eagerOpen rfl ?_))))
    (refine wpEager_op (by rfl) (fun K hK => ?_); go_simp; (refine (HRI.out _).mono ?_; rintro e y ⟨rfl, hb⟩; have hy1 : Below w3.heap.size w3 y := hy0.trans (hb.mono hy0.size); clear hb); refine Shut.out hK _ _ (by assumption) ?_; clear hK K; (try simp only [Act.put, List.setIfInBounds_toArray, List.set_cons_zero, List.set_cons_succ]); (try refine eagerOpen rfl ?_))
    (refine wpEager_op (by rfl) (fun K hK => ?_); go_simp; (refine (HRR.out _).mono ?_; rintro e y2 ⟨rfl, hb⟩; have hy2 : Below w3.heap.size w3 y2 := hy1.trans (hb.mono hy1.size); clear hb); refine Shut.out hK _ _ (by assumption) ?_; clear hK K; (try simp only [Act.put, List.setIfInBounds_toArray, List.set_cons_zero, List.set_cons_succ]); (try refine eagerOpen rfl ?_))
    repeat (first
      | ((with_reducible refine eagerLoadAt 1 ?_); refine wpEager_load (by rfl) 26 _ rfl w.heap.size 0 rfl (rpA r) _ (fun w' hb => HROW.out w' hb) Tryz.underlying26 rfl (infoR _ rfl) ?_; (try simp only [Act.put, List.setIfInBounds_toArray, List.set_cons_zero, List.set_cons_succ]); (try refine eagerOpen rfl ?_))
      | (first | (apply wpEager_take; (· rfl); (· (intro w' hb'; go_simp; try with_reducible rfl)); (try simp only [Act.put, List.setIfInBounds_toArray, List.set_cons_zero, List.set_cons_succ]); (try refine eagerOpen rfl ?_)) | (refine wpEager_skip (by rfl) ?_; (try simp only [Act.put, List.setIfInBounds_toArray, List.set_cons_zero, List.set_cons_succ]); (try refine eagerOpen rfl ?_)) | (refine wpEager_off (by rfl) ?_; (try simp only [Act.put, List.setIfInBounds_toArray, List.set_cons_zero, List.set_cons_succ]); (try refine eagerOpen rfl ?_))))
    (refine wpEager_op (by rfl) (fun K hK => ?_); go_simp; (refine (HRR.out _).mono ?_; rintro e y3 ⟨rfl, hb⟩; have hy3 : Below w3.heap.size w3 y3 := hy2.trans (hb.mono hy2.size); clear hb); refine Shut.out hK _ _ (by assumption) ?_; clear hK K; (try simp only [Act.put, List.setIfInBounds_toArray, List.set_cons_zero, List.set_cons_succ]); (try refine eagerOpen rfl ?_))
    repeat (first
      | ((with_reducible refine eagerLoadAt 1 ?_); refine wpEager_load (by rfl) 26 _ rfl w.heap.size 0 rfl (rpA r) _ (fun w' hb => HROW.out w' hb) Tryz.underlying26 rfl (infoR _ rfl) ?_; (try simp only [Act.put, List.setIfInBounds_toArray, List.set_cons_zero, List.set_cons_succ]); (try refine eagerOpen rfl ?_))
      | (first | (apply wpEager_take; (· rfl); (· (intro w' hb'; go_simp; try with_reducible rfl)); (try simp only [Act.put, List.setIfInBounds_toArray, List.set_cons_zero, List.set_cons_succ]); (try refine eagerOpen rfl ?_)) | (refine wpEager_skip (by rfl) ?_; (try simp only [Act.put, List.setIfInBounds_toArray, List.set_cons_zero, List.set_cons_succ]); (try refine eagerOpen rfl ?_)) | (refine wpEager_off (by rfl) ?_; (try simp only [Act.put, List.setIfInBounds_toArray, List.set_cons_zero, List.set_cons_succ]); (try refine eagerOpen rfl ?_))))
    (refine wpEager_op (by rfl) (fun K hK => ?_); go_simp; (refine (HRL.out _).mono ?_; rintro e y4 ⟨rfl, hb⟩; have hy4 : Below w3.heap.size w3 y4 := hy3.trans (hb.mono hy3.size); clear hb); refine Shut.out hK _ _ (by assumption) ?_; clear hK K; (try simp only [Act.put, List.setIfInBounds_toArray, List.set_cons_zero, List.set_cons_succ]); (try refine eagerOpen rfl ?_))
    repeat (first | (apply wpEager_take; (· rfl); (· (intro w' hb'; go_simp; try with_reducible rfl)); (try simp only [Act.put, List.setIfInBounds_toArray, List.set_cons_zero, List.set_cons_succ]); (try refine eagerOpen rfl ?_)) | (refine wpEager_skip (by rfl) ?_; (try simp only [Act.put, List.setIfInBounds_toArray, List.set_cons_zero, List.set_cons_succ]); (try refine eagerOpen rfl ?_)) | (refine wpEager_off (by rfl) ?_; (try simp only [Act.put, List.setIfInBounds_toArray, List.set_cons_zero, List.set_cons_succ]); (try refine eagerOpen rfl ?_)))
    refine eagerEnd ?_
    have HB4 := Lib.hid (HB3.out.trans (hy4.mono HB3.out.size))
    clear hy0 hy1 hy2 hy3 hy4 HRX HB3 HROW HRI HRR HRL
    go_wp2_with fail
    refine (alive15_any y4 (HM.out.below HB4.out)).mono ?_
    rintro e w6 ⟨rfl, hb⟩
    go_wp2_with fail
    go_ret
    exact ⟨rfl, HB4.out.trans (hb.mono HB4.out.size)⟩
end Go.Proofs.YtmphajilnkgcaaaGreatDoor.Rpl

namespace Go.Mir
open Go.ChangeShapes Go.WideShapes Go.ChangeAt Go.RowKit

theorem u8_of_list (zs : List Int) (h : ∀ n ∈ zs, (Lit.int .u8 n).wf = true) : ∃ l : List UInt8, zs = l.map (fun b => (b.toNat : Int)) := by
  induction zs with
  | nil => exact ⟨[], rfl⟩
  | cons z zs ih =>
    obtain ⟨l, rfl⟩ := ih (fun n hn => h n (by simp [hn]))
    have hz := h z (by simp)
    have hb : 0 ≤ z ∧ z ≤ 255 := by simpa [Lit.wf, IntKind.min, IntKind.max, IntKind.signed, IntKind.bits] using hz
    refine ⟨UInt8.ofNat z.toNat :: l, ?_⟩
    have : (UInt8.ofNat z.toNat).toNat = z.toNat := by
      rw [UInt8.toNat_ofNat']; exact Nat.mod_eq_of_lt (by omega)
    simp [this]; omega

/-- a []byte that came in -/
theorem open_bs {P : Program} {W : World} {H : Type} {enc : TypeId × Value → H} {t e base : Nat} {v : Value} {d : DataW H} {ps : List MemPlace} (ht : P.underlying t = some (.slice e)) (he : P.underlying e = some (.int .u8)) (hc : P.cellsOf e = 1)
    (hval : Value.okWide P W .any base t v) (h : DataW.Trod enc P W 0 (fun _ => true) true t v d ps) : ∃ p n c l, v = .slice p n c ∧ Bs W p n c l := by
  obtain ⟨a, n, c, rfl⟩ := okWide_slice ht hval
  obtain ⟨fuel, hf⟩ := h
  rcases open_ints ht he hc hf with ⟨hcs, _⟩ | ⟨x, l, c', zs, hcs, _, hl, hm, hz, _, hcell, hwz⟩
  · simp [Value.cells] at hcs
    obtain ⟨rfl, rfl, rfl⟩ := hcs
    exact ⟨_, _, _, [], rfl, Sl.nil _ _⟩
  · simp [Value.cells] at hcs
    obtain ⟨rfl, rfl, rfl⟩ := hcs
    obtain ⟨bs, rfl⟩ := u8_of_list zs hwz
    have hbl : bs.length = c := by simpa using hz
    refine ⟨_, _, _, bs.take n, rfl, ⟨?_, hl, by simpa [maxLen] using hm, fun h => (by cases h), fun a ha j u hu => ?_⟩⟩
    · rw [bytesV_length, List.length_take]; omega
    · obtain rfl := Option.some.inj ha
      have hj : j < n := by
        have := (List.getElem?_eq_some_iff.1 hu).1
        rw [bytesV_length, List.length_take] at this; omega
      have hc0 := hcell j (by simp; omega)
      rw [hc0, ← hu]
      simp [bytesV, hj, show j < bs.length by omega]

/-- a uint32 that came in, as a word -/
theorem u32_word {a : Int} (h : (Lit.int .u32 a).wf = true) : ∃ x : BitVec 32, a = (x.toNat : Int) := by
  have hb : 0 ≤ a ∧ a ≤ 4294967295 := by simpa [Lit.wf, IntKind.min, IntKind.max, IntKind.signed, IntKind.bits] using h
  refine ⟨BitVec.ofNat 32 a.toNat, ?_⟩
  rw [BitVec.toNat_ofNat, Nat.mod_eq_of_lt (by omega)]; omega
theorem u16_nat {a : Int} (h : (Lit.int .u16 a).wf = true) : ∃ x : Nat, a = (x : Int) ∧ x < 65536 := by
  have hb : 0 ≤ a ∧ a ≤ 65535 := by simpa [Lit.wf, IntKind.min, IntKind.max, IntKind.signed, IntKind.bits] using h
  exact ⟨a.toNat, by omega, by omega⟩
theorem u64_nat {a : Int} (h : (Lit.int .u64 a).wf = true) : ∃ x : Nat, a = (x : Int) ∧ x < 18446744073709551616 := by
  have hb : 0 ≤ a ∧ a ≤ 18446744073709551615 := by simpa [Lit.wf, IntKind.min, IntKind.max, IntKind.signed, IntKind.bits] using h
  exact ⟨a.toNat, by omega, by omega⟩
theorem i64_bd {a : Int} (h : (Lit.int .i64 a).wf = true) : -9223372036854775808 ≤ a ∧ a ≤ 9223372036854775807 := by
  simpa [Lit.wf, IntKind.min, IntKind.max, IntKind.signed, IntKind.bits] using h

/-- an array of numbers that came in, by its cells -/
theorem trod_nums {P : Program} {W : World} {H : Type} {enc : TypeId × Value → H} {base : Nat} {spare : Nat → Bool} {held : Bool} {fuel t n e : Nat} {k : IntKind} {cs : List Value} {x : DataW H × List MemPlace}
    (ht : P.underlying t = some (.array n e)) (he : P.underlying e = some (.int k)) (hc : P.cellsOf e = 1) (hct : P.cellsOf t = n) (h : DataW.trod enc P W base spare held fuel t cs = some x) :
    ∃ zs : List Int, cs = zs.map (Value.int k) ∧ zs.length = n ∧ ∀ z ∈ zs, (Lit.int k z).wf = true := by
  obtain ⟨xs, m, rfl, _, hl, hxl, hx⟩ := DataW.trod_array ht h
  rw [hct] at hl
  have key : ∀ i, i < n → ∃ z, cs[i]? = some (.int k z) ∧ (Lit.int k z).wf = true := by
    intro i hi
    have h1 := hx i hi
    rw [hc, Nat.mul_one] at h1
    have h2 : xs[i]? = some xs[i] := List.getElem?_eq_getElem (by omega)
    rw [h2] at h1
    obtain ⟨z, hz, _, hw⟩ := DataW.trod_int he h1
    refine ⟨z, ?_, hw⟩
    have h3 := congrArg (·[0]?) hz
    simpa using h3
  refine ⟨cs.map intOf, ?_, by simp [hl], ?_⟩
  · apply List.ext_getElem?
    intro i
    by_cases hi : i < n
    · obtain ⟨z, hz, _⟩ := key i hi
      simp [hz, intOf]
    · rw [List.getElem?_eq_none (by omega), List.getElem?_eq_none (by simp; omega)]
  · intro z hz
    rw [List.mem_map] at hz
    obtain ⟨v, hv, rfl⟩ := hz
    obtain ⟨i, hi, rfl⟩ := List.mem_iff_getElem.1 hv
    obtain ⟨z, hz, hw⟩ := key i (by omega)
    rw [List.getElem?_eq_getElem hi] at hz
    rw [Option.some.inj hz]; exact hw
theorem okWide_arr {P : Program} {W : World} {r : Reach} {base t n e : Nat} {v : Value} (ht : P.underlying t = some (.array n e)) (h : Value.okWide P W r base t v) : ∃ cs, v = .agg cs := by
  unfold Value.okWide at h
  rw [ht] at h
  obtain ⟨cs, hv, _⟩ := h
  exact ⟨cs, hv⟩
/-- an array of numbers that came in by value -/
theorem open_nums {P : Program} {W : World} {H : Type} {enc : TypeId × Value → H} {base t n e : Nat} {k : IntKind} {v : Value} {d : DataW H} {ps : List MemPlace}
    (ht : P.underlying t = some (.array n e)) (he : P.underlying e = some (.int k)) (hc : P.cellsOf e = 1) (hct : P.cellsOf t = n)
    (hval : Value.okWide P W .any base t v) (h : DataW.Trod enc P W 0 (fun _ => true) true t v d ps) : ∃ zs : List Int, v = .agg (zs.map (Value.int k)).toArray ∧ zs.length = n ∧ ∀ z ∈ zs, (Lit.int k z).wf = true := by
  obtain ⟨cs, rfl⟩ := okWide_arr ht hval
  obtain ⟨fuel, hf⟩ := h
  obtain ⟨zs, h1, h2, h3⟩ := trod_nums ht he hc hct hf
  refine ⟨zs, ?_, h2, h3⟩
  congr 1
  rw [← h1]; simp [Value.cells]

/-- how many elements a slice's datum has -/
def dlen {H : Type} : DataW H → Nat
  | .slice elems _ => elems.length
  | _ => 0

/-- a []byte by its cell -/
theorem trod_bs {P : Program} {W : World} {H : Type} {enc : TypeId × Value → H} {base fuel t e : Nat} {held : Bool} {cs : List Value} {x : DataW H × List MemPlace}
    (ht : P.underlying t = some (.slice e)) (he : P.underlying e = some (.int .u8)) (hc : P.cellsOf e = 1) (h : DataW.trod enc P W base (fun _ => true) held fuel t cs = some x) :
    ∃ p n c l, cs = [.slice p n c] ∧ Bs W p n c l ∧ dlen x.1 = n := by
  rcases Deep.open_slice1 ht hc h with ⟨rfl, rfl⟩ | ⟨a, len, cap, m, k, V, D, Pl, rfl, hb, hl, hm, hmm, rfl, hx⟩
  · exact ⟨_, _, _, [], rfl, Sl.nil _ _, rfl⟩
  · simp only [if_true] at hmm
    subst hmm
    have key : ∀ i, i < m → ∃ b : UInt8, V i = .int .u8 (b.toNat : Int) := by
      intro i hi
      obtain ⟨z, hz, _, hw⟩ := DataW.trod_int he (hx i hi).2
      obtain ⟨l, hl⟩ := u8_of_list [z] (by simpa using hw)
      match l, hl with
      | [b], hl => exact ⟨b, by simp at hz hl; rw [hz, hl]⟩
    refine ⟨_, _, _, (List.range len).map (fun i => UInt8.ofNat (intOf (V i)).toNat), rfl, ⟨?_, hl, by simpa [maxLen] using hm, fun h => (by cases h), fun a' ha j u hu => ?_⟩, by simp [dlen]⟩
    · simp [bytesV]
    · obtain rfl := Option.some.inj ha
      have hj : j < len := by
        have := (List.getElem?_eq_some_iff.1 hu).1
        simpa [bytesV] using this
      rw [(hx j (by omega)).1, ← hu]
      obtain ⟨b, hb⟩ := key j (by omega)
      rw [hb]
      simp [bytesV, hj, hb, intOf]

/-- a [][]byte that came in -/
theorem open_pts {P : Program} {W : World} {H : Type} {enc : TypeId × Value → H} {t e q base : Nat} {v : Value} {d : DataW H} {ps : List MemPlace} (ht : P.underlying t = some (.slice e)) (he : P.underlying e = some (.slice q)) (hq : P.underlying q = some (.int .u8)) (hc : P.cellsOf e = 1) (hcq : P.cellsOf q = 1)
    (hval : Value.okWide P W .any base t v) (h : DataW.Trod enc P W 0 (fun _ => true) true t v d ps) :
    ∃ p n c ls, v = .slice p n c ∧ Pts W p n c ls ∧ ((d = .nil ∧ ls = []) ∨ ∃ elems spare, d = .slice elems spare ∧ elems.map dlen = ls.map List.length) := by
  obtain ⟨a, n, c, rfl⟩ := okWide_slice ht hval
  obtain ⟨fuel, hf⟩ := h
  rcases Deep.open_slice1 ht hc hf with ⟨hcs, hx⟩ | ⟨a', len, cap, m, k, V, D, Pl, hcs, hb, hl, hm, hmm, hx, hv⟩
  · simp [Value.cells] at hcs
    obtain ⟨rfl, rfl, rfl⟩ := hcs
    exact ⟨_, _, _, [], rfl, Pts.made0 _, .inl ⟨(Prod.ext_iff.1 hx).1, rfl⟩⟩
  · simp [Value.cells] at hcs
    obtain ⟨rfl, rfl, rfl⟩ := hcs
    simp only [if_true] at hmm
    subst hmm
    have key : ∀ i, i < m → ∃ l : List UInt8, ∃ q m' k', V i = .slice q m' k' ∧ Bs W q m' k' l ∧ dlen (D i) = l.length := by
      intro i hi
      obtain ⟨q', n', c', l, h1, h2, h3⟩ := trod_bs he hq hcq (hv i hi).2
      exact ⟨l, q', n', c', by simpa using h1, h2, by rw [h3, h2.length]⟩
    obtain ⟨ls, hls, hlk⟩ : ∃ ls : List (List UInt8), ls.length = n ∧ ∀ i (h : i < ls.length), ∃ q m' k', V i = .slice q m' k' ∧ Bs W q m' k' ls[i] ∧ dlen (D i) = ls[i].length := by
      have : ∀ j, j ≤ n → ∃ ls : List (List UInt8), ls.length = j ∧ ∀ i (h : i < ls.length), ∃ q m' k', V i = .slice q m' k' ∧ Bs W q m' k' ls[i] ∧ dlen (D i) = ls[i].length := by
        intro j
        induction j with
        | zero => intro _; exact ⟨[], rfl, fun i h => by simp at h⟩
        | succ j ih =>
          intro hj
          obtain ⟨ls, h1, h2⟩ := ih (by omega)
          obtain ⟨l, hl⟩ := key j (by omega)
          refine ⟨ls ++ [l], by simp [h1], fun i hi => ?_⟩
          by_cases hij : i < j
          · rw [List.getElem_append_left (by omega)]; exact h2 i (by omega)
          · have : i = j := by simp [h1] at hi; omega
            subst this
            rw [List.getElem_append_right (by omega)]
            simpa [h1] using hl
      exact this n (Nat.le_refl _)
    refine ⟨_, _, _, ls, rfl, ⟨hls, hl, by simpa [maxLen] using hm, fun h => (by cases h), fun a ha j hj => ?_⟩, .inr ⟨_, _, (Prod.ext_iff.1 hx).1, ?_⟩⟩
    · obtain rfl := Option.some.inj ha
      obtain ⟨q', m', k', h1, h2, h3⟩ := hlk j hj
      exact ⟨q', m', k', by rw [(hv j (by omega)).1, h1], h2⟩
    · apply List.ext_getElem
      · simp [hls]
      · intro i h1 h2
        obtain ⟨q', m', k', h3, h4, h5⟩ := hlk i (by simpa using h2)
        simpa using h5

theorem addr_add_add (a : Addr) (i j : Nat) : (a.add i).add j = a.add (i + j) := by
  unfold Addr.add
  by_cases hj : j = 0
  · simp [hj]
  · by_cases hi : i = 0
    · simp [hi, hj]
    · simp [hi, hj, Nat.add_assoc]
theorem flatMap_length {α β : Type} (f : α → List β) (m : Nat) (l : List α) (h : ∀ x ∈ l, (f x).length = m) : (l.flatMap f).length = l.length * m := by
  induction l with
  | nil => simp
  | cons x l ih =>
    rw [List.flatMap_cons, List.length_append, h x (by simp), ih (fun y hy => h y (by simp [hy])), List.length_cons, Nat.add_mul]; omega
theorem build_list {α : Type} (n : Nat) (R : Nat → α → Prop) (h : ∀ i, i < n → ∃ x, R i x) : ∃ l : List α, l.length = n ∧ ∀ i (hi : i < l.length), R i l[i] := by
  induction n with
  | zero => exact ⟨[], rfl, fun i hi => by simp at hi⟩
  | succ n ih =>
    obtain ⟨l, h1, h2⟩ := ih (fun i hi => h i (by omega))
    obtain ⟨x, hx⟩ := h n (by omega)
    refine ⟨l ++ [x], by simp [h1], fun i hi => ?_⟩
    by_cases hin : i < n
    · rw [List.getElem_append_left (by omega)]; exact h2 i (by omega)
    · have : i = n := by simp [h1] at hi; omega
      subst this
      rw [List.getElem_append_right (by omega)]
      simpa [h1] using hx

/-- a slice of arrays of bytes, by its cell -/
theorem trod_is {P : Program} {W : World} {H : Type} {enc : TypeId × Value → H} {base fuel t e u n : Nat} {held : Bool} {cs : List Value} {x : DataW H × List MemPlace}
    (ht : P.underlying t = some (.slice e)) (he : P.underlying e = some (.array n u)) (hu : P.underlying u = some (.int .u8)) (hcu : P.cellsOf u = 1) (hce : P.cellsOf e = n) (hn : 0 < n) (h : DataW.trod enc P W base (fun _ => true) held fuel t cs = some x) :
    ∃ p len c ids, cs = [.slice p len c] ∧ Is W p len c n ids ∧ dlen x.1 = len := by
  rcases Deep.open_slice ht h with ⟨rfl, rfl⟩ | ⟨a, len, cap, m, k, D, Pl, rfl, hb, hl, hm, hmm, rfl, hx⟩
  · exact ⟨_, _, _, [], rfl, ⟨Sl.nil _ _, fun _ h => by simp at h, rfl⟩, rfl⟩
  · simp only [if_true] at hmm
    subst hmm
    rw [hce] at hx
    obtain ⟨ids, hil, hids⟩ := build_list (α := List UInt8) len (fun i b => b.length = n ∧ ∀ j (hj : j < b.length), W.cell? (a.add (i * n + j)) = some (.int .u8 (b[j].toNat : Int))) (fun i hi => by
      obtain ⟨cs', h1, h2⟩ := hx i (by omega)
      obtain ⟨zs, rfl, hz, hw⟩ := trod_nums he hu hcu hce h2
      obtain ⟨b, rfl⟩ := u8_of_list zs hw
      obtain ⟨_, _, h3⟩ := World.cells?_some h1
      have hbl : b.length = n := by simpa using hz
      refine ⟨b, hbl, fun j hj => ?_⟩
      rw [← addr_add_add, h3 j (by omega)]
      simp [hj])
    have heach : ∀ y ∈ ids, y.length = n := by
      intro y hy
      obtain ⟨i, hi, rfl⟩ := List.mem_iff_getElem.1 hy
      exact (hids i hi).1
    have hfl : ∀ y ∈ ids, (bytesV y).length = n := fun y hy => by rw [bytesV_length, heach y hy]
    refine ⟨_, _, _, ids, rfl, ⟨⟨by rw [flatMap_length bytesV n ids hfl, hil], hl, by simpa [maxLen] using hm, fun h => (by cases h), fun a' ha j v hv => ?_⟩, heach, hil⟩, by simp [dlen]⟩
    obtain rfl := Option.some.inj ha
    have hj : j < ids.length * n := by
      have := (List.getElem?_eq_some_iff.1 hv).1
      rwa [flatMap_length bytesV n ids hfl] at this
    have hdm : j / n * n + j % n = j := by rw [Nat.mul_comm]; exact Nat.div_add_mod j n
    have hq : j / n < ids.length := (Nat.div_lt_iff_lt_mul hn).2 hj
    have hr : j % n < n := Nat.mod_lt _ hn
    have h4 := getElem?_flatMap bytesV n ids hfl (j / n) (j % n) hq hr
    rw [hdm, hv] at h4
    have h5 := (hids (j / n) hq).2 (j % n) (by rw [(hids _ hq).1]; exact hr)
    rw [hdm] at h5
    rw [h5, h4, bytesV_get _ _ (by rw [(hids _ hq).1]; exact hr)]

end Go.Mir

namespace Go.Proofs.YtmphajilnkgcaaaGreatDoor.Rpl
open Go.ChangeShapes Go.WideShapes Go.ChangeAt Go.RowKit Go.Mir

theorem split7 (cs : List Value) (h : cs.length = 7) : cs = (cs.drop 0).take 1 ++ ((cs.drop 1).take 1 ++ ((cs.drop 2).take 1 ++ ((cs.drop 3).take 1 ++ ((cs.drop 4).take 1 ++ ((cs.drop 5).take 1 ++ (cs.drop 6).take 1))))) := by
  match cs, h with
  | [a, b, c, d, e, f, g], _ => rfl
theorem u32_nat' {a : Int} (h : (Lit.int .u32 a).wf = true) : ∃ x : Nat, a = (x : Int) ∧ x < 4294967296 := by
  simp [Lit.wf, IntKind.min, IntKind.max, IntKind.signed, IntKind.bits] at h
  exact ⟨a.toNat, by omega, by omega⟩
set_option maxRecDepth 100000 in
theorem trod_rp {W : World} {H : Type} {enc : TypeId × Value → H} {base fuel : Nat} {held : Bool} {cs : List Value} {x : DataW H × List MemPlace}
    (h : DataW.trod enc Tryz.prog W base (fun _ => true) held fuel 26 cs = some x) : ∃ r : RP, cs = (rpA r).toList ∧ r.wf := by
  obtain ⟨xs, m, rfl, rfl, hl, hxl, hx⟩ := DataW.trod_struct Tryz.underlying26 h
  have hl' : cs.length = 7 := by rw [hl]; kernel_rfl
  have hxl' : xs.length = 7 := by rw [hxl]; rfl
  match xs, hxl' with
  | [x0, x1, x2, x3, x4, x5, x6], _ =>
    obtain ⟨z0, e0, _, _⟩ := DataW.trod_int Tryz.underlying22 (hx 0 _ rfl)
    obtain ⟨z1, e1, _, _⟩ := DataW.trod_int Tryz.underlying23 (hx 1 _ rfl)
    obtain ⟨z2, e2, _, w2⟩ := DataW.trod_int Tryz.underlying24 (hx 2 _ rfl)
    obtain ⟨z3, e3, _, w3⟩ := DataW.trod_int Tryz.underlying24 (hx 3 _ rfl)
    obtain ⟨z4, e4, _, w4⟩ := DataW.trod_int Tryz.underlying24 (hx 4 _ rfl)
    obtain ⟨z5, e5, _, w5⟩ := DataW.trod_int Tryz.underlying24 (hx 5 _ rfl)
    obtain ⟨z6, e6, _, w6⟩ := DataW.trod_int Tryz.underlying24 (hx 6 _ rfl)
    obtain ⟨n2, rfl, h2⟩ := u32_nat' w2
    obtain ⟨n3, rfl, h3⟩ := u32_nat' w3
    obtain ⟨n4, rfl, h4⟩ := u32_nat' w4
    obtain ⟨n5, rfl, h5⟩ := u32_nat' w5
    obtain ⟨n6, rfl, h6⟩ := u32_nat' w6
    refine ⟨⟨z0, z1, n2, n3, n4, n5, n6⟩, ?_, ?_⟩
    · have hs := split7 cs hl'
      have e0' : (cs.drop 0).take 1 = [.int .i64 z0] := e0
      have e1' : (cs.drop 1).take 1 = [.int .i64 z1] := e1
      have e2' : (cs.drop 2).take 1 = [.int .u32 (n2 : Int)] := e2
      have e3' : (cs.drop 3).take 1 = [.int .u32 (n3 : Int)] := e3
      have e4' : (cs.drop 4).take 1 = [.int .u32 (n4 : Int)] := e4
      have e5' : (cs.drop 5).take 1 = [.int .u32 (n5 : Int)] := e5
      have e6' : (cs.drop 6).take 1 = [.int .u32 (n6 : Int)] := e6
      rw [e0', e1', e2', e3', e4', e5', e6'] at hs
      exact hs
    · intro n hn
      simp only [RP.nums, List.mem_cons, List.not_mem_nil, or_false] at hn
      rcases hn with rfl | rfl | rfl | rfl | rfl <;> assumption
set_option maxRecDepth 100000 in
theorem open_rp {W : World} {H : Type} {enc : TypeId × Value → H} {base : Nat} {v : Value} {d : DataW H} {ps : List MemPlace} (hval : Value.okWide Tryz.prog W .any base 26 v) (h : DataW.Trod enc Tryz.prog W 0 (fun _ => true) true 26 v d ps) : ∃ r : RP, v = .agg (rpA r) ∧ r.wf := by
  obtain ⟨cs, rfl, hcs⟩ := okWide_struct Tryz.underlying26 hval
  obtain ⟨fuel, hf⟩ := h
  have hf' : DataW.trod enc Tryz.prog W 0 (fun _ => true) true fuel 26 cs.toList = some (d, ps) := hf
  obtain ⟨r, hr, hw⟩ := trod_rp hf'
  refine ⟨r, ?_, hw⟩
  have : cs = rpA r := by rw [← Array.toArray_toList (xs := cs), hr]
  rw [this]
end Go.Proofs.YtmphajilnkgcaaaGreatDoor.Rpl
