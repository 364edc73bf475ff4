/- A CHAIN AND AN OLD WINDOW, while the chain's calls are made. Conditions: none. -/
import Derived.Test.YtepemfgiigceoaaChBack
namespace Go.Proofs.Ytepemfgiigceoaa.Chn
open Go.RowKit Go.Mir Go.Mir.Parts Go.Proofs.Ytepemfgiigceoaa.Blk

/-- a chain, and blocks that an earlier call told -/
def Rel (W : World) (B cb d : Nat) (po : Option Addr) (co Bo : Nat) (ds0 : List BlkD) (rowso : List (List Value)) (wr : World) (h : Nat) (ds : List BlkD) : Prop :=
  ∃ p c rows, ChAt wr B cb d h ds p c rows ∧ ds.length ≤ h ∧ Own wr Bo po ds0.length co ds0 rowso ∧ (∀ k, (Value.slice po ds0.length co).ownBlock = some k → ¬ ChOwn cb p ds.length c k) ∧ B ≤ wr.heap.size ∧ W.heap.size ≤ B ∧ Below W.heap.size W wr
section
variable {W : World} {B cb d : Nat} {po : Option Addr} {co Bo : Nat} {ds0 : List BlkD} {rowso : List (List Value)} {wr : World} {h : Nat} {ds : List BlkD}
theorem Rel.belowW (hR : Rel W B cb d po co Bo ds0 rowso wr h ds) : Below W.heap.size W wr := hR.choose_spec.choose_spec.choose_spec.2.2.2.2.2.2
theorem Rel.blks (hR : Rel W B cb d po co Bo ds0 rowso wr h ds) : Bks wr po ds0.length co ds0 rowso := by
  obtain ⟨p, c, rows, h1, h2, h3, h4, h5, h6, h7⟩ := hR
  exact h3.bks
theorem Rel.few (hR : Rel W B cb d po co Bo ds0 rowso wr h ds) : ∀ x ∈ ds, x.txs.length ≤ 1099511627776 := by
  obtain ⟨p, c, rows, h1, h2, h3, h4, h5, h6, h7⟩ := hR
  exact h1.few
theorem Rel.len (hR : Rel W B cb d po co Bo ds0 rowso wr h ds) : ds.length ≤ d + 1 ∧ ds.length ≤ h ∧ h ≤ 4294967295 ∧ 1 ≤ d ∧ d ≤ 16 := by
  obtain ⟨p, c, rows, h1, h2, h3, h4, h5, h6, h7⟩ := hR
  exact ⟨h1.many.1, h2, h1.many.2, h1.depth1.1, h1.depth1.2⟩
theorem Rel.below {w' : World} (hR : Rel W B cb d po co Bo ds0 rowso wr h ds) (hb : Below wr.heap.size wr w') : Rel W B cb d po co Bo ds0 rowso w' h ds := by
  obtain ⟨p, c, rows, h1, h2, h3, h4, h5, h6, h7⟩ := hR
  exact ⟨p, c, rows, h1.below hb, h2, h3.below hb, h4, Nat.le_trans h5 hb.size, h6, h7.trans (hb.mono h7.size)⟩
theorem Rel.turn {w' : World} {p p' : Option Addr} {c c' h' : Nat} {ds' : List BlkD} {rows rows' : List (List Value)} (h1 : ChAt wr B cb d h ds p c rows) (h2' : ds'.length ≤ h') (h3 : Own wr Bo po ds0.length co ds0 rowso) (h4 : ∀ k, (Value.slice po ds0.length co).ownBlock = some k → ¬ ChOwn cb p ds.length c k) (h5 : B ≤ wr.heap.size) (h6 : W.heap.size ≤ B) (h7 : Below W.heap.size W wr)
    (hc : ChAt w' B cb d h' ds' p' c' rows') (ht : Turns (ChOwn cb p ds.length c) wr w') (hn : ∀ k, (Value.slice p' ds'.length c').ownBlock = some k → (Value.slice p ds.length c).ownBlock = some k ∨ wr.heap.size ≤ k) : Rel W B cb d po co Bo ds0 rowso w' h' ds' := by
  refine ⟨p', c', rows', hc, h2', h3.touch ht h1.mid.noId h4, fun k hk hs => ?_, Nat.le_trans h5 ht.size, h6, h7.trans (ht.below h7.size (fun i hi => Nat.le_trans h6 (h1.ownLow i hi)))⟩
  rcases hs with hs | hs
  · exact h4 k hk (.inl hs)
  · rcases hn k hs with hn | hn
    · exact h4 k hk (.inr hn)
    · have := (h3.own.lt k hk).2
      omega
/-- Connect -/
def ConnR (W wr : World) (B cb d : Nat) (po : Option Addr) (co Bo : Nat) (ds0 : List BlkD) (rowso : List (List Value)) (h : Nat) (ds : List BlkD) (b : BlkD) (e : Ending) (w' : World) : Prop :=
  e = .returned (.int .i64 (mayE ds h b)) ∧ (mayE ds h b = 0 → Rel W B cb d po co Bo ds0 rowso w' (h + 1) (cutD d (ds ++ [b]))) ∧ (¬ mayE ds h b = 0 → Rel W B cb d po co Bo ds0 rowso w' h ds ∧ Below wr.heap.size wr w')
theorem conn_rel (hR : Rel W B cb d po co Bo ds0 rowso wr h ds) (M : Array Value) (b : BlkD) (q : Option Addr) (n cc : Nat) (hM : BlkAt wr M b q n cc) (hn : n ≤ 1099511627776) :
    Calls Try.prog 13 #[.pointer (some ⟨cb, 0, none⟩), .agg M] wr (ConnR W wr B cb d po co Bo ds0 rowso h ds b) := by
  have hR0 := hR
  obtain ⟨p, c, rows, h1, h2, h3, h4, h5, h6, h7⟩ := hR
  by_cases hm : mayE ds h b = 0
  · refine (connect_ok wr h1 h5 M b q n cc hM hn hm).mono ?_
    rintro e w' ⟨rfl, p', c', rows', hc, _, ht, hnn⟩
    exact ⟨by rw [hm], fun _ => Rel.turn h1 (cutD_len h2) h3 h4 h5 h6 h7 hc ht hnn, fun hx => absurd hm hx⟩
  · refine (connect_not wr h1 M b q n cc hM hm).mono ?_
    rintro e w' ⟨rfl, hb⟩
    exact ⟨rfl, fun hx => absurd hx hm, fun _ => ⟨hR0.below hb, hb⟩⟩
/-- Disconnect -/
def DiscR (W wr : World) (B cb d : Nat) (po : Option Addr) (co Bo : Nat) (ds0 : List BlkD) (rowso : List (List Value)) (h : Nat) (ds : List BlkD) (x : List UInt8) (e : Ending) (w' : World) : Prop :=
  e = .returned (.int .i64 (discE ds x)) ∧ (discE ds x = 0 → Rel W B cb d po co Bo ds0 rowso w' (h - 1) ds.dropLast) ∧ (¬ discE ds x = 0 → Rel W B cb d po co Bo ds0 rowso w' h ds ∧ Below wr.heap.size wr w')
theorem disc_two {ds : List BlkD} {x : List UInt8} (h : discE ds x = 0) : 2 ≤ ds.length := by
  unfold discE at h
  cases hl : ds.getLast? with
  | none => rw [hl] at h; simp at h
  | some t =>
    rw [hl] at h
    dsimp only at h
    split at h
    · split at h
      · exact absurd h (by decide)
      · omega
    · exact absurd h (by decide)
theorem disc_rel (hR : Rel W B cb d po co Bo ds0 rowso wr h ds) (x : List UInt8) (hx : x.length = 32) :
    Calls Try.prog 14 #[.pointer (some ⟨cb, 0, none⟩), .agg (idA x)] wr (DiscR W wr B cb d po co Bo ds0 rowso h ds x) := by
  have hR0 := hR
  obtain ⟨p, c, rows, h1, h2, h3, h4, h5, h6, h7⟩ := hR
  refine (disc_any wr h1 h2 x hx).mono ?_
  rintro e w' ⟨rfl, hno, hok⟩
  refine ⟨rfl, fun hz => ?_, fun hz => ⟨hR0.below (hno hz), hno hz⟩⟩
  obtain ⟨c', rows', hc, ht⟩ := hok hz
  refine Rel.turn h1 (by have := disc_two hz; rw [List.length_dropLast]; omega) h3 h4 h5 h6 h7 hc ht (fun k hk => .inl ?_)
  cases p with
  | none => simp [Value.ownBlock] at hk
  | some a => exact hk
theorem tip_rel (hR : Rel W B cb d po co Bo ds0 rowso wr h ds) : Calls Try.prog 16 #[.pointer (some ⟨cb, 0, none⟩)] wr (TipQ ds wr) := by
  obtain ⟨p, c, rows, h1, h2, h3, h4, h5, h6, h7⟩ := hR
  exact tip_q wr h1
theorem win_rel (hR : Rel W B cb d po co Bo ds0 rowso wr h ds) : Calls Try.prog 12 #[.pointer (some ⟨cb, 0, none⟩)] wr (WinP ds wr) := by
  obtain ⟨p, c, rows, h1, h2, h3, h4, h5, h6, h7⟩ := hR
  exact window_any wr h1
theorem height_rel (hR : Rel W B cb d po co Bo ds0 rowso wr h ds) : Calls Try.prog 15 #[.pointer (some ⟨cb, 0, none⟩)] wr fun e w' => e = .returned (.int .u32 (h : Int)) ∧ wr = w' := by
  obtain ⟨p, c, rows, h1, h2, h3, h4, h5, h6, h7⟩ := hR
  exact (height_any wr h1).mono fun e w' ⟨he, hw⟩ => ⟨he, hw.symm⟩
/-- the window kept from here on -/
theorem Rel.keep {w' : World} {p2 : Option Addr} {c2 : Nat} {rows2 : List (List Value)} (hR : Rel W B cb d po co Bo ds0 rowso wr h ds) (ho : Own w' wr.heap.size p2 ds.length c2 ds rows2) (hb : Below wr.heap.size wr w') : Rel W B cb d p2 c2 wr.heap.size ds rows2 w' h ds := by
  obtain ⟨p, c, rows, h1, h2, h3, h4, h5, h6, h7⟩ := hR
  refine ⟨p, c, rows, h1.below hb, h2, ho, fun k hk hs => ?_, Nat.le_trans h5 hb.size, h6, h7.trans (hb.mono h7.size)⟩
  have hk2 := (ho.own.lt k hk).1
  rcases hs with hs | hs
  · have := (Array.getElem?_eq_some_iff.1 h1.row).1; omega
  · have := (keeps_lt h1.keeps k hs).2; omega
end
theorem Bks.dropped {w : World} {b o n c : Nat} {ds : List BlkD} {rows : List (List Value)} (h : Bks w (some ⟨b, o, none⟩) n c ds rows) (k : Nat) (hk : k ≤ n) : Bks w (some ⟨b, o + k * 65, none⟩) (n - k) (c - k) (ds.drop k) (rows.drop k) := by
  have hs := sl_dropped h.rs.sl hk
  have hf : ∀ (k : Nat) (rs : List (List Value)), (∀ r ∈ rs, r.length = 65) → rs.flatten.drop (k * 65) = (rs.drop k).flatten := by
    intro k
    induction k with
    | zero => intro rs _; simp
    | succ k ih =>
      intro rs hr
      cases rs with
      | nil => simp
      | cons r rs =>
        rw [List.drop_succ_cons, ← ih rs (fun x hx => hr x (by simp [hx])), List.flatten_cons, List.drop_append, List.drop_of_length_le (by have := hr r (by simp); omega), List.nil_append]
        congr 1
        have := hr r (by simp)
        omega
  rw [hf k rows h.rs.each] at hs
  refine ⟨⟨hs, fun r hr => h.rs.each r (List.mem_of_mem_drop hr), by rw [List.length_drop, h.rs.count]⟩, by rw [List.length_drop, h.count], fun i r d h1 h2 => ?_⟩
  rw [List.getElem?_drop] at h1 h2
  exact h.each _ r d h1 h2
end Go.Proofs.Ytepemfgiigceoaa.Chn
