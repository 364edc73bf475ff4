/- THE WALKS OF A DISK: a crash that keeps some units. Conditions: none. -/
import Derived.Test.YtlmlcedjhpfeiaaDk8
namespace Go.Proofs.Ytlmlcedjhpfeiaa.Dk
open Go.RowKit Go.Mir

/-- how many units a crash keeps -/
def crU (us : List Int) (k : Nat) (f : FD) : Nat := match us[k]? with
  | some x => ((x.tmod ((unitsAll f.steps + 1 : Nat) : Int) + ((unitsAll f.steps + 1 : Nat) : Int)).tmod ((unitsAll f.steps + 1 : Nat) : Int)).toNat
  | none => 0
def crF (us : List Int) : Nat → List FD → List FD
  | _, [] => []
  | k, f :: r => f.settle (crU us k f) :: crF us (k + 1) r
def crashD (us : List Int) (d : DD) : DD := ⟨crF us 0 d.fs, d.room, 0, false⟩
def crashM (us : List Int) (d : DD) (k : Nat) : DD := ⟨crF us 0 (d.fs.take k) ++ d.fs.drop k, d.room, d.fuse, d.down⟩
theorem crashM_zero (us : List Int) (d : DD) : crashM us d 0 = d := by simp [crashM, crF]
theorem crashM_get {us : List Int} {d : DD} (h : d.fs.length = 3) (k : Nat) (hk : k < 3) (hk2 : k < (crashM us d k).fs.length) : (crashM us d k).fs[k]'hk2 = d.fs[k]'(by omega) := by
  obtain ⟨fs, room, fuse, down⟩ := d
  obtain ⟨a, b, c, rfl⟩ := list3 h
  match k, hk with
  | 0, _ => rfl
  | 1, _ => rfl
  | 2, _ => rfl
theorem crashM_step {us : List Int} {d : DD} (h : d.fs.length = 3) (k : Nat) (hk : k < 3) : setF (crashM us d k) k ((d.fs[k]'(by omega)).settle (crU us k (d.fs[k]'(by omega)))) = crashM us d (k + 1) := by
  obtain ⟨fs, room, fuse, down⟩ := d
  obtain ⟨a, b, c, rfl⟩ := list3 h
  match k, hk with
  | 0, _ => rfl
  | 1, _ => rfl
  | 2, _ => rfl
theorem crU_le {us : List Int} {k : Nat} {f : FD} : crU us k f ≤ unitsAll f.steps := by
  unfold crU
  cases us[k]? with
  | none => exact Nat.zero_le _
  | some x =>
    dsimp only
    have h0 : (0 : Int) < ((unitsAll f.steps + 1 : Nat) : Int) := by omega
    have h1 := Int.tmod_lt_of_pos (x.tmod ((unitsAll f.steps + 1 : Nat) : Int) + ((unitsAll f.steps + 1 : Nat) : Int)) h0
    omega
/-- ints in memory -/
structure Ns (w : World) (p : Option Addr) (n c : Nat) (us : List Int) : Prop where
  sl : Sl w p n c 1 (us.map (Value.int .i64))
  count : us.length = n
  bd : ∀ x ∈ us, -9223372036854775808 ≤ x ∧ x ≤ 9223372036854775807
theorem Ns.turn {S : Nat → Prop} {w w' : World} {p : Option Addr} {n c : Nat} {us : List Int} (h : Ns w p n c us) (ht : Turns S w w') (hs : ∀ a, p = some a → ¬ S a.block) : Ns w' p n c us := ⟨h.sl.touch ht (fun a ha _ hk => hs a ha hk), h.count, h.bd⟩

set_option maxRecDepth 100000 in
set_option maxHeartbeats 1600000 in
theorem crash_any {base db : Nat} {vs : List FV} {d : DD} (w : World) (h : DAt w base db vs d) (hbase : base ≤ w.heap.size) (us : List Int) (p : Option Addr) (c : Nat) (hN : Ns w p us.length c us) (hap : ∀ a, p = some a → ¬ DOwn db vs a.block ∧ a.block < w.heap.size) :
    Calls Try.prog 15 #[.pointer (some ⟨db, 0, none⟩), .slice p us.length c] w fun e w' => e = .returned (.tuple #[]) ∧ LeftD base db vs (crashD us d) w w' := by
  have H := Lib.hid h
  have HBASE := Lib.hid hbase
  have HM3 := Lib.hid h.m3
  have HN := Lib.hid hN
  have HAP := Lib.hid hap
  have hle := hN.sl.le
  have hmax := hN.sl.max
  clear h hN hap
  go_enter Try.func15, Try.ntmps15
  go_wp2_with fail
  refine (none_any w H.out).mono ?_
  rintro e w' ⟨rfl, rfl⟩
  go_wp2_with fail
  go_loopw [10] (fun j wr => ∃ k : Nat, k ≤ 3 ∧ j = .int .i64 k ∧ LeftD base db vs (crashM us d k) w wr) (fun j _ => 3 - (intOf j).toNat)
  case atStart => exact ⟨0, by omega, rfl, vs, by rw [crashM_zero]; exact H.out, Turns.refl _ _, fun k hk => .inl hk⟩
  case round =>
    obtain ⟨k, hk, rfl, vs1, hd1, ht1, hn1⟩ := hrel
    have HD1 := Lib.hid hd1
    have HT1 := Lib.hid ht1
    have HN1 := Lib.hid hn1
    clear hd1 ht1 hn1
    by_cases hlt : k < 3
    · have hd : decide ((k : Int) < 3) = true := decide_eq_true (by omega)
      have hd2 : decide (k < 3) = true := decide_eq_true (by omega)
      have hk1 : (k : Int) < 3 := by omega
      have hk0 : (0 : Int) ≤ (k : Int) := by omega
      have HKL : Hid (k < (crashM us d k).fs.length) := by show _ < _; rw [HD1.out.m3]; exact hlt
      have HFE : Hid ((crashM us d k).fs[k]'HKL.out = d.fs[k]'(by have := HM3.out; omega)) := crashM_get HM3.out k hlt HKL.out
      have HSP := Lib.hid (crashM_step (us := us) HM3.out k hlt)
      have HU := Lib.hid (fileUnits_any wr HD1.out k HKL.out)
      rw [HFE.out] at HU
      have HUB : Hid (unitsAll (d.fs[k]'(by have := HM3.out; omega)).steps ≤ 1152921504606846976) := by
        show _ ≤ _
        have hv : k < vs1.length := by have := HD1.out.n3; omega
        have h1 := (HD1.out.each k _ _ (List.getElem?_eq_getElem hv) (List.getElem?_eq_getElem HKL.out)).ok.un
        have h2 := HD1.out.few _ (List.getElem_mem HKL.out)
        rw [HFE.out] at h1 h2
        omega
      have HCU : Hid (crU us k (d.fs[k]'(by have := HM3.out; omega)) ≤ unitsAll (d.fs[k]'(by have := HM3.out; omega)).steps) := crU_le
      generalize hff : d.fs[k]'(by have := HM3.out; omega) = f at *
      clear hff
      by_cases hku : k < us.length
      · have e0 : decide ((k : Int) < (us.length : Int)) = true := decide_eq_true (by omega)
        have e1 : decide (k < us.length) = true := decide_eq_true hku
        obtain ⟨g, o, rfl⟩ := HN.out.sl.addr (by omega) (by omega)
        have hcx : wr.cell? ⟨g, o + k, none⟩ = some (.int .i64 (us[k]'hku)) := HT1.out.cell (HN.out.sl.at (by simp [hku])) (fun hs => (HAP.out _ rfl).1 hs)
        have HXE : Hid (us[k]? = some (us[k]'hku)) := List.getElem?_eq_getElem hku
        have HXB := Lib.hid (HN.out.bd _ (List.getElem_mem hku))
        generalize us[k] = x at *
        have HCE : Hid (crU us k f = ((x.tmod ((unitsAll f.steps + 1 : Nat) : Int) + ((unitsAll f.steps + 1 : Nat) : Int)).tmod ((unitsAll f.steps + 1 : Nat) : Int)).toNat) := by show _ = _; unfold crU; rw [HXE.out]
        generalize hua : unitsAll f.steps = ua at *
        obtain ⟨A, hA⟩ : ∃ A, A = ua + 1 := ⟨_, rfl⟩
        have hA0 : 1 ≤ A := by omega
        have hAB : A ≤ 1152921504606846977 := by have := HUB.out; omega
        rw [← hA] at HCE
        have hua1 : IntKind.i64.wrap ((ua : Int) + 1) = (A : Int) := by rw [show ((ua : Int) + 1) = (A : Int) by omega]; exact IntWalk.i64_in _ (by omega)
        have hua2 : (ua : Int) + 1 = (A : Int) := by omega
        obtain ⟨r, hr⟩ : ∃ r, x.tmod (A : Int) = r := ⟨_, rfl⟩
        have hr1 : -(A : Int) < r ∧ r < (A : Int) := by
          rw [← hr]
          exact ⟨Int.lt_tmod_of_pos x (by omega), Int.tmod_lt_of_pos x (by omega)⟩
        obtain ⟨mm, hmm⟩ : ∃ mm : Nat, (r + (A : Int)).tmod (A : Int) = (mm : Int) := by
          have h1 : 0 ≤ (r + (A : Int)).tmod (A : Int) := Int.tmod_nonneg _ (by omega)
          exact ⟨((r + (A : Int)).tmod (A : Int)).toNat, by omega⟩
        have HME : Hid (mm = crU us k f) := by show _ = _; rw [HCE.out, hr, hmm]; simp
        have hmb : mm ≤ 4611686018427387904 := by have := HCU.out; have := HUB.out; have := HME.out; omega
        have hne0 : ((A : Int) == 0) = false := by rw [beq_eq_false_iff_ne]; omega
        have hne1 : ¬ (A : Int) = 0 := by omega
        have hne2 : ¬ A = 0 := by omega
        have hwr : IntKind.i64.wrap r = r := IntWalk.i64_in _ (by omega)
        have hws : IntKind.i64.wrap (r + (A : Int)) = r + (A : Int) := IntWalk.i64_in _ (by omega)
        have hwm : IntKind.i64.wrap (mm : Int) = (mm : Int) := IntWalk.i64_in _ (by omega)
        clear hA
        go_wp2_with fail
        refine (HU.out).mono ?_
        rintro e w2 ⟨rfl, hb2⟩
        have HB2 := Lib.hid hb2
        have hcx2 : w2.cell? ⟨g, o + k, none⟩ = some (.int .i64 x) := cell_below hcx hb2
        have HST := Lib.hid (settle_any w2 (HD1.out.below hb2) (Nat.le_trans HBASE.out (Nat.le_trans HT1.out.size hb2.size)) k HKL.out f HFE.out mm hmb)
        clear hb2 HU hcx
        go_wp2_with fail
        refine (HST.out).mono ?_
        rintro e w3 ⟨rfl, ⟨vs3, hd3, hn3⟩, ht3⟩
        have HL3 : Hid (LeftD base db vs (crashM us d (k + 1)) w w3) := by
          have hd3' := hd3
          have e1 : setF (crashM us d k) k (f.settle mm) = crashM us d (k + 1) := by rw [← HSP.out, HME.out]
          rw [e1] at hd3'
          refine LeftD.trans HN1.out HT1.out (LeftD.from HB2.out ⟨vs3, hd3', ht3.imp (fun k _ hk => .inl hk), fun k hk => ?_⟩)
          rcases hk with hk | ⟨v, hv, hk⟩
          · exact .inl (.inl hk)
          · exact .inl (.inr (hn3 v hv k hk))
        clear hd3 hn3 ht3 HST
        go_wp2_with fail
        go_roundw
        case rel => exact ⟨k + 1, by omega, by go_num, HL3.out⟩
        case measure => simp [intOf]; omega
      · have e0 : decide ((k : Int) < (us.length : Int)) = false := decide_eq_false (by omega)
        have e1 : decide (k < us.length) = false := decide_eq_false hku
        obtain ⟨mm, hmm⟩ : ∃ mm : Nat, mm = 0 := ⟨_, rfl⟩
        have HME : Hid (mm = crU us k f) := by show _ = _; unfold crU; rw [List.getElem?_eq_none (by omega), hmm]
        have HST := Lib.hid (settle_any wr HD1.out (Nat.le_trans HBASE.out HT1.out.size) k HKL.out f HFE.out mm (by omega))
        have hm0 : (mm : Int) = 0 := by omega
        rw [hm0] at HST
        clear hm0
        go_wp2_with fail
        refine (HST.out).mono ?_
        rintro e w3 ⟨rfl, ⟨vs3, hd3, hn3⟩, ht3⟩
        have HL3 : Hid (LeftD base db vs (crashM us d (k + 1)) w w3) := by
          have hd3' := hd3
          have e1 : setF (crashM us d k) k (f.settle mm) = crashM us d (k + 1) := by rw [← HSP.out, HME.out]
          rw [e1] at hd3'
          refine LeftD.trans HN1.out HT1.out (LeftD.from (Below.refl _ _) ⟨vs3, hd3', ht3.imp (fun k _ hk => .inl hk), fun k hk => ?_⟩)
          rcases hk with hk | ⟨v, hv, hk⟩
          · exact .inl (.inl hk)
          · exact .inl (.inr (hn3 v hv k hk))
        clear hd3 hn3 ht3 HST
        go_wp2_with fail
        go_roundw
        case rel => exact ⟨k + 1, by omega, by go_num, HL3.out⟩
        case measure => simp [intOf]; omega
    · have hd : decide ((k : Int) < 3) = false := decide_eq_false (by omega)
      have hd2 : decide (k < 3) = false := decide_eq_false (by omega)
      obtain rfl : k = 3 := by omega
      obtain ⟨hc0, hc1, hc2, hfz⟩ := HD1.out.cells
      have HL3 : Hid (LeftD base db vs (crashD us d) w ((wr.setCell ⟨db, 13, none⟩ (.int .i64 0)).setCell ⟨db, 14, none⟩ (.bool false))) := by
        have ht2 : Turns (fun k => k = db) wr ((wr.setCell ⟨db, 13, none⟩ (.int .i64 0)).setCell ⟨db, 14, none⟩ (.bool false)) := ((Turns.refl (fun k => k = db) wr).setCell (p := ⟨db, 13, none⟩) (fun _ => rfl) _).setCell (p := ⟨db, 14, none⟩) (fun _ => rfl) _
        obtain ⟨s1, _, _⟩ := dA_set HD1.out.n3 (crashM us d 3).room (crashM us d 3).fuse (crashM us d 3).down
        obtain ⟨_, s2, _⟩ := dA_set HD1.out.n3 (crashM us d 3).room 0 (crashM us d 3).down
        have r2 := cell_put (off := 13) (.int .i64 0) HD1.out.row
        have s1' := s1 0
        rw [show ((0 : Nat) : Int) = (0 : Int) from rfl] at s1'
        rw [s1'] at r2
        have r3 := cell_put (off := 14) (.bool false) r2
        rw [s2 false] at r3
        have hd4 := HD1.out.reRow ht2 r3 (by omega)
        have he : (⟨(crashM us d 3).fs, (crashM us d 3).room, 0, false⟩ : DD) = crashD us d := by
          have := HM3.out
          obtain ⟨fs, room, fuse, down⟩ := d
          obtain ⟨a, b, c, rfl⟩ := list3 this
          rfl
        rw [he] at hd4
        exact LeftD.trans HN1.out HT1.out (LeftD.row HD1.out hd4 ht2)
      go_wp2_with fail
      go_end0
      exact ⟨rfl, HL3.out⟩
end Go.Proofs.Ytlmlcedjhpfeiaa.Dk
