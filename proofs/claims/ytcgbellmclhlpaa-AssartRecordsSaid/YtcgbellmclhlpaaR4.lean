/-
  Records: contract of frame's Frame.
-/
import Derived.Test.YtcgbellmclhlpaaR3
import Derived.Deep.RegionWith
namespace Go.Proofs.Ytcgbellmclhlpaa
set_option linter.unusedVariables false
set_option linter.unusedSimpArgs false
open Go.RowKit Vi Sl

/-- The pieces of a record, from a place on. -/
def piecesL : Nat → Nat → Bool → List Nat → List Nat
  | 0, _, _, _ => []
  | f + 1, p, begins, rec =>
    if roomN p < rec.length then pieceL (kindN begins false) (rec.take (roomN p)) ++ piecesL f (p + (7 + roomN p)) false (rec.drop (roomN p))
    else pieceL (kindN begins true) rec
/-- A record's bytes at a place. -/
def frameL (p : Nat) (rec : List Nat) : List Nat := List.replicate (padN p) 0 ++ piecesL (rec.length + 2) (p + padN p) true rec
theorem room_le (p : Nat) : roomN p ≤ 121 := by unfold roomN; split <;> omega
theorem room_next (p : Nat) (h : 7 ≤ 128 - p % 128) : roomN (p + (7 + roomN p)) = 121 := by
  have h1 : roomN p = 128 - p % 128 - 7 := if_pos h
  have h2 : (p + (7 + roomN p)) % 128 = 0 := by rw [h1]; omega
  unfold roomN at *
  rw [h2]; rfl
theorem room_full (p rm : Nat) (h : 7 ≤ 128 - p % 128) (hr : roomN p = rm) : (p + (7 + rm)) % 128 = 0 := by
  have h1 : roomN p = 128 - p % 128 - 7 := if_pos h
  omega
theorem room_zero (p : Nat) (h : p % 128 = 0) : roomN p = 121 := by unfold roomN; rw [h]; rfl
theorem pieces_more (f p : Nat) (beg : Bool) (rec : List Nat) (h : roomN p < rec.length) :
    piecesL (f + 1) p beg rec = pieceL (kindN beg false) (rec.take (roomN p)) ++ piecesL f (p + (7 + roomN p)) false (rec.drop (roomN p)) := by
  rw [piecesL, if_pos h]
theorem pieces_last (f p : Nat) (beg : Bool) (rec : List Nat) (h : ¬ roomN p < rec.length) : piecesL (f + 1) p beg rec = pieceL (kindN beg true) rec := by
  rw [piecesL, if_neg h]
theorem pad_room (p : Nat) : 7 ≤ 128 - (p + padN p) % 128 := by unfold padN; split <;> omega

def lenOf : Value → Nat
  | .slice _ n _ => n
  | _ => 0
def flagOf : Value → Nat
  | .bool true => 1
  | _ => 0
theorem lies_part {w : World} {g off : Nat} {l : List Nat} (h : Lies w g off (byteV l)) (k n : Nat) : Lies w g (off + k) (byteV ((l.drop k).take n)) :=
  ⟨h.1, fun j u hj => by
    have h1 : (byteV l)[k + j]? = some u := by
      simp only [byteV, List.getElem?_map] at hj ⊢
      by_cases hjn : j < n
      · rw [List.getElem?_take, if_pos hjn, List.getElem?_drop] at hj; exact hj
      · rw [List.getElem?_take, if_neg hjn] at hj; simp at hj
    rw [Nat.add_assoc]; exact h.2 _ _ h1⟩

set_option maxRecDepth 100000 in
set_option maxHeartbeats 1600000 in
theorem frame_ok (p m gs os cs : Nat) (rec : List Nat) (w : World) (hp : p ≤ 1099511627776) (hm : rec.length ≤ 1099511627776) (hb : ∀ x ∈ rec, x < 256) (hcs : rec.length ≤ cs) (hcs2 : cs ≤ 9223372036854775807)
    (hne : rec ≠ []) (hs : Lies w gs os (byteV rec)) :
    Calls Try.prog 7 #[.int .i64 p, .slice (some ⟨gs, os, none⟩) rec.length cs] w fun e w' => ∃ v, e = .returned (.tuple #[v, .int .i64 0]) ∧ Has w' w.heap.size 1 v (frameL (p % 128) rec).length (byteV (frameL (p % 128) rec)) ∧ Below w.heap.size w w' := by
  obtain ⟨i0, hi, hz0, hz1, hz2⟩ := info_parts Try.infoByte
  have hpm : p % 128 < 128 := Nat.mod_lt _ (by decide)
  have hpc : ((p : Int) % 128) = ((p % 128 : Nat) : Int) := by omega
  have HPAD := Lib.hid (pad_ok (p % 128) (by omega))
  have hpl : padN (p % 128) ≤ 6 := by unfold padN; split <;> omega
  have hpr := pad_room (p % 128)
  have HFR : Hid (frameL (p % 128) rec = List.replicate (padN (p % 128)) 0 ++ piecesL (rec.length + 2) (p % 128 + padN (p % 128)) true rec) := Lib.hid rfl
  rw [HFR.out]
  generalize padN (p % 128) = pd at *
  generalize p % 128 = q at *
  have HB := Lib.hid hb
  have HNE := Lib.hid hne
  obtain ⟨R, hR⟩ : ∃ R, rec.length = R := ⟨_, rfl⟩
  have HR := Lib.hid hR
  rw [hR] at hm hcs ⊢
  have HSR := Lib.hid hs
  have hgs := hs.1
  clear hb hne hR hs HFR
  have hpn : decide ((p : Int) < 0) = false := by simp
  go_enter Try.func7, Try.ntmps7
  go_wp2_with (first | (go_at_call 16; refine (HPAD.out _).mono ?_; rintro e w' ⟨rfl, rfl⟩) | (at_make; refine wpList_make_full _ rfl _ _ 27 rfl w.heap.size 5 i0 (.int .u8 0) 1 Try.underlying27 hi hz0 hz1 .i64 .i64 _ _ pd rfl rfl rfl rfl ?c1 ?c2 ?c3 ?_))
  case c1 => rw [hz2]; omega
  case c2 => unfold maxLen; omega
  case c3 => exact Nat.le_refl _
  intro w1 hown hgrow
  have hb1 : Below w.heap.size w w1 := (Below.refl _ _).grown hgrow (Nat.le_refl _) (fun k hk => by cases hk)
  have hh1 : Has w1 w.heap.size 1 (.slice (some ⟨w.heap.size, 0, none⟩) pd pd) pd (byteV (List.replicate pd 0)) := by
    have := Has.of_owns hown
    have e : (madeCells #[Value.int IntKind.u8 0] pd).toList = byteV (List.replicate pd 0) := by rw [toList_madeCells_one]; simp [byteV]
    first
      | (rw [← e]; simpa using this)
      | (rw [← e]; exact this)
  have HH1 := Lib.hid hh1
  clear hown hgrow hh1
  go_wp2
  go_loopw [1, 6, 7] (fun r b bg wr => ∃ (f k : Nat) (c : Nat) (beg : Bool) (pre : List Nat), k < R ∧ r = .slice (some ⟨gs, os + k, none⟩) (R - k) c ∧ R - k ≤ c ∧ c ≤ 9223372036854775807 ∧ bg = .bool beg ∧
      Has wr w.heap.size 1 b pre.length (byteV pre) ∧ Below w.heap.size w wr ∧
      Hid (pre ++ piecesL (f + 1) (q + pre.length) beg (rec.drop k) = List.replicate pd 0 ++ piecesL (R + 2) (q + pd) true rec) ∧
      Hid (7 ≤ 128 - (q + pre.length) % 128) ∧ Hid (beg = true ∧ k = 0 ∧ f = R + 1 ∧ pre.length = pd ∨ beg = false ∧ roomN (q + pre.length) = 121 ∧ R - k < f + 1 ∧ pre.length ≤ pd + 7 + 8 * k))
    (fun r _ bg _ => 2 * lenOf r + flagOf bg)
  case atStart =>
    have hRpos : 0 < R := by
      have h1 := HR.out
      have h2 := HNE.out
      rcases Nat.eq_zero_or_pos R with h | h
      · exact absurd (List.length_eq_zero_iff.1 (by rw [h1, h])) h2
      · exact h
    exact ⟨R + 1, 0, cs, true, List.replicate pd 0, hRpos, rfl, hcs, hcs2, rfl, by rw [List.length_replicate]; exact HH1.out, hb1, Lib.hid (by rw [List.length_replicate]; rfl), Lib.hid (by rw [List.length_replicate]; exact hpr), Lib.hid (.inl ⟨rfl, rfl, rfl, List.length_replicate ..⟩)⟩
  case round =>
    clear hb1 HH1 hpr
    obtain ⟨f, k, c, beg, pre, hk, rfl, hc1, hc2, rfl, hhas, hnx, HE, H7, HD⟩ := hrel
    obtain ⟨ao, cb, rfl, hcb⟩ := hhas.shape
    have hpre : pre.length ≤ 9895604649990 := by rcases HD.out with ⟨_, _, _, h⟩ | ⟨_, _, _, h⟩ <;> omega
    have HRM := Lib.hid (room_ok (q + pre.length) (by omega))
    have hrl := room_le (q + pre.length)
    have hsl := (HSR.out).below hnx hgs
    obtain ⟨rm, hrm⟩ : ∃ rm, roomN (q + pre.length) = rm := ⟨_, rfl⟩
    have HRR := Lib.hid hrm
    rw [hrm] at HRM hrl
    clear hrm
    by_cases hlt : rm < R - k
    · have HK := Lib.hid (kind_ok beg false)
      have hkl : kindN beg false < 256 := by cases beg <;> decide
      have hp1 := lies_part hsl k rm
      have hlen : ((rec.drop k).take rm).length = rm := by rw [List.length_take, List.length_drop, HR.out]; omega
      have HPC := fun w' (h1 : Has w' w.heap.size 1 (.slice ao pre.length cb) pre.length (byteV pre)) (h2 : Lies w' gs (os + k) (byteV ((rec.drop k).take rm))) (h3 : w.heap.size ≤ w'.heap.size) =>
        piece_ok w.heap.size (kindN beg false) pre.length gs (os + k) c pre ((rec.drop k).take rm) (.slice ao pre.length cb) w' hkl h1 (by omega) (by rw [hlen]; omega) (fun x hx => HB.out x (List.mem_of_mem_drop (List.mem_of_mem_take hx))) (by rw [hlen]; omega) hc2 h2 hgs h3 (by omega)
      rw [hlen] at HPC
      have HP1 := Lib.hid hp1
      have HPH := Lib.hid HPC
      have HH := Lib.hid hhas
      have hrc : rm ≤ c := by omega
      have hrc2 : rm < c := by omega
      have hneq : ((rm : Int) == ((R - k : Nat) : Int)) = false := by simp; omega
      have hsz := hnx.size
      generalize hkd : kindN beg false = kd at *
      have HKD := Lib.hid hkd
      clear hkd
      clear hp1 HPC hhas hsl hlen
      go_wp2_with (first | (go_at_call 17; refine (HRM.out _).mono ?_; rintro e w' ⟨rfl, rfl⟩))
      go_region_with (first
        | (go_at_call 19; refine (HK.out _).mono ?_; rintro e w' ⟨rfl, rfl⟩)
        | (go_at_call 18; refine (HPH.out _ (by exact HH.out) (by exact HP1.out) (by exact hsz)).mono ?_; rintro e wx ⟨vx, rfl, hx, hbx⟩))
      go_wp2
      go_roundw
      case rel =>
        have hre := HR.out
        have hf : 1 ≤ f := by rcases HD.out with ⟨_, _, h, _⟩ | ⟨_, _, h, _⟩ <;> omega
        have hfull := room_full _ _ H7.out HRR.out
        have hlen2 : ((rec.drop k).take rm).length = rm := by rw [List.length_take, List.length_drop, hre]; omega
        have hpl : (pre ++ pieceL kd ((rec.drop k).take rm)).length = pre.length + (7 + rm) := by rw [List.length_append, pieceL_len, hlen2]
        refine ⟨f - 1, k + rm, c - rm, false, pre ++ pieceL kd ((rec.drop k).take rm), by omega, ?_, by omega, by omega, rfl, ?_, hnx.drew.trans hbx, Lib.hid ?_, Lib.hid ?_, Lib.hid ?_⟩
        · rw [show R - (k + rm) = R - k - rm by omega]
          simp only [Nat.add_assoc]
        · rw [hpl]; clear HE HD; exact hx
        · have he := HE.out
          rw [pieces_more f _ beg _ (by rw [HRR.out, List.length_drop, hre]; omega), HRR.out, HKD.out, List.drop_drop] at he
          rw [hpl, ← he, List.append_assoc, show f - 1 + 1 = f by omega, Nat.add_assoc]
        · rw [hpl, ← Nat.add_assoc, Nat.add_assoc q, Nat.add_comm] at *
          omega
        · refine .inr ⟨rfl, ?_, ?_, ?_⟩
          · apply room_zero
            rw [hpl, ← Nat.add_assoc]; omega
          · rcases HD.out with ⟨_, h1, h2, _⟩ | ⟨_, h1, h2, _⟩
            · omega
            · have : rm = 121 := by rw [← HRR.out]; exact h1
              omega
          · rw [hpl]
            rcases HD.out with ⟨_, h1, h2, h3⟩ | ⟨_, h1, h2, h3⟩
            · omega
            · have : rm = 121 := by rw [← HRR.out]; exact h1
              omega
      case measure =>
        simp [lenOf, flagOf]
        rcases HD.out with ⟨h0, h1, h2, h3⟩ | ⟨h0, h1, h2, h3⟩
        · subst h0; simp [flagOf]; omega
        · have : rm = 121 := by rw [← HRR.out]; exact h1
          subst h0; simp [flagOf]; omega
    · have HK := Lib.hid (kind_ok beg true)
      have hkl : kindN beg true < 256 := by cases beg <;> decide
      have hp1 := lies_part hsl k (R - k)
      have htk : (rec.drop k).take (R - k) = rec.drop k := List.take_of_length_le (by rw [List.length_drop, HR.out]; exact Nat.le_refl _)
      rw [htk] at hp1
      have hlen : (rec.drop k).length = R - k := by rw [List.length_drop, HR.out]
      have HPC := fun w' (h1 : Has w' w.heap.size 1 (.slice ao pre.length cb) pre.length (byteV pre)) (h2 : Lies w' gs (os + k) (byteV (rec.drop k))) (h3 : w.heap.size ≤ w'.heap.size) =>
        piece_ok w.heap.size (kindN beg true) pre.length gs (os + k) c pre (rec.drop k) (.slice ao pre.length cb) w' hkl h1 (by omega) (by rw [hlen]; omega) (fun x hx => HB.out x (List.mem_of_mem_drop hx)) (by rw [hlen]; omega) hc2 h2 hgs h3 (by omega)
      rw [hlen] at HPC
      have he := HE.out
      rw [pieces_last f _ beg _ (by rw [HRR.out, hlen]; omega)] at he
      have HE2 := Lib.hid he
      have HP1 := Lib.hid hp1
      have HPH := Lib.hid HPC
      have HH := Lib.hid hhas
      have HL := Lib.hid hlen
      have hrc : R - k < rm ∨ R - k = rm := by omega
      have hneq : (((R - k : Nat) : Int) == ((R - k : Nat) : Int)) = true := by simp
      have hsz := hnx.size
      generalize hkd : kindN beg true = kd at *
      have HKD := Lib.hid hkd
      clear hp1 HPC hhas hsl hlen htk he hkd hlt
      rcases hrc with hrc | rfl
      all_goals
        go_wp2_with (first | (go_at_call 17; refine (HRM.out _).mono ?_; rintro e w' ⟨rfl, rfl⟩))
        all_goals
          go_region_with (first
            | (go_at_call 19; refine (HK.out _).mono ?_; rintro e w' ⟨rfl, rfl⟩)
            | (go_at_call 18; refine (HPH.out _ (by exact HH.out) (by exact HP1.out) (by exact hsz)).mono ?_; rintro e wx ⟨vx, rfl, hx, hbx⟩))
          go_wp2
          go_ret2
          refine ⟨vx, rfl, ?_, hnx.drew.trans hbx⟩
          rw [← HE2.out, List.length_append, pieceL_len, HL.out]
          exact hx
end Go.Proofs.Ytcgbellmclhlpaa
