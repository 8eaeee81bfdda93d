/-
  Records: contract of frame's take, whole.
-/
import Derived.Test.YtcgbellmclhlpaaR6
namespace Go.Proofs.Ytcgbellmclhlpaa
set_option linter.unusedVariables false
set_option linter.unusedSimpArgs false
open Go.RowKit Vi Sl

set_option maxRecDepth 100000 in
set_option maxHeartbeats 1600000 in
/-- A head that tells more than a block holds. -/
theorem take_long (p g o cap : Nat) (B : List Nat) (hp : p ≤ 1099511627776) (hl : p + padN p + 7 ≤ B.length) (hmax : B.length ≤ 1099511627776) (hB : ∀ x ∈ B, x < 256)
    (hn : 128 < (p + padN p) % 128 + 7 + (at' B (p + padN p + 4) + 256 * at' B (p + padN p + 5))) (w : World) (hs : Lies w g o (byteV B)) :
    Calls Try.prog 20 #[.slice (some ⟨g, o, none⟩) B.length cap, .int .i64 p] w fun e w' => e = .returned (.tuple #[.int .u8 0, .slice none 0 0, .int .i64 0, .bool false]) ∧ Below w.heap.size w w' := by
  have HP := Lib.hid (pad_ok p (by omega))
  have hpl : padN p ≤ 6 := by unfold padN; split <;> omega
  generalize padN p = pd at *
  have c4 := cell_at hs (p + pd + 4) (by omega)
  have c5 := cell_at hs (p + pd + 5) (by omega)
  have b4 := at_lt B hB (p + pd + 4)
  have b5 := at_lt B hB (p + pd + 5)
  have hv := len_val _ _ b4 b5
  generalize at' B (p + pd + 4) = x at *
  generalize at' B (p + pd + 5) = y at *
  obtain ⟨n, hnn⟩ : ∃ n, x + 256 * y = n := ⟨_, rfl⟩
  have hx2 : n ≤ 65535 := by omega
  rw [hnn] at hn hv
  generalize B.length = len at *
  have x2 : (x : Int) ≤ 255 := by omega
  have y2 : (y : Int) ≤ 255 := by omega
  have hm : ((p : Int) + pd) % 128 = (((p + pd) % 128 : Nat) : Int) := by omega
  have hml : (p + pd) % 128 < 128 := Nat.mod_lt _ (by decide)
  generalize (p + pd) % 128 = md at *
  have s1 : IntKind.i64.wrap ((p : Int) + pd + 4) = p + pd + 4 := IntWalk.i64_in _ (by omega)
  have s2 : IntKind.i64.wrap ((p : Int) + pd + 5) = p + pd + 5 := IntWalk.i64_in _ (by omega)
  have s3 : (0 : Int) ≤ (p : Int) + pd + 4 := by omega
  have s4 : (0 : Int) ≤ (p : Int) + pd + 5 := by omega
  have s5 : ((p : Int) + pd + 4).toNat = p + pd + 4 := by omega
  have s6 : ((p : Int) + pd + 5).toNat = p + pd + 5 := by omega
  have s7 : (p : Int) + pd + 4 < len := by omega
  have s8 : (p : Int) + pd + 5 < len := by omega
  have s9 : IntKind.i64.wrap ((y : Int) * 256) = y * 256 := IntWalk.i64_in _ (by omega)
  have hl2 : decide ((len : Int) < p + pd + 7) = false := by simp; omega
  clear hB hs hnn hl
  go_enter Try.func20, Try.ntmps20
  go_wp2_with (go_at_call 16; refine (HP.out _).mono ?_; rintro e w' ⟨rfl, rfl⟩)
  go_quiet (fail)
  clear s1 s2 s3 s4 s5 s6 s7 s8 s9 hv c4 c5
  have hn3 : (128 : Int) < (md : Int) + 7 + n := by omega
  clear hn
  go_wp2
  all_goals exact bodyPost_ret (v := .tuple #[.int .u8 0, .slice none 0 0, .int .i64 0, .bool false]) (by simp [results, Try.results20, go_sem]) rfl ⟨rfl, below_drawn (Below.refl _ _) _⟩


/-- What take takes: the kind, where its bytes begin, how many. -/
def takeN (B : List Nat) (p : Nat) : Option (Nat × Nat × Nat) :=
  if B.length < p + padN p + 7 then none
  else if 128 < (p + padN p) % 128 + 7 + (at' B (p + padN p + 4) + 256 * at' B (p + padN p + 5)) then none
  else if B.length < p + padN p + 7 + (at' B (p + padN p + 4) + 256 * at' B (p + padN p + 5)) then none
  else if pieceB B (p + padN p) (at' B (p + padN p + 4) + 256 * at' B (p + padN p + 5)) then
    some (at' B (p + padN p + 6), p + padN p + 7, at' B (p + padN p + 4) + 256 * at' B (p + padN p + 5))
  else none

/-- take's four values, as takeN has them. -/
def Took (B : List Nat) (p g o : Nat) (v : Value) : Prop :=
  ∃ (k : Nat) (s : Value) (t : Nat) (ok : Bool), v = .tuple #[.int .u8 (k : Nat), s, .int .i64 (t : Nat), .bool ok] ∧
    (takeN B p = none ∧ ok = false ∨
      ∃ q n a c, takeN B p = some (k, q, n) ∧ ok = true ∧ 1 ≤ k ∧ k ≤ 4 ∧ s = .slice (some ⟨g, a, none⟩) n c ∧ t = q + n ∧ p + 7 ≤ q ∧ q + n ≤ B.length ∧ (0 < n → a = o + q) ∧ n ≤ c ∧ c ≤ 9223372036854775807)

theorem take_ok (p g o cap : Nat) (B : List Nat) (hp : p ≤ 1099511627776) (hmax : B.length ≤ 1099511627776) (hB : ∀ x ∈ B, x < 256) (hcap : B.length ≤ cap) (hcap2 : cap ≤ 9223372036854775807)
    (w : World) (hs : Lies w g o (byteV B)) :
    Calls Try.prog 20 #[.slice (some ⟨g, o, none⟩) B.length cap, .int .i64 p] w fun e w' => ∃ v, e = .returned v ∧ Took B p g o v ∧ Below w.heap.size w w' := by
  by_cases h1 : B.length < p + padN p + 7
  · refine (take_short p B.length _ cap hp h1 w).mono ?_
    rintro e w' ⟨rfl, rfl⟩
    exact ⟨_, rfl, ⟨0, _, 0, false, rfl, .inl ⟨by unfold takeN; rw [if_pos h1], rfl⟩⟩, Below.refl _ _⟩
  by_cases h2 : 128 < (p + padN p) % 128 + 7 + (at' B (p + padN p + 4) + 256 * at' B (p + padN p + 5))
  · refine (take_long p g o cap B hp (by omega) hmax hB h2 w hs).mono ?_
    rintro e w' ⟨rfl, hb⟩
    exact ⟨_, rfl, ⟨0, _, 0, false, rfl, .inl ⟨by unfold takeN; rw [if_neg h1, if_pos h2], rfl⟩⟩, hb⟩
  by_cases h3 : B.length < p + padN p + 7 + (at' B (p + padN p + 4) + 256 * at' B (p + padN p + 5))
  · refine (take_cut p g o cap B hp (by omega) hmax hB h3 w hs).mono ?_
    rintro e w' ⟨rfl, hb⟩
    exact ⟨_, rfl, ⟨0, _, 0, false, rfl, .inl ⟨by unfold takeN; rw [if_neg h1, if_neg h2, if_pos h3], rfl⟩⟩, hb⟩
  refine (take_full p (p + padN p) _ g o cap B hp rfl hmax hB hcap hcap2 rfl (by omega) (by omega) w hs).mono ?_
  rintro e w' ⟨a, c, rfl, ha, hc, hc2, hb⟩
  refine ⟨_, rfl, ⟨_, _, _, _, rfl, ?_⟩, hb⟩
  by_cases h4 : pieceB B (p + padN p) (at' B (p + padN p + 4) + 256 * at' B (p + padN p + 5)) = true
  · have h5 : 1 ≤ at' B (p + padN p + 6) ∧ at' B (p + padN p + 6) ≤ 4 := by
      unfold pieceB at h4
      have := of_decide_eq_true h4
      exact ⟨this.1, this.2.1⟩
    refine .inr ⟨p + padN p + 7, _, a, c, by unfold takeN; rw [if_neg h1, if_neg h2, if_neg h3, if_pos h4], h4, h5.1, h5.2, rfl, rfl, by omega, by omega, ha, hc, hc2⟩
  · exact .inl ⟨by unfold takeN; rw [if_neg h1, if_neg h2, if_neg h3, if_neg h4], by simpa using h4⟩
end Go.Proofs.Ytcgbellmclhlpaa
