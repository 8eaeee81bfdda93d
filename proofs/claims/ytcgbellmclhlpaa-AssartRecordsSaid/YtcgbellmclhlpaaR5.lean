/-
  Records: contract of frame's take.
-/
import Derived.Test.YtcgbellmclhlpaaR4
namespace Go.Proofs.Ytcgbellmclhlpaa
set_option linter.unusedVariables false
set_option linter.unusedSimpArgs false
open Go.RowKit Vi Sl

theorem below_drawn {B : Nat} {a w : World} (h : Below B a w) (n : Nat) : Below B a (w.drewN n) := ⟨h.os, h.tape, h.output, h.size, h.block⟩

set_option maxHeartbeats 800000 in
/-- No room for a head. -/
theorem take_short (p len : Nat) (ao : Option Addr) (cap : Nat) (hp : p ≤ 1099511627776) (hl : len < p + padN p + 7) (w : World) :
    Calls Try.prog 20 #[.slice ao len cap, .int .i64 p] w fun e w' => e = .returned (.tuple #[.int .u8 0, .slice none 0 0, .int .i64 0, .bool false]) ∧ w = w' := by
  have HP := Lib.hid (pad_ok p (by omega))
  have hpl : padN p ≤ 6 := by unfold padN; split <;> omega
  generalize padN p = pd at *
  have h2 : (len : Int) < p + pd + 7 := by omega
  clear hl
  go_enter Try.func20, Try.ntmps20
  go_wp2_with (go_at_call 16; refine (HP.out _).mono ?_; rintro e w' ⟨rfl, rfl⟩)
  refine bodyPost_ret (v := .tuple #[.int .u8 0, .slice none 0 0, .int .i64 0, .bool false]) (by simp [results, Try.results20, go_sem]) rfl ⟨rfl, rfl⟩

/-- The bytes of a list, from one on. -/
def at' (B : List Nat) (i : Nat) : Nat := B.getD i 0
theorem at_lt (B : List Nat) (hB : ∀ x ∈ B, x < 256) (i : Nat) : at' B i < 256 := by
  unfold at'
  by_cases h : i < B.length
  · have : B.getD i 0 = B[i] := by simp [h]
    rw [this]; exact hB _ (List.getElem_mem h)
  · simp [List.getElem?_eq_none (Nat.le_of_not_lt h)]
theorem cell_at {w : World} {g o : Nat} {B : List Nat} (h : Lies w g o (byteV B)) (i : Nat) (hi : i < B.length) : w.cell? ⟨g, o + i, none⟩ = some (.int .u8 ((at' B i : Nat) : Int)) :=
  h.2 i _ (by simp [byteV, at', hi])
theorem len_val (a b : Nat) (ha : a < 256) (hb : b < 256) : bits .or .i64 (a : Int) ((b : Int) * 256) = ((a + 256 * b : Nat) : Int) := by
  have e : ((b : Int) * 256) = ((b * 256 : Nat) : Int) := by omega
  have hw : ∀ n : Int, 0 ≤ n → n < 2 ^ 63 → IntKind.i64.wrap n = n := by
    intro n h1 h2
    rw [IntKind.wrap_i64]; omega
  rw [e, (bits_nat .i64 63 (by decide) hw a (b * 256) (by omega) (by omega)).2]
  congr 1
  have := Nat.two_pow_add_eq_or_of_lt (i := 8) (b := a) ha b
  rw [Nat.or_comm, Nat.mul_comm b 256, show (256 : Nat) = 2 ^ 8 from rfl, ← this]
  omega

set_option maxRecDepth 100000 in
set_option maxHeartbeats 1600000 in
/-- A head, but not so many bytes. -/
theorem take_cut (p g o cap : Nat) (B : List Nat) (hp : p ≤ 1099511627776) (hl : p + padN p + 7 ≤ B.length) (hmax : B.length ≤ 1099511627776) (hB : ∀ x ∈ B, x < 256)
    (hn : B.length < p + padN p + 7 + (at' B (p + padN p + 4) + 256 * at' B (p + padN p + 5))) (w : World) (hs : Lies w g o (byteV B)) :
    Calls Try.prog 20 #[.slice (some ⟨g, o, none⟩) B.length cap, .int .i64 p] w fun e w' => e = .returned (.tuple #[.int .u8 0, .slice none 0 0, .int .i64 0, .bool false]) ∧ Below w.heap.size w w' := by
  have HP := Lib.hid (pad_ok p (by omega))
  have hpl : padN p ≤ 6 := by unfold padN; split <;> omega
  generalize padN p = pd at *
  have c4 := cell_at hs (p + pd + 4) (by omega)
  have c5 := cell_at hs (p + pd + 5) (by omega)
  have b4 := at_lt B hB (p + pd + 4)
  have b5 := at_lt B hB (p + pd + 5)
  have hv := len_val _ _ b4 b5
  generalize at' B (p + pd + 4) = x at *
  generalize at' B (p + pd + 5) = y at *
  obtain ⟨n, hnn⟩ : ∃ n, x + 256 * y = n := ⟨_, rfl⟩
  have hn2 : n ≤ 65535 := by omega
  rw [hnn] at hn hv
  generalize B.length = len at *
  have x2 : (x : Int) ≤ 255 := by omega
  have y2 : (y : Int) ≤ 255 := by omega
  have hm : ((p : Int) + pd) % 128 = (((p + pd) % 128 : Nat) : Int) := by omega
  have hml : (p + pd) % 128 < 128 := Nat.mod_lt _ (by decide)
  generalize (p + pd) % 128 = md at *
  have s1 : IntKind.i64.wrap ((p : Int) + pd + 4) = p + pd + 4 := IntWalk.i64_in _ (by omega)
  have s2 : IntKind.i64.wrap ((p : Int) + pd + 5) = p + pd + 5 := IntWalk.i64_in _ (by omega)
  have s3 : (0 : Int) ≤ (p : Int) + pd + 4 := by omega
  have s4 : (0 : Int) ≤ (p : Int) + pd + 5 := by omega
  have s5 : ((p : Int) + pd + 4).toNat = p + pd + 4 := by omega
  have s6 : ((p : Int) + pd + 5).toNat = p + pd + 5 := by omega
  have s7 : (p : Int) + pd + 4 < len := by omega
  have s8 : (p : Int) + pd + 5 < len := by omega
  have s9 : IntKind.i64.wrap ((y : Int) * 256) = y * 256 := IntWalk.i64_in _ (by omega)
  have hl2 : decide ((len : Int) < p + pd + 7) = false := by simp; omega
  clear hB hs hnn hl
  go_enter Try.func20, Try.ntmps20
  go_wp2_with (go_at_call 16; refine (HP.out _).mono ?_; rintro e w' ⟨rfl, rfl⟩)
  go_quiet (fail)
  clear s1 s2 s3 s4 s5 s6 s7 s8 s9 hv c4 c5
  have hn3 : (len : Int) < p + pd + 7 + n := by omega
  go_wp2
  all_goals exact bodyPost_ret (v := .tuple #[.int .u8 0, .slice none 0 0, .int .i64 0, .bool false]) (by simp [results, Try.results20, go_sem]) rfl ⟨rfl, below_drawn (Below.refl _ _) _⟩

/-- Is it a piece: its kind, and its sum? -/
def pieceB (B : List Nat) (q n : Nat) : Bool := decide (1 ≤ at' B (q + 6) ∧ at' B (q + 6) ≤ 4 ∧ sumB ((B.drop q).take 4) = sumN (at' B (q + 6)) ((B.drop (q + 7)).take n))

end Go.Proofs.Ytcgbellmclhlpaa
