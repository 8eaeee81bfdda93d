/-
  Numbers: contracts of ikey's Check, trailer, Encode at the versions that AssartNumbers makes; of crc's Mask.
-/
import Derived.Test.YtdoaepopkdeonaaV3
import Derived.Test.YtdoaepopkdeonaaE4
import Derived.Test.YtdoaepopkdeonaaG1
namespace Go.Proofs.Ytdoaepopkdeonaa
set_option linter.unusedVariables false
set_option linter.unusedSimpArgs false
open Go.RowKit Vi Sl

set_option maxHeartbeats 800000 in
theorem check_k (seq : Nat) (h : seq ≤ 72057594037927935) (w : World) :
    Calls Try.prog 45 #[.agg #[.string ⟨#[107]⟩, .int .i64 seq, .int .i64 1]] w fun e w' => e = .returned (.int .i64 0) ∧ Below w.heap.size w w' := by
  have h2 : (seq : Int) ≤ 72057594037927935 := by omega
  go_enter Try.func45, Try.ntmps45
  go_wp2
  go_ret
  exact ⟨rfl, (Below.refl _ _).alloc (Nat.le_refl _) _⟩
theorem trailer_val (seq : Nat) (h : seq ≤ 72057594037927935) : bits .or .u64 ((seq : Int) * 256) 1 = ((seq * 256 + 1 : Nat) : Int) := by
  have e : ((seq : Int) * 256) = ((seq * 256 : Nat) : Int) := by omega
  rw [e, show ((1 : Int)) = ((1 : Nat) : Int) from rfl, bits_or_u64_nat _ _ (by omega) (by decide)]
  congr 1
  have := Nat.two_pow_add_eq_or_of_lt (i := 8) (b := 1) (by decide) seq
  rw [Nat.mul_comm] at this
  exact this.symm
set_option maxHeartbeats 800000 in
theorem trailer_k (seq : Nat) (h : seq ≤ 72057594037927935) (w : World) :
    Calls Try.prog 46 #[.agg #[.string ⟨#[107]⟩, .int .i64 seq, .int .i64 1]] w fun e w' => e = .returned (.int .u64 (seq * 256 + 1 : Nat)) ∧ Below w.heap.size w w' := by
  have h2 : (seq : Int) ≤ 72057594037927935 := by omega
  have hv := trailer_val seq h
  generalize seq * 256 + 1 = T at *
  go_enter Try.func46, Try.ntmps46
  go_wp2
  go_ret
  exact ⟨rfl, (Below.refl _ _).alloc (Nat.le_refl _) _⟩

/-- What '[]byte(s)' lays may be appended to. -/
theorem has_bytes (w : World) (s : ByteArray) (e : TypeId) (hs : s.size ≤ maxLen) (N : Nat) (hN : (bytesRow s (grownCap w s.size 0 e)).size ≤ N) :
    Has (w.drew.alloc (.cells (bytesRow s (grownCap w s.size 0 e)) e (N, N + 1))) w.heap.size 1 (.slice (some ⟨w.heap.size, 0, none⟩) s.size (grownCap w s.size 0 e)) s.size (s.data.toList.map fun b => Value.int .u8 b.toNat) := by
  have hge := grownCap_ge w s.size 0 e
  have hle := grownCap_le_maxLen w s.size 0 e hs
  generalize grownCap w s.size 0 e = cap at *
  have hh : (w.drew.alloc (.cells (bytesRow s cap) e (N, N + 1))).heap[w.heap.size]? = some (.cells (bytesRow s cap) e (N, N + 1)) := by
    show (w.heap.push _)[w.heap.size]? = _
    simp
  have hsz : (bytesRow s cap).size = cap := by
    simp only [bytesRow, Array.size_append, Array.size_map, Array.size_replicate]
    have : s.data.size = s.size := rfl
    omega
  refine ⟨by simp; first | done | rfl, .inr ⟨w.heap.size, 0, cap, rfl, Nat.le_refl _, ?_, hge, hle, fun j u hj => ?_, fun j hj => ?_⟩⟩
  · show w.heap.size < (w.heap.push _).size
    simp
  · rw [Nat.zero_add, cell_of_row _ _ _ _ _ _ hh]
    obtain ⟨hjl, hju⟩ := List.getElem?_eq_some_iff.1 hj
    have hjl' : j < s.data.size := by simpa using hjl
    simp only [bytesRow]
    rw [Array.getElem?_append_left (by simpa using hjl')]
    rw [← hju, Array.getElem?_map, Array.getElem?_eq_getElem hjl']
    simp
  · rw [Nat.zero_add, cell_of_row _ _ _ _ _ _ hh]
    have hlt : s.size * 1 + j < (bytesRow s cap).size := by rw [hsz]; omega
    refine ⟨by rw [Array.getElem?_eq_getElem hlt]; rfl, ?_⟩
    simp only [World.frozen?, hh]
    simp
    omega

theorem conv_k (w : World) : ∃ cap W, (convert 9 36 (.string ⟨#[107]⟩)).run Try.prog w = .ok (.slice (some ⟨w.heap.size, 0, none⟩) 1 cap) W ∧
    Has W w.heap.size 1 (.slice (some ⟨w.heap.size, 0, none⟩) 1 cap) 1 (byteV [107]) ∧ Below w.heap.size w W := by
  refine ⟨_, _, run_bytes_of_string (P := Try.prog) w 9 36 5 ⟨#[107]⟩ Try.underlying9 Try.underlying36 Try.underlying5, has_bytes w ⟨#[107]⟩ 5 (by decide) _ (Nat.le_refl _), ?_⟩
  exact ((Below.refl _ _).drew).alloc (Nat.le_refl _) _

set_option maxHeartbeats 1600000 in
theorem encode_k (seq : Nat) (h : seq ≤ 72057594037927935) (w : World) :
    Calls Try.prog 28 #[.agg #[.string ⟨#[107]⟩, .int .i64 seq, .int .i64 1]] w fun e w' => ∃ v, e = .returned (.tuple #[v, .int .i64 0]) ∧ Has w' w.heap.size 1 v 9 (byteV (107 :: fixL (seq * 256 + 1) 8)) ∧ Below w.heap.size w w' := by
  obtain ⟨i0, hi, hz0, hz1, hz2⟩ := info_parts Try.infoByte
  have HC := Lib.hid (check_k seq h)
  have HT := Lib.hid (trailer_k seq h)
  have hT : seq * 256 + 1 ≤ 18446744073709551615 := by omega
  generalize seq * 256 + 1 = T at *
  clear h
  go_enter Try.func28, Try.ntmps28
  go_wp2_with fail
  refine (HC.out _).mono ?_
  rintro e w1 ⟨rfl, hb1⟩
  have hbA : Below w.heap.size w w1 := ((Below.refl _ _).alloc (Nat.le_refl _) _).trans (hb1.mono (by simp))
  have hlt : w.heap.size < w1.heap.size := by have := hb1.size; simp at this; omega
  obtain ⟨cap, w2, hconv, hhas, hb2⟩ := conv_k w1
  have hbB := below_trans hbA hb2
  have c0 : w1.cell? ⟨w.heap.size, 0, none⟩ = some (.string ⟨#[107]⟩) := (hb1.cell (by simp)).trans (by simp [go_sem])
  have c1 : w1.cell? ⟨w.heap.size, 1, none⟩ = some (.int .i64 seq) := (hb1.cell (by simp)).trans (by simp [go_sem])
  have c2 : w1.cell? ⟨w.heap.size, 2, none⟩ = some (.int .i64 1) := (hb1.cell (by simp)).trans (by simp [go_sem])
  have d0 := (hb2.cell (p := ⟨w.heap.size, 0, none⟩) hlt).trans c0
  have d1 := (hb2.cell (p := ⟨w.heap.size, 1, none⟩) hlt).trans c1
  have d2 := (hb2.cell (p := ⟨w.heap.size, 2, none⟩) hlt).trans c2
  have hs2 : w.heap.size ≤ w1.heap.size := by omega
  have HH := Lib.hid (hhas.base_le hs2)
  clear hhas hb1
  go_wp2_with fail
  refine (HT.out _).mono ?_
  rintro e w3 ⟨rfl, hb3⟩
  have hbC := hbB.trans (hb3.mono hbB.size)
  have hhas3 := HH.out.below hb3 (fun g hg => (HH.out.lt g hg).2)
  have HH3 := Lib.hid hhas3
  clear c0 c1 c2 d0 d1 d2 hconv hb2 hb3 hbA hbB hhas3 HH
  go_wp2
  go_loopw [5, 7] (fun v i wr => ∃ k : Nat, k ≤ 8 ∧ i = .int .i64 k ∧ Has wr w.heap.size 1 v (1 + k) (byteV (107 :: fixL T k)) ∧ Below w.heap.size w wr)
    (fun _ i _ => 8 - (intOf i).toNat)
  case atStart => exact ⟨0, Nat.zero_le _, rfl, HH3.out, hbC⟩
  case round =>
    clear hbC
    obtain ⟨k, hk, rfl, hhas, hnx⟩ := hrel
    by_cases hlt : k < 8
    · have hd : T / 2 ^ (8 * k) ≤ T := Nat.div_le_self _ _
      have hp : (256 : Nat) ^ k = 2 ^ (8 * k) := by rw [Nat.pow_mul]
      have hsn := fixL_succ T k
      have hcast : ((T : Int) / 2 ^ (8 * k)) = ((T / 2 ^ (8 * k) : Nat) : Int) := by simp
      rw [hp] at hsn
      generalize hq : T / 2 ^ (8 * k) = q at *
      have hd2 : (q : Int) ≤ 18446744073709551615 := by omega
      have HS := Lib.hid hsn
      clear hq hsn hd hp
      go_wp2_with (first
        | (at_builtin; refine wpList_append_has _ rfl _ _ 36 rfl w.heap.size 5 i0 (.int .u8 0) 1 1 Try.underlying36 hi hz0 hz1 hz2 rfl (by decide) _ _ _ rfl (hhas.alloc _) ⟨wr.heap.size, 0, none⟩ 1 1 [.int .u8 ((q : Int) % 256)] rfl rfl ?c1 ?c2 ?c3 ?c4 ?c5 ?_))
      case c1 =>
        intro j u hj
        match j, hj with
        | 0, hj => simp at hj; subst hj; simp [Addr.add]
      case c2 => intro u hu; simp at hu; subst hu; rfl
      case c3 => unfold maxLen; omega
      case c4 => omega
      case c5 => have := hnx.size; simp; omega
      · intro v' w1' hown' hgrow
        have hB2 : Below w.heap.size w w1' := (hnx.alloc hnx.size _).grown hgrow (by have := hnx.size; simp; omega) (fun k hk => (hhas.lt k hk).1)
        have HO := Lib.hid hown'
        clear hown' hgrow hhas hnx
        go_wp2
        go_roundw
        case rel => exact ⟨k + 1, by omega, by go_num, by rw [HS.out, ← List.cons_append, byteV_snoc]; exact HO.out, hB2⟩
        case measure => simp [intOf]; omega
    · have : k = 8 := by omega
      subst this
      go_wp2
      go_ret2
      exact ⟨_, rfl, hhas, hnx⟩
end Go.Proofs.Ytdoaepopkdeonaa
