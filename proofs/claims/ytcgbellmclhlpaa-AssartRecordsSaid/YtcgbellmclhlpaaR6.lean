/-
  Records: contract of frame's take, where it takes.
-/
import Derived.Test.YtcgbellmclhlpaaR5
namespace Go.Proofs.Ytcgbellmclhlpaa
set_option linter.unusedVariables false
set_option linter.unusedSimpArgs false
open Go.RowKit Vi Sl

set_option maxRecDepth 100000 in
set_option maxHeartbeats 3200000 in
/-- A head and its bytes. -/
theorem take_full (p q n g o cap : Nat) (B : List Nat) (hp : p ≤ 1099511627776) (hq : p + padN p = q) (hmax : B.length ≤ 1099511627776) (hB : ∀ x ∈ B, x < 256) (hcap : B.length ≤ cap) (hcap2 : cap ≤ 9223372036854775807)
    (hn : at' B (q + 4) + 256 * at' B (q + 5) = n) (hfit : q + 7 + n ≤ B.length) (hblk : q % 128 + 7 + n ≤ 128) (w : World) (hs : Lies w g o (byteV B)) :
    Calls Try.prog 20 #[.slice (some ⟨g, o, none⟩) B.length cap, .int .i64 p] w fun e w' => ∃ (a : Nat) (c : Nat), e = .returned (.tuple #[.int .u8 (at' B (q + 6) : Nat), .slice (some ⟨g, a, none⟩) n c, .int .i64 (q + 7 + n : Nat), .bool (pieceB B q n)]) ∧
      (0 < n → a = o + (q + 7)) ∧ n ≤ c ∧ c ≤ 9223372036854775807 ∧ Below w.heap.size w w' := by
  have HP := Lib.hid (pad_ok p (by omega))
  have hpl : padN p ≤ 6 := by unfold padN; split <;> omega
  have hq2 : (p : Int) + padN p = q := by omega
  generalize padN p = pd at *
  have c4 := cell_at hs (q + 4) (by omega)
  have c5 := cell_at hs (q + 5) (by omega)
  have c6 := cell_at hs (q + 6) (by omega)
  have b4 := at_lt B hB (q + 4)
  have b5 := at_lt B hB (q + 5)
  have b6 := at_lt B hB (q + 6)
  have hv := len_val _ _ b4 b5
  have HPB : Hid (pieceB B q n = decide (1 ≤ at' B (q + 6) ∧ at' B (q + 6) ≤ 4 ∧ sumB ((B.drop q).take 4) = sumN (at' B (q + 6)) ((B.drop (q + 7)).take n))) := Lib.hid rfl
  have hl4 : ((B.drop q).take 4).length = 4 := by rw [List.length_take, List.length_drop]; omega
  have hln : ((B.drop (q + 7)).take n).length = n := by rw [List.length_take, List.length_drop]; omega
  have hW := Lib.hid (fun c d => whole_ok g (o + q) c ((B.drop q).take 4) (w.drewN d) (by omega) (fun z hz => hB z (List.mem_of_mem_drop (List.mem_of_mem_take hz))) (reads_of_lies (lies_part (show Lies (w.drewN d) g o (byteV B) from ⟨hs.1, hs.2⟩) q 4)))
  rw [hl4] at hW
  have hs4 := sumB_lt ((B.drop q).take 4) (fun z hz => hB z (List.mem_of_mem_drop (List.mem_of_mem_take hz)))
  rw [hl4] at hs4
  have hS := Lib.hid (fun (a c d : Nat) (h1 : 0 < n → a = o + (q + 7)) (h2 : n ≤ c) (h3 : c ≤ 9223372036854775807) => sum_ok (at' B (q + 6)) ((B.drop (q + 7)).take n) b6 (.slice (some ⟨g, a, none⟩) n c) (w.drewN d)
    ⟨fun z hz => hB z (List.mem_of_mem_drop (List.mem_of_mem_take hz)), _, c, by rw [hln], by rw [hln]; exact h2, h3, by
      by_cases h0 : 0 < n
      · exact .inr ⟨g, a, rfl, by rw [h1 h0]; exact reads_of_lies (lies_part (show Lies (w.drewN d) g o (byteV B) from ⟨hs.1, hs.2⟩) (q + 7) n)⟩
      · exact .inl (List.length_eq_zero_iff.1 (by rw [hln]; omega))⟩)
  rw [hn] at hv
  have hsl := sumN_lt (at' B (q + 6)) ((B.drop (q + 7)).take n)
  generalize hPB : pieceB B q n = pb at *
  generalize sumN (at' B (q + 6)) ((B.drop (q + 7)).take n) = T at *
  generalize sumB ((B.drop q).take 4) = S at *
  generalize at' B (q + 4) = x at *
  generalize at' B (q + 5) = y at *
  generalize at' B (q + 6) = k at *
  generalize B.length = len at *
  have HPB2 := HPB.out
  clear hPB HPB hB hs hl4 hln hn
  have x2 : (x : Int) ≤ 255 := by omega
  have y2 : (y : Int) ≤ 255 := by omega
  have k2 : (k : Int) ≤ 255 := by omega
  have n2 : n ≤ 121 := by omega
  have S2 : (S : Int) ≤ 4294967295 := by omega
  have T2 : (T : Int) ≤ 4294967295 := by omega
  have hm : (q : Int) % 128 = ((q % 128 : Nat) : Int) := by omega
  have hm2 : q % 128 + 7 + n ≤ 128 := hblk
  have hml : q % 128 < 128 := Nat.mod_lt _ (by decide)
  generalize q % 128 = m at *
  have s1 : IntKind.i64.wrap ((q : Int) + 4) = q + 4 := IntWalk.i64_in _ (by omega)
  have s2 : IntKind.i64.wrap ((q : Int) + 5) = q + 5 := IntWalk.i64_in _ (by omega)
  have s3 : (0 : Int) ≤ (q : Int) + 4 := by omega
  have s4 : (0 : Int) ≤ (q : Int) + 5 := by omega
  have s5 : ((q : Int) + 4).toNat = q + 4 := by omega
  have s6 : ((q : Int) + 5).toNat = q + 5 := by omega
  have s7 : (q : Int) + 4 < len := by omega
  have s8 : (q : Int) + 5 < len := by omega
  have s9 : IntKind.i64.wrap ((y : Int) * 256) = y * 256 := IntWalk.i64_in _ (by omega)
  have hl2 : decide ((len : Int) < q + 7) = false := by simp; omega
  have hq3 := hq2
  clear hblk b4 b5 b6 hs4 hsl hq
  go_enter Try.func20, Try.ntmps20
  go_wp2_with (go_at_call 16; refine (HP.out _).mono ?_; rintro e w' ⟨rfl, rfl⟩)
  go_quiet (fail)
  clear s1 s2 s3 s4 s5 s6 s7 s8 s9 hv c4 c5
  have r1 : IntKind.i64.wrap ((q : Int) + 7) = q + 7 := IntWalk.i64_in _ (by omega)
  have r2 : IntKind.i64.wrap ((q : Int) + 7 + n) = q + 7 + n := IntWalk.i64_in _ (by omega)
  have r3 : IntKind.i64.wrap ((q : Int) + 6) = q + 6 := IntWalk.i64_in _ (by omega)
  have r4 : (0 : Int) ≤ (q : Int) + 6 := by omega
  have r5 : ((q : Int) + 6).toNat = q + 6 := by omega
  have r6 : (q : Int) + 6 < len := by omega
  have r7 : decide ((len : Int) < q + 7 + n) = false := by simp; omega
  have r8 : ((q : Int) + 7).toNat = q + 7 := by omega
  have r9 : ((q : Int) + 7 + n).toNat = q + 7 + n := by omega
  go_wp2
  go_quiet (fail)
  obtain ⟨a, ha, hA⟩ : ∃ a, (if cap = q + 7 then some (⟨g, o, none⟩ : Addr) else some ⟨g, o + (q + 7), none⟩) = some ⟨g, a, none⟩ ∧ (0 < n → a = o + (q + 7)) := by
    by_cases hc : cap = q + 7
    · exact ⟨o, by simp [hc], fun h => by omega⟩
    · exact ⟨o + (q + 7), by simp [hc], fun _ => rfl⟩
  rw [ha]
  have hS2 := Lib.hid (fun d => hS.out a (cap - (q + 7)) d hA (by omega) (by omega))
  clear ha r3 r4 r5 r6 r7 r8 r9 r1 r2
  have t1 : IntKind.i64.wrap ((q : Int) + 4) = q + 4 := IntWalk.i64_in _ (by omega)
  have t2 : ((q : Int) + 4).toNat = q + 4 := by omega
  rcases Nat.lt_or_ge k 1 with hk1 | hk1
  · have hr : pb = false := by rw [HPB2]; simp; omega
    clear HPB2
    subst hr
    go_wp2_with (first | (go_at_call 27; refine (hW.out _ _).mono ?_; rintro e w' ⟨rfl, rfl⟩) | (go_at_call 26; refine (hS2.out _).mono ?_; rintro e w' ⟨rfl, hb⟩))
    exact bodyPost_ret (v := .tuple #[.int .u8 (k : Nat), .slice (some ⟨g, a, none⟩) n (cap - (q + 7)), .int .i64 (q + 7 + n : Nat), .bool false]) (by simp [results, Try.results20, go_sem]) rfl ⟨a, _, rfl, hA, by omega, by omega, below_drawn (Below.refl _ _) _⟩
  rcases Nat.lt_or_ge 4 k with hk4 | hk4
  · have hr : pb = false := by rw [HPB2]; simp; omega
    clear HPB2
    subst hr
    go_wp2_with (first | (go_at_call 27; refine (hW.out _ _).mono ?_; rintro e w' ⟨rfl, rfl⟩) | (go_at_call 26; refine (hS2.out _).mono ?_; rintro e w' ⟨rfl, hb⟩))
    exact bodyPost_ret (v := .tuple #[.int .u8 (k : Nat), .slice (some ⟨g, a, none⟩) n (cap - (q + 7)), .int .i64 (q + 7 + n : Nat), .bool false]) (by simp [results, Try.results20, go_sem]) rfl ⟨a, _, rfl, hA, by omega, by omega, below_drawn (Below.refl _ _) _⟩
  · have hr : pb = ((S : Int) == T) := by rw [HPB2, show ((S : Int) == T) = decide ((S : Int) = T) from rfl]; exact decide_eq_decide.2 ⟨fun h => by omega, fun h => ⟨hk1, hk4, by omega⟩⟩
    clear HPB2
    subst hr
    go_wp2_with (first | (go_at_call 27; refine (hW.out _ _).mono ?_; rintro e w' ⟨rfl, rfl⟩) | (go_at_call 26; refine (hS2.out _).mono ?_; rintro e w' ⟨rfl, hb⟩))
    exact bodyPost_ret (v := .tuple #[.int .u8 (k : Nat), .slice (some ⟨g, a, none⟩) n (cap - (q + 7)), .int .i64 (q + 7 + n : Nat), .bool ((S : Int) == T)]) (by simp [results, Try.results20, go_sem]) rfl ⟨a, _, rfl, hA, by omega, by omega, (below_drawn (Below.refl _ _) _).trans hb⟩
end Go.Proofs.Ytcgbellmclhlpaa
