/-
  Records: plain laws: what Scan tells of records one behind the other, cut, the last byte another one.
-/
import Derived.Test.YtcgbellmclhlpaaR8
namespace Go.Proofs.Ytcgbellmclhlpaa
set_option linter.unusedVariables false
set_option linter.unusedSimpArgs false
open Vi Sl

/-- The bytes are these, from a place on, but for the last one where it is spoiled. -/
def Like (B : List Nat) (q : Nat) (P : List Nat) (sp : Bool) : Prop :=
  ∀ j, j < P.length → q + j < B.length → (sp = true → q + j + 1 = B.length → at' B (q + j) ≠ at' P j) ∧ (¬ (sp = true ∧ q + j + 1 = B.length) → at' B (q + j) = at' P j)
theorem like_tail {B : List Nat} {q : Nat} {P Q : List Nat} {sp : Bool} (h : Like B q (P ++ Q) sp) : Like B (q + P.length) Q sp := by
  intro j hj hb
  have := h (P.length + j) (by rw [List.length_append]; omega) (by omega)
  have e : at' (P ++ Q) (P.length + j) = at' Q j := by simp [at', List.getElem?_append_right]
  rw [e, ← Nat.add_assoc] at this
  exact this
theorem like_head {B : List Nat} {q : Nat} {P Q : List Nat} {sp : Bool} (h : Like B q (P ++ Q) sp) : Like B q P sp := by
  intro j hj hb
  have := h j (by rw [List.length_append]; omega) hb
  have e : at' (P ++ Q) j = at' P j := by simp [at', List.getElem?_append_left hj]
  rw [e] at this
  exact this
theorem at_append_right (P Q : List Nat) (j : Nat) (k : Nat) (h : k = P.length + j) : at' (P ++ Q) k = at' Q j := by subst h; simp [at', List.getElem?_append_right]
theorem at_append_left (P Q : List Nat) (j : Nat) (h : j < P.length) : at' (P ++ Q) j = at' P j := by simp [at', List.getElem?_append_left h]
theorem part_eq (B P : List Nat) (q k n : Nat) (hq : q + k + n ≤ B.length) (hp : k + n ≤ P.length) (h : ∀ j, j < n → at' B (q + k + j) = at' P (k + j)) : (B.drop (q + k)).take n = (P.drop k).take n := by
  apply List.ext_getElem
  · simp only [List.length_take, List.length_drop]; omega
  · intro i h1 h2
    simp only [List.length_take, List.length_drop] at h1 h2
    have := h i (by omega)
    unfold at' at this
    simp only [List.getElem_take, List.getElem_drop]
    rw [List.getD_eq_getElem?_getD, List.getD_eq_getElem?_getD, List.getElem?_eq_getElem (by omega), List.getElem?_eq_getElem (by omega)] at this
    simpa using this
theorem fix2 (n : Nat) (h : n < 65536) : at' (fixL n 2) 0 + 256 * at' (fixL n 2) 1 = n := by
  have e : fixL n 2 = [n / 256 ^ 0 % 256, n / 256 ^ 1 % 256] := by simp [fixL, List.range_succ]
  rw [e]
  simp [at']
  omega
theorem piece_split (k : Nat) (l : List Nat) : pieceL k l = fixL (sumN k l) 4 ++ (fixL l.length 2 ++ ([k] ++ l)) := by simp [pieceL]
theorem piece_at4 (k : Nat) (l : List Nat) : at' (pieceL k l) 4 = at' (fixL l.length 2) 0 := by
  rw [piece_split, at_append_right _ _ 0 4 (by rw [fixL_len]), at_append_left _ _ 0 (by rw [fixL_len]; decide)]
theorem piece_at5 (k : Nat) (l : List Nat) : at' (pieceL k l) 5 = at' (fixL l.length 2) 1 := by
  rw [piece_split, at_append_right _ _ 1 5 (by rw [fixL_len]), at_append_left _ _ 1 (by rw [fixL_len]; decide)]
theorem piece_at6 (k : Nat) (l : List Nat) : at' (pieceL k l) 6 = k := by
  rw [piece_split, at_append_right _ _ 2 6 (by rw [fixL_len]), at_append_right _ _ 0 2 (by rw [fixL_len])]; rfl
theorem piece_head (k : Nat) (l : List Nat) : ((pieceL k l).drop 0).take 4 = fixL (sumN k l) 4 := by
  rw [piece_split, List.drop_zero, List.take_append_of_le_length (by rw [fixL_len]; exact Nat.le_refl _), List.take_of_length_le (by rw [fixL_len]; exact Nat.le_refl _)]
theorem piece_tail (k : Nat) (l : List Nat) : (pieceL k l).drop 7 = l := by
  have e : pieceL k l = (fixL (sumN k l) 4 ++ fixL l.length 2 ++ [k]) ++ l := rfl
  rw [e, List.drop_append_of_le_length (by simp [fixL_len]), List.drop_of_length_le (by simp [fixL_len])]
  rfl
theorem kind_bd (b e : Bool) : 1 ≤ kindN b e ∧ kindN b e ≤ 4 := by cases b <;> cases e <;> decide
theorem pad_zero (q : Nat) (h : 7 ≤ 128 - q % 128) : padN q = 0 := by unfold padN; rw [if_neg (by omega)]
theorem room_val (q : Nat) (h : 7 ≤ 128 - q % 128) : roomN q = 128 - q % 128 - 7 := by unfold roomN; rw [if_pos h]
theorem more_nil' (s : Nat) (h : s < 2 ^ 32) : moreN s [] = s := by
  unfold moreN regsN
  simp only [List.foldl_nil]
  rw [← Nat.xor_assoc, Nat.xor_self, Nat.zero_xor]

/-- A piece that is there whole is taken. -/
theorem take_whole (B : List Nat) (q k : Nat) (l : List Nat) (hq : 7 ≤ 128 - q % 128) (hk : 1 ≤ k ∧ k ≤ 4) (hl : l.length ≤ roomN q) (hB : q + (7 + l.length) ≤ B.length) (h : ∀ j, j < 7 + l.length → at' B (q + j) = at' (pieceL k l) j) :
    takeN B q = some (k, q + 7, l.length) ∧ (B.drop (q + 7)).take l.length = l := by
  have hr := room_val q hq
  have hp := pad_zero q hq
  have hlen := pieceL_len k l
  have h4 := h 4 (by omega)
  have h5 := h 5 (by omega)
  have h6 := h 6 (by omega)
  rw [piece_at4] at h4
  rw [piece_at5] at h5
  rw [piece_at6] at h6
  have hn : at' B (q + 4) + 256 * at' B (q + 5) = l.length := by rw [h4, h5]; exact fix2 _ (by omega)
  have hpart : (B.drop (q + 7)).take l.length = l := by
    have := part_eq B (pieceL k l) q 7 l.length (by omega) (by omega) (fun j hj => by rw [Nat.add_assoc]; exact h (7 + j) (by omega))
    rw [this, piece_tail]
    exact List.take_of_length_le (Nat.le_refl _)
  have hsum : (B.drop q).take 4 = fixL (sumN k l) 4 := by
    have := part_eq B (pieceL k l) q 0 4 (by omega) (by omega) (fun j hj => by rw [Nat.add_zero, Nat.zero_add]; exact h j (by omega))
    rw [Nat.add_zero] at this
    rw [this, piece_head]
  have hpb : pieceB B q l.length = true := by
    unfold pieceB
    rw [h6, hpart, hsum, sumB_fix]
    refine decide_eq_true ⟨hk.1, hk.2, ?_⟩
    exact Nat.mod_eq_of_lt (sumN_lt k l)
  refine ⟨?_, hpart⟩
  unfold takeN
  simp only [hp, Nat.add_zero]
  rw [hn, if_neg (by omega), if_neg (by omega), if_neg (by omega), if_pos hpb, h6]
/-- A piece that is cut, or whose last byte is another one, isn't. -/
theorem take_broken (B : List Nat) (q k : Nat) (l : List Nat) (sp : Bool) (hBb : ∀ x ∈ B, x < 256) (hlb : ∀ x ∈ l, x < 256) (hq : 7 ≤ 128 - q % 128) (hk : 1 ≤ k ∧ k ≤ 4) (hl : l.length ≤ roomN q) (h : Like B q (pieceL k l) sp)
    (hB : B.length < q + (7 + l.length) ∨ B.length = q + (7 + l.length) ∧ sp = true) : takeN B q = none := by
  have hr := room_val q hq
  have hp := pad_zero q hq
  have hlen := pieceL_len k l
  unfold takeN
  simp only [hp, Nat.add_zero]
  by_cases h7 : B.length < q + 7
  · rw [if_pos h7]
  rw [if_neg h7]
  have h4 := (h 4 (by omega) (by omega)).2 (by omega)
  have h5 := (h 5 (by omega) (by omega)).2 (by omega)
  rw [piece_at4] at h4
  rw [piece_at5] at h5
  have hn : at' B (q + 4) + 256 * at' B (q + 5) = l.length := by rw [h4, h5]; exact fix2 _ (by omega)
  rw [hn, if_neg (by omega)]
  by_cases h8 : B.length < q + 7 + l.length
  · rw [if_pos h8]
  rw [if_neg h8]
  have hBe : B.length = q + (7 + l.length) := by omega
  have hsp : sp = true := by rcases hB with h9 | h9; omega; exact h9.2
  have hpb : ¬ pieceB B q l.length = true := by
    intro hpb
    unfold pieceB at hpb
    obtain ⟨k1, k4, hs⟩ := of_decide_eq_true hpb
    have hsum : (B.drop q).take 4 = fixL (sumN k l) 4 := by
      have := part_eq B (pieceL k l) q 0 4 (by omega) (by omega) (fun j hj => by rw [Nat.add_zero, Nat.zero_add]; exact (h j (by omega) (by omega)).2 (by omega))
      rw [Nat.add_zero] at this
      rw [this, piece_head]
    rw [hsum, sumB_fix, show (256 : Nat) ^ 4 = 2 ^ 32 from rfl, Nat.mod_eq_of_lt (sumN_lt k l)] at hs
    have hkb : at' B (q + 6) < 256 := at_lt B hBb _
    have hm : ∀ x, x < 256 → moreN 0 [x] < 2 ^ 32 := fun x hx => moreN_lt 0 [x] (by decide) (by simpa using hx)
    rcases Nat.eq_zero_or_pos l.length with h0 | h0
    · have hl0 : l = [] := List.length_eq_zero_iff.1 h0
      subst hl0
      have h6 := (h 6 (by omega) (by omega)).1 hsp (by simp at hBe; omega)
      rw [piece_at6] at h6
      simp only [List.length_nil, List.take_zero] at hs
      unfold sumN at hs
      have e := mask_inj _ _ (moreN_lt _ _ (hm k (by omega)) (by simp)) (moreN_lt _ _ (hm _ hkb) (by simp)) hs
      rw [more_nil' _ (hm k (by omega)), more_nil' _ (hm _ hkb)] at e
      have := more_last 0 [] k (at' B (q + 6)) (by decide) (by simp) (by omega) hkb (by simpa using e)
      exact h6 this.symm
    · have h6 := (h 6 (by omega) (by omega)).2 (by omega)
      rw [piece_at6] at h6
      rw [h6] at hs
      -- the bytes but the last
      have hne : l ≠ [] := fun e => by rw [e] at h0; simp at h0
      obtain ⟨m, x, hmx⟩ : ∃ m x, l = m ++ [x] := ⟨l.dropLast, l.getLast hne, (List.dropLast_concat_getLast hne).symm⟩
      have hml : l.length = m.length + 1 := by rw [hmx]; simp
      have hfirst : (B.drop (q + 7)).take m.length = m := by
        have := part_eq B (pieceL k l) q 7 m.length (by omega) (by omega) (fun j hj => by rw [Nat.add_assoc]; exact (h (7 + j) (by omega) (by omega)).2 (by omega))
        rw [this, piece_tail, hmx, List.take_append_of_le_length (Nat.le_refl _), List.take_of_length_le (Nat.le_refl _)]
      have hlast := (h (7 + m.length) (by omega) (by omega)).1 hsp (by omega)
      have hpx : at' (pieceL k l) (7 + m.length) = x := by
        have e : pieceL k l = (fixL (sumN k l) 4 ++ fixL l.length 2 ++ [k]) ++ l := rfl
        rw [e, at_append_right _ _ m.length (7 + m.length) (by simp [fixL_len]), hmx, at_append_right _ _ 0 m.length (by omega)]
        rfl
      rw [hpx] at hlast
      have hdl : q + 7 + m.length < B.length := by omega
      have hall : (B.drop (q + 7)).take l.length = m ++ [at' B (q + (7 + m.length))] := by
        have hdm : m.length < (B.drop (q + 7)).length := by rw [List.length_drop]; omega
        have hg : (B.drop (q + 7))[m.length] = at' B (q + (7 + m.length)) := by
          rw [List.getElem_drop]
          unfold at'
          rw [List.getD_eq_getElem?_getD, List.getElem?_eq_getElem (by omega)]
          simp only [Nat.add_assoc, Option.getD_some]
        rw [hml, List.take_succ_eq_append_getElem hdm, hfirst, hg]
      rw [hall] at hs
      unfold sumN at hs
      have hmb : ∀ z ∈ m, z < 256 := fun z hz => hlb z (by rw [hmx]; simp [hz])
      have hyb := at_lt B hBb (q + (7 + m.length))
      have e := mask_inj _ _ (moreN_lt _ _ (hm k (by omega)) hlb) (moreN_lt _ _ (hm k (by omega)) (fun z hz => by
        rcases List.mem_append.1 hz with hz | hz
        · exact hmb z hz
        · simp at hz; rw [hz]; exact hyb)) hs
      have e2 : ∀ s, moreN s l = moreN s (m ++ [x]) := fun s => by rw [← hmx]
      have e3 := (e2 _).symm.trans e
      have hm0 := hm k (by omega)
      generalize moreN 0 [k] = S0 at hm0 e3
      have := more_last S0 m x (at' B (q + (7 + m.length))) hm0 hmb (hlb x (by rw [hmx]; simp)) hyb e3
      exact hlast this.symm
  rw [if_neg hpb]
end Go.Proofs.Ytcgbellmclhlpaa
