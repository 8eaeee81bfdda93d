/-
  Numbers as bytes: contracts of Fixed and Whole of package varint.
-/
import Derived.Test.YtcgbellmclhlpaaRows
import Derived.WalkKit
import Derived.WalkSpells
import Derived.WalkLawsBesides
import Derived.RowKit3
import Derived.Lib.Hide
import Derived.Deep.QuietTactic
import Derived.BigQuiet
namespace Go.Proofs.Ytcgbellmclhlpaa.Vi
set_option linter.unusedVariables false
set_option linter.unusedSimpArgs false
open Go.RowKit

theorem below_trans {w a b : World} (h : Below w.heap.size w a) (k : Below a.heap.size a b) : Below w.heap.size w b := h.trans (k.mono h.size)
theorem below_of_eq {w w' : World} (h : w = w') : Below w.heap.size w w' := h ▸ Below.refl _ _

/-- Bytes as values. -/
def byteV (l : List Nat) : List Value := l.map fun (x : Nat) => Value.int .u8 (x : Int)
theorem byteV_snoc (l : List Nat) (x : Nat) : byteV (l ++ [x]) = byteV l ++ [Value.int .u8 (x : Int)] := by simp [byteV]
theorem byteV_len (l : List Nat) : (byteV l).length = l.length := by simp [byteV]
def Owns (B : Nat) (w : World) (v : Value) (l : List Nat) : Prop := w.ownsRow B 5 1 v l.length (byteV l)
/-- These bytes lie there. -/
def ReadsB (w : World) (g off : Nat) (l : List Nat) : Prop := g < w.heap.size ∧ ∀ j, j < l.length → w.cell? ⟨g, off + j, none⟩ = some (.int .u8 ((l.getD j 0 : Nat) : Int))
theorem ReadsB.mono {w w' : World} {g off : Nat} {l : List Nat} {B : Nat} (h : ReadsB w g off l) (hb : Below B w w') (hg : g < B) : ReadsB w' g off l :=
  ⟨Nat.lt_of_lt_of_le h.1 hb.size, fun j hj => (hb.cell (by exact hg)).trans (h.2 j hj)⟩
theorem Owns.parts {B : Nat} {w : World} {v : Value} {l : List Nat} (h : Owns B w v l) (hne : 0 < l.length) :
    ∃ g cap, v = .slice (some ⟨g, 0, none⟩) l.length cap ∧ B ≤ g ∧ l.length ≤ cap ∧ cap ≤ maxLen ∧ ReadsB w g 0 l := by
  have h' := h
  rcases h.2 with ⟨rfl, h0⟩ | ⟨g, cap, cur, rfl, hB, hh, hle, hm, hs, ht⟩
  · omega
  · refine ⟨g, cap, rfl, hB, hle, hm, (Array.getElem?_eq_some_iff.1 hh).1, fun j hj => ?_⟩
    rw [Nat.zero_add, World.ownsRow.cellAt h' j (by omega)]
    simp [byteV, hj]

theorem Try.infoByte : (Try.prog.info? 5).map (fun i => (i.zero, i.size, i.bytes)) = some (some (.int .u8 0), 1, 1) := by kernel_rfl

/-- The lowest bytes of a number. -/
def fixL (n k : Nat) : List Nat := (List.range k).map fun i => n / 256 ^ i % 256
theorem fixL_len (n k : Nat) : (fixL n k).length = k := by simp [fixL]
theorem fixL_succ (n k : Nat) : fixL n (k + 1) = fixL n k ++ [n / 256 ^ k % 256] := by simp [fixL, List.range_succ]

set_option maxHeartbeats 800000 in
theorem fixed_ok (n size : Nat) (hn : n ≤ 18446744073709551615) (hs : size ≤ 8) (hfit : size < 8 → n < 256 ^ size) (w : World) :
    Calls Try.prog 14 #[.int .u64 n, .int .i64 size] w fun e w' => ∃ v, e = .returned (.tuple #[v, .int .i64 0]) ∧ Owns w.heap.size w' v (fixL n size) ∧ Below w.heap.size w w' := by
  obtain ⟨i0, hi, hz0, hz1, hz2⟩ := info_parts Try.infoByte
  have hdec : (size : Int) < 8 ∧ (n : Int) / 2 ^ (8 * size) = 0 ∨ decide ((size : Int) < 8) = false := by
    by_cases h : size < 8
    · refine .inl ⟨by omega, ?_⟩
      have hc : ((2 : Int) ^ (8 * size)) = ((2 ^ (8 * size) : Nat) : Int) := by simp
      have he : (2 : Nat) ^ (8 * size) = 256 ^ size := by rw [Nat.pow_mul]
      rw [hc, ← Int.natCast_ediv, he, Nat.div_eq_of_lt (hfit h)]; rfl
    · exact .inr (by simp; omega)
  clear hfit
  rcases hdec with ⟨hd1, hzero⟩ | hd1
  all_goals
    go_enter Try.func14, Try.ntmps14
    go_wp2
    go_loopw [0, 6, 25] (fun t v i wr => ∃ k : Nat, k ≤ size ∧ i = .int .i64 k ∧ t = .int .u64 ((n / 256 ^ k : Nat) : Int) ∧ wr.ownsRow w.heap.size 5 1 v k (byteV (fixL n k)) ∧ Below w.heap.size w wr)
      (fun _ _ i _ => size - (intOf i).toNat)
    case atStart => exact ⟨0, Nat.zero_le _, rfl, by simp, World.ownsRow_nil _ _ _ _, Below.refl _ _⟩
    case round =>
      try clear hzero
      obtain ⟨k, hk, rfl, rfl, hown, hnx⟩ := hrel
      by_cases hlt : k < size
      · have hd : n / 256 ^ k ≤ n := Nat.div_le_self _ _
        have hnext : n / 256 ^ (k + 1) = n / 256 ^ k / 256 := by rw [Nat.pow_succ, Nat.div_div_eq_div_mul]
        have hsn := fixL_succ n k
        generalize hq : n / 256 ^ k = q at *
        have hd2 : (q : Int) ≤ 18446744073709551615 := by omega
        have HN := Lib.hid hnext
        have HS := Lib.hid hsn
        clear hq hnext hsn hd
        go_wp2_with (first
          | (at_builtin; refine wpList_append_own _ rfl _ _ 27 rfl w.heap.size 5 i0 (.int .u8 0) 1 1 Try.underlying27 hi hz0 hz1 hz2 rfl (by decide) _ _ _ rfl (hown.alloc _) ⟨wr.heap.size, 0, none⟩ 1 1 [.int .u8 ((q : Int) % 256)] rfl rfl ?c1 ?c2 ?c3 ?c4 ?c5 ?_))
        case c1 =>
          intro j u hj
          match j, hj with
          | 0, hj => simp at hj; subst hj; simp [Addr.add]
        case c2 => intro u hu; simp at hu; subst hu; rfl
        case c3 => unfold maxLen; omega
        case c4 => omega
        case c5 => have := hnx.size; simp; omega
        · intro v' w1 hown' hgrow _
          have hB2 : Below w.heap.size w w1 := (hnx.alloc hnx.size _).grown hgrow (by have := hnx.size; simp; omega) (fun k hk => (hown.lt k hk).1)
          have HO := Lib.hid hown'
          clear hown' hgrow hown hnx
          go_wp2
          go_roundw
          case rel => exact ⟨k + 1, by omega, by go_num, by rw [HN.out]; go_num, by rw [HS.out, byteV_snoc]; exact HO.out, hB2⟩
          case measure => simp [intOf]; omega
      · have : k = size := by omega
        subst this
        go_wp2
        go_ret2
        exact ⟨_, rfl, by unfold Owns; rw [fixL_len]; exact hown, hnx⟩

/-- The number of bytes. -/
def sumB : List Nat → Nat
  | [] => 0
  | b :: l => b + 256 * sumB l
theorem sumB_fix (n k : Nat) : sumB (fixL n k) = n % 256 ^ k := by
  induction k generalizing n with
  | zero => simp [fixL, sumB, Nat.mod_one]
  | succ k ih =>
    have e : fixL n (k + 1) = n % 256 :: fixL (n / 256) k := by
      simp only [fixL, List.range_succ_eq_map, List.map_cons, List.map_map, Nat.pow_zero, Nat.div_one]
      congr 1
      apply List.map_congr_left
      intro i _
      simp only [Function.comp, Nat.pow_succ']
      rw [Nat.div_div_eq_div_mul]
    rw [e, sumB, ih, Nat.pow_succ', Nat.mod_mul]
theorem sumB_lt (l : List Nat) (h : ∀ x ∈ l, x < 256) : sumB l < 256 ^ l.length := by
  induction l with
  | nil => simp [sumB]
  | cons b l ih =>
    have h1 := h b (by simp)
    have h2 := ih (fun x hx => h x (by simp [hx]))
    simp only [sumB, List.length_cons, Nat.pow_succ]
    omega
theorem sumB_snoc (l : List Nat) (x : Nat) : sumB (l ++ [x]) = sumB l + x * 256 ^ l.length := by
  induction l with
  | nil => simp [sumB]
  | cons b l ih =>
    simp only [List.cons_append, sumB, ih, List.length_cons, Nat.pow_succ, Nat.mul_add]
    have : x * (256 ^ l.length * 256) = 256 * (x * 256 ^ l.length) := by rw [← Nat.mul_assoc, Nat.mul_comm]
    omega
theorem take_step (l : List Nat) (k : Nat) (hk : k < l.length) : l.take (k + 1) = l.take k ++ [l.getD k 0] := by
  rw [List.take_succ_eq_append_getElem hk]; simp [hk]
theorem whole_step (l : List Nat) (k : Nat) (hl : l.length ≤ 8) (hb : ∀ x ∈ l, x < 256) (hk : k < l.length) :
    bits .or .u64 ((sumB (l.take k) : Nat) : Int) (IntKind.u64.wrap (((l.getD k 0 : Nat) : Int) * 2 ^ (8 * k))) = ((sumB (l.take (k + 1)) : Nat) : Int) := by
  have hx : l.getD k 0 < 256 := by
    have : l.getD k 0 = l[k] := by simp [hk]
    rw [this]; exact hb _ (List.getElem_mem hk)
  have hlt := sumB_lt (l.take k) (fun x hx => hb x (List.mem_of_mem_take hx))
  rw [List.length_take, Nat.min_eq_left (Nat.le_of_lt hk)] at hlt
  have hp : (256 : Nat) ^ k = 2 ^ (8 * k) := by rw [Nat.pow_mul]
  have hc : ((2 : Int) ^ (8 * k)) = ((2 ^ (8 * k) : Nat) : Int) := by simp
  have hm : l.getD k 0 * 2 ^ (8 * k) < 2 ^ 64 := by
    have : 2 ^ (8 * k) ≤ 2 ^ 56 := Nat.pow_le_pow_right (by decide) (by omega)
    calc l.getD k 0 * 2 ^ (8 * k) ≤ 255 * 2 ^ 56 := Nat.mul_le_mul (by omega) this
      _ < 2 ^ 64 := by decide
  have h56 : 2 ^ (8 * k) ≤ 2 ^ 56 := Nat.pow_le_pow_right (by decide) (by omega)
  rw [hp] at hlt
  rw [hc, ← Int.natCast_mul, IntKind.wrap_u64]
  have e1 : ((l.getD k 0 * 2 ^ (8 * k) : Nat) : Int) % 18446744073709551616 = ((l.getD k 0 * 2 ^ (8 * k) : Nat) : Int) := by omega
  rw [e1, bits_or_u64_nat _ _ (by omega) (by omega), take_step l k hk, sumB_snoc, List.length_take, Nat.min_eq_left (Nat.le_of_lt hk), hp]
  congr 1
  rw [Nat.or_comm, Nat.mul_comm, ← Nat.two_pow_add_eq_or_of_lt hlt, Nat.add_comm, Nat.mul_comm]

set_option maxHeartbeats 800000 in
theorem whole_ok (g off cap : Nat) (l : List Nat) (w : World) (hl : l.length ≤ 8) (hb : ∀ x ∈ l, x < 256) (hr : ReadsB w g off l) :
    Calls Try.prog 27 #[.slice (some ⟨g, off, none⟩) l.length cap] w fun e w' => e = .returned (.tuple #[.int .u64 (sumB l : Nat), .int .i64 0]) ∧ w = w' := by
  obtain ⟨hg, hc⟩ := hr
  obtain ⟨len, hlen⟩ : ∃ len, l.length = len := ⟨_, rfl⟩
  have HST := Lib.hid (fun k hk => whole_step l k hl hb hk)
  have HX : Hid (∀ k, k < l.length → l.getD k 0 < 256) := Lib.hid (fun k hk => by
    have : l.getD k 0 = l[k] := by simp [hk]
    rw [this]; exact hb _ (List.getElem_mem hk))
  have HF : Hid (l.take len = l) := Lib.hid (List.take_of_length_le (by omega))
  rw [hlen] at hc hl HST HX ⊢
  have HC := Lib.hid hc
  clear hc hlen hb
  go_enter Try.func27, Try.ntmps27
  go_wp2
  go_loop [4, 12] (fun t i => ∃ k : Nat, k ≤ len ∧ i = .int .i64 k ∧ t = .int .u64 (sumB (l.take k) : Nat)) (fun _ i => len - (intOf i).toNat)
  case atStart => exact ⟨0, Nat.zero_le _, rfl, by simp [sumB]⟩
  case round =>
    obtain ⟨k, hk, rfl, rfl⟩ := hrel
    by_cases hlt : k < len
    · have hcell := HC.out k hlt
      have hst := HST.out k hlt
      have hx := HX.out k hlt
      generalize hs : sumB (l.take (k + 1)) = s' at *
      generalize sumB (l.take k) = s at *
      generalize l.getD k 0 = x at *
      have HSS := Lib.hid hs
      have hx2 : (x : Int) ≤ 255 := by omega
      clear hs hx
      go_wp2
      go_round
      case rel => exact ⟨k + 1, by omega, by go_num, by rw [HSS.out]⟩
      case measure => simp [intOf]; omega
    · have : k = len := by omega
      subst this
      rw [HF.out]
      go_wp2
      go_ret2
      exact ⟨rfl, rfl⟩
end Go.Proofs.Ytcgbellmclhlpaa.Vi
