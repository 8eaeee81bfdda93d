/-
  Records: contract of batch's Encode.
-/
import Derived.Test.YtcgbellmclhlpaaR13
import Derived.Deep.RegionWith
namespace Go.Proofs.Ytcgbellmclhlpaa
set_option linter.unusedVariables false
set_option linter.unusedSimpArgs false
open Go.RowKit Vi Sl

/-- A text's bytes. -/
def Text (s : ByteArray) (L : List Nat) : Prop := ∃ k, Short s.size k ∧ L = putL s.size k ++ bytesN s
/-- A change's bytes; changes' bytes. -/
def EncOp (x : OpR) (L : List Nat) : Prop := ∃ a b, Text x.key a ∧ (x.kind = 1 ∧ Text x.val b ∨ x.kind = 0 ∧ b = []) ∧ L = [x.kind.toNat] ++ a ++ b
def EncOps : List OpR → List Nat → Prop
  | [], L => L = []
  | x :: l, L => ∃ a b, EncOp x a ∧ EncOps l b ∧ L = a ++ b
theorem encOps_snoc (l : List OpR) (x : OpR) (L a : List Nat) (h : EncOps l L) (hx : EncOp x a) : EncOps (l ++ [x]) (L ++ a) := by
  induction l generalizing L with
  | nil => cases h; exact ⟨a, [], hx, rfl, by simp⟩
  | cons y l ih =>
    obtain ⟨p, q, hp, hq, rfl⟩ := h
    exact ⟨p, q ++ a, hp, ih q hq, by simp⟩
/-- Encode's bytes. -/
def Enc (seq : Nat) (l : List OpR) (L : List Nat) : Prop := ∃ a, EncOps l a ∧ L = fixL seq 8 ++ fixL l.length 4 ++ a
theorem text_len (s : ByteArray) (L : List Nat) (h : Text s L) : 1 ≤ L.length ∧ L.length ≤ 10 + s.size := by
  obtain ⟨k, hk, rfl⟩ := h
  have := hk.1
  rw [List.length_append, putL_len, bytesN_len]; omega
theorem text_lt (s : ByteArray) (L : List Nat) (h : Text s L) : ∀ x ∈ L, x < 256 := by
  obtain ⟨k, hk, rfl⟩ := h
  intro x hx
  rcases List.mem_append.1 hx with h | h
  · exact putL_lt _ _ hk.2.1 x h
  · exact bytesN_lt s x h
end Go.Proofs.Ytcgbellmclhlpaa
