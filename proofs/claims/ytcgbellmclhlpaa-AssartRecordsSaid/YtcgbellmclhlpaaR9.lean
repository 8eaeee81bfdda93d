/-
  Records: contract of varint's PutText.
-/
import Derived.Test.YtcgbellmclhlpaaR8
import Derived.Lib.AppendStr
namespace Go.Proofs.Ytcgbellmclhlpaa
set_option linter.unusedVariables false
set_option linter.unusedSimpArgs false
open Go.RowKit Vi Sl

/-- A string's bytes. -/
def bytesN (s : ByteArray) : List Nat := s.data.toList.map UInt8.toNat
theorem bytesN_len (s : ByteArray) : (bytesN s).length = s.size := by
  rw [bytesN, List.length_map, Array.length_toList]; rfl
theorem bytesN_lt (s : ByteArray) : ∀ x ∈ bytesN s, x < 256 := by
  intro x hx
  simp only [bytesN, List.mem_map] at hx
  obtain ⟨b, _, rfl⟩ := hx
  exact b.toNat_lt
theorem strCells_byteV (s : ByteArray) : Lib.strCells s = byteV (bytesN s) := by
  simp [Lib.strCells, byteV, bytesN]
theorem strV_bytesN (s : ByteArray) : strV (bytesN s) = .string s := by
  unfold strV bytesN
  rw [List.map_map]
  have : (UInt8.ofNat ∘ UInt8.toNat) = id := by funext b; simp
  rw [this, List.map_id]

set_option maxHeartbeats 800000 in
theorem putText_ok (s : ByteArray) (hs : s.size ≤ 1099511627776) (w : World) :
    Calls Try.prog 15 #[.string s] w fun e w' => ∃ v k, e = .returned v ∧ Short s.size k ∧ Owns w.heap.size w' v (putL s.size k ++ bytesN s) ∧ Below w.heap.size w w' := by
  obtain ⟨i0, hi, hz0, hz1, hz2⟩ := info_parts Try.infoByte
  have HP := Lib.hid (put_ok s.size (by omega))
  go_enter Try.func15, Try.ntmps15
  go_wp2_with fail
  refine (HP.out _).mono ?_
  rintro e w1 ⟨v, k, rfl, hsh, hown, hb⟩
  have hbs := hb.size
  have HO := Lib.hid hown
  have HB := Lib.hid hb
  have HSH := Lib.hid hsh
  have hl := putL_len s.size k
  have hk9 := hsh.1
  clear hown hb hsh
  go_wp2_with (first
    | (at_builtin; refine Lib.wpList_append_own_string _ rfl (.tmp 6) (.tmp 7) 27 9 rfl w.heap.size 5 i0 Try.underlying27 Try.underlying9 hi hz0 hz1 hz2 v _ _ rfl HO.out s rfl ?a1 ?a2 ?a3 ?_))
  case a1 => rw [hl]; unfold maxLen; omega
  case a2 => rw [hl]; omega
  case a3 => exact hbs
  intro v' w' hown' hgr' hnil
  go_wp2
  go_ret
  refine ⟨v', k, rfl, HSH.out, ?_, HB.out.grown hgr' hbs (fun g hg => (HO.out.lt g hg).1)⟩
  unfold Owns
  rw [List.length_append, bytesN_len, byteV_append, ← strCells_byteV, hl]
  exact hown'
end Go.Proofs.Ytcgbellmclhlpaa
