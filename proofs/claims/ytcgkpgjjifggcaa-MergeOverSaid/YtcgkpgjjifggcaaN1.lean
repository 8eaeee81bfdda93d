/-
  Merge: cells as values; the order of versions: contracts of Less of package ikey, and of the document's.
-/
import Derived.Test.YtcgkpgjjifggcaaRows
import Derived.Test.YtcgkpgjjifggcaaM3
import Derived.WalkKit
import Derived.WalkSpells
import Derived.WalkLawsBesides
import Derived.RowKit3
import Derived.Lib.Hide
import Derived.Lib.Bytealg
import Derived.Deep.QuietTactic
import Derived.BigQuiet
namespace Go.Proofs.Ytcgkpgjjifggcaa
set_option linter.unusedVariables false
set_option linter.unusedSimpArgs false
open Go.RowKit

/-- A version; a cell. -/
structure VerR where
  key : ByteArray
  seq : Int
  kind : Int
  deriving DecidableEq
structure CellR where
  ver : VerR
  val : ByteArray
  deriving DecidableEq
def bl (a b : ByteArray) : Bool := Op.bytesLess a.toList b.toList
def verLt (a b : VerR) : Bool := bl a.key b.key || (decide (a.key = b.key) && (decide (b.seq < a.seq) || (decide (a.seq = b.seq) && decide (b.kind < a.kind))))
theorem ofList_inj (a b : ByteArray) (h : a.toList = b.toList) : a = b := by
  rw [Lib.toList_data, Lib.toList_data] at h
  cases a; cases b
  simp at h
  subst h; rfl
theorem less_irr (x : List UInt8) : Op.bytesLess x x = false := by
  induction x with
  | nil => simp [Op.bytesLess]
  | cons a x ih => simp [Op.bytesLess, ih]
theorem less_trans : ∀ x y z : List UInt8, Op.bytesLess x y = true → Op.bytesLess y z = true → Op.bytesLess x z = true
  | [], [], _, h, _ => by simp [Op.bytesLess] at h
  | [], _ :: _, [], _, h => by simp [Op.bytesLess] at h
  | [], _ :: _, _ :: _, _, _ => by simp [Op.bytesLess]
  | _ :: _, [], _, h, _ => by simp [Op.bytesLess] at h
  | _ :: _, _ :: _, [], _, h => by simp [Op.bytesLess] at h
  | a :: x, b :: y, c :: z, h, h2 => by
    simp only [Op.bytesLess, Bool.or_eq_true, Bool.and_eq_true, decide_eq_true_eq, beq_iff_eq] at *
    rcases h with h | ⟨rfl, h⟩
    · rcases h2 with h2 | ⟨rfl, h2⟩
      · exact .inl (UInt8.lt_trans h h2)
      · exact .inl h
    · rcases h2 with h2 | ⟨rfl, h2⟩
      · exact .inl h2
      · exact .inr ⟨rfl, less_trans x y z h h2⟩
theorem less_tri : ∀ x y : List UInt8, Op.bytesLess x y = true ∨ x = y ∨ Op.bytesLess y x = true
  | [], [] => .inr (.inl rfl)
  | [], _ :: _ => .inl (by simp [Op.bytesLess])
  | _ :: _, [] => .inr (.inr (by simp [Op.bytesLess]))
  | a :: x, b :: y => by
    simp only [Op.bytesLess, Bool.or_eq_true, Bool.and_eq_true, decide_eq_true_eq, beq_iff_eq]
    by_cases h : a < b
    · exact .inl (.inl h)
    · by_cases h2 : b < a
      · exact .inr (.inr (.inl h2))
      · have : a = b := UInt8.le_antisymm (UInt8.not_lt.1 h2) (UInt8.not_lt.1 h)
        subst this
        rcases less_tri x y with h3 | rfl | h3
        · exact .inl (.inr ⟨rfl, h3⟩)
        · exact .inr (.inl rfl)
        · exact .inr (.inr (.inr ⟨rfl, h3⟩))
theorem bl_irr (a : ByteArray) : bl a a = false := less_irr _
theorem bl_tri (a b : ByteArray) : bl a b = true ∨ a = b ∨ bl b a = true := by
  rcases less_tri a.toList b.toList with h | h | h
  · exact .inl h
  · exact .inr (.inl (ofList_inj _ _ h))
  · exact .inr (.inr h)
theorem bl_ord : Pl.Ord bl := ⟨bl_irr, fun a b c => less_trans _ _ _, bl_tri⟩
theorem verLt_ord : Pl.Ord verLt := by
  refine ⟨fun a => by simp [verLt, bl_irr], fun a b c h h2 => ?_, fun a b => ?_⟩
  · simp only [verLt, Bool.or_eq_true, Bool.and_eq_true, decide_eq_true_eq] at *
    rcases h with h | ⟨h, h'⟩
    · rcases h2 with h2 | ⟨h2, _⟩
      · exact .inl (bl_ord.trans _ _ _ h h2)
      · exact .inl (h2 ▸ h)
    · rcases h2 with h2 | ⟨h2, h2'⟩
      · exact .inl (h ▸ h2)
      · exact .inr ⟨h.trans h2, by omega⟩
  · obtain ⟨ak, aq, ad⟩ := a
    obtain ⟨bk, bq, bd⟩ := b
    simp only [verLt, Bool.or_eq_true, Bool.and_eq_true, decide_eq_true_eq, VerR.mk.injEq]
    rcases bl_tri ak bk with h | h | h
    · exact .inl (.inl h)
    · subst h
      rcases Int.lt_trichotomy aq bq with h2 | h2 | h2
      · exact .inr (.inr (.inr ⟨rfl, .inl h2⟩))
      · subst h2
        rcases Int.lt_trichotomy ad bd with h3 | h3 | h3
        · exact .inr (.inr (.inr ⟨rfl, .inr ⟨rfl, h3⟩⟩))
        · subst h3; exact .inr (.inl ⟨rfl, rfl, rfl⟩)
        · exact .inl (.inr ⟨rfl, .inr ⟨rfl, h3⟩⟩)
      · exact .inl (.inr ⟨rfl, .inl h2⟩)
    · exact .inr (.inr (.inl h))
/-- strings.Compare's number. -/
def cmpN (a b : ByteArray) : Int := Lib.compareBytes a.data.toList b.data.toList
theorem cmpL_less : ∀ x y : List UInt8, Lib.compareBytes x y = if Op.bytesLess x y then -1 else if x = y then 0 else 1
  | [], [] => by simp [Lib.compareBytes, Op.bytesLess]
  | [], _ :: _ => by simp [Lib.compareBytes, Op.bytesLess]
  | _ :: _, [] => by simp [Lib.compareBytes, Op.bytesLess]
  | a :: x, b :: y => by
    rw [Lib.compareBytes, cmpL_less x y]
    by_cases h : a < b
    · simp [Op.bytesLess, h]
    · by_cases h2 : b < a
      · have : a ≠ b := fun e => by subst e; exact absurd h2 (UInt8.lt_irrefl a)
        simp [Op.bytesLess, h, h2, this]
      · have : a = b := UInt8.le_antisymm (UInt8.not_lt.1 h2) (UInt8.not_lt.1 h)
        subst this
        simp [Op.bytesLess, h]
theorem cmpN_less (a b : ByteArray) : cmpN a b = if bl a b then -1 else if a = b then 0 else 1 := by
  unfold cmpN bl
  rw [cmpL_less, Lib.toList_data, Lib.toList_data]
  have : a.data.toList = b.data.toList ↔ a = b := ⟨fun h => ofList_inj _ _ (by rw [Lib.toList_data, Lib.toList_data]; exact h), fun h => by rw [h]⟩
  by_cases h1 : Op.bytesLess a.data.toList b.data.toList = true
  · rw [if_pos h1, if_pos h1]
  · rw [if_neg h1, if_neg h1]
    by_cases h : a = b
    · rw [if_pos h, if_pos (this.2 h)]
    · rw [if_neg h, if_neg (fun e => h (this.1 e))]

set_option maxHeartbeats 800000 in
theorem cmpString_ok (a b : ByteArray) (w : World) : Calls Try.prog 49 #[.string a, .string b] w fun e w' => e = .returned (.int .i64 (cmpN a b)) ∧ w = w' := by
  go_enter Try.func49, Try.ntmps49
  have hc : (callFunc 51 #[Value.string a, Value.string b]).run Try.prog w = .ok (.value (.int .i64 (cmpN a b))) w := by
    rw [run_callFunc_extern Try.func51 (by kernel_rfl) (by kernel_rfl) (by kernel_rfl) (e := Extern.BytealgCompare.compare) (by kernel_rfl), Lib.run_compareString]
    rfl
  generalize cmpN a b = n at *
  go_wp2
  go_ret
  exact ⟨rfl, rfl⟩
set_option maxHeartbeats 800000 in
theorem compare_ok (a b : ByteArray) (w : World) : Calls Try.prog 46 #[.string a, .string b] w fun e w' => e = .returned (.int .i64 (cmpN a b)) ∧ w = w' := by
  have HC := Lib.hid (cmpString_ok a b)
  generalize cmpN a b = n at *
  go_enter Try.func46, Try.ntmps46
  go_wp2_with (go_at_call 49; refine (HC.out _).mono ?_; rintro e w' ⟨rfl, rfl⟩)
  go_ret
  exact ⟨rfl, rfl⟩

theorem compare_eq (a b : ByteArray) (n : Int) (h : cmpN a b = n) (w : World) : Calls Try.prog 46 #[.string a, .string b] w fun e w' => e = .returned (.int .i64 n) ∧ w = w' := h ▸ compare_ok a b w

def VerR.val (v : VerR) : Value := .agg #[.string v.key, .int .i64 v.seq, .int .i64 v.kind]
def CellR.cells (c : CellR) : List Value := [.string c.ver.key, .int .i64 c.ver.seq, .int .i64 c.ver.kind, .string c.val]
set_option maxHeartbeats 1600000 in
theorem ikeyLess_ok (x y : VerR) (w : World) : Calls Try.prog 39 #[x.val, y.val] w fun e w' => e = .returned (.bool (verLt x y)) ∧ Below w.heap.size w w' := by
  obtain ⟨a, q, d⟩ := x
  obtain ⟨b, r, f⟩ := y
  unfold VerR.val verLt
  simp only
  have hn := cmpN_less a b
  rcases bl_tri a b with h | h | h
  · rw [h, if_pos rfl] at hn
    have HC := Lib.hid (compare_eq a b _ hn)
    rw [h]
    clear hn h
    go_enter Try.func39, Try.ntmps39
    go_wp2_with (go_at_call 46; refine (HC.out _).mono ?_; rintro e w' ⟨rfl, rfl⟩)
    go_ret
    exact ⟨rfl, ((Below.refl _ _).alloc (Nat.le_refl _) _).alloc (by simp) _⟩
  · subst h
    rw [bl_irr, if_neg (by simp), if_pos rfl] at hn
    have HC := Lib.hid (compare_eq a a _ hn)
    rw [bl_irr]
    clear hn
    by_cases h1 : r < q
    · have e1 : decide (r < q) = true := by simpa using h1
      have HE : Hid ((false || decide (a = a) && (decide (r < q) || decide (q = r) && decide (f < d))) = true) := Lib.hid (by simp [h1])
      rw [HE.out]
      clear HE h1
      go_enter Try.func39, Try.ntmps39
      go_wp2_with (go_at_call 46; refine (HC.out _).mono ?_; rintro e w' ⟨rfl, rfl⟩)
      go_ret
      exact ⟨rfl, ((Below.refl _ _).alloc (Nat.le_refl _) _).alloc (by simp) _⟩
    · by_cases h2 : q = r
      · subst h2
        have HE : Hid ((false || decide (a = a) && (decide (q < q) || decide (q = q) && decide (f < d))) = decide (f < d)) := Lib.hid (by simp)
        rw [HE.out]
        have e1 : decide (q < q) = false := by simp
        have e2 : (q == q) = true := by simp
        clear HE h1
        go_enter Try.func39, Try.ntmps39
        go_wp2_with (go_at_call 46; refine (HC.out _).mono ?_; rintro e w' ⟨rfl, rfl⟩)
        go_ret
        exact ⟨rfl, ((Below.refl _ _).alloc (Nat.le_refl _) _).alloc (by simp) _⟩
      · have HE : Hid ((false || decide (a = a) && (decide (r < q) || decide (q = r) && decide (f < d))) = false) := Lib.hid (by simp [h1, h2])
        rw [HE.out]
        have e1 : decide (r < q) = false := by simpa using h1
        have e2 : (q == r) = false := by simpa using h2
        clear HE h1 h2
        go_enter Try.func39, Try.ntmps39
        go_wp2_with (go_at_call 46; refine (HC.out _).mono ?_; rintro e w' ⟨rfl, rfl⟩)
        go_ret
        exact ⟨rfl, ((Below.refl _ _).alloc (Nat.le_refl _) _).alloc (by simp) _⟩
  · have h2 := bl_ord.asym _ _ h
    have h3 : a ≠ b := fun e => by subst e; rw [bl_irr] at h; cases h
    rw [h2, if_neg (by simp), if_neg h3] at hn
    have HE : Hid ((false || decide (a = b) && (decide (r < q) || decide (q = r) && decide (f < d))) = false) := Lib.hid (by simp [h3])
    have HC := Lib.hid (compare_eq a b _ hn)
    rw [h2, HE.out]
    clear HE h h2 h3 hn
    go_enter Try.func39, Try.ntmps39
    go_wp2_with (go_at_call 46; refine (HC.out _).mono ?_; rintro e w' ⟨rfl, rfl⟩)
    go_ret
    exact ⟨rfl, ((Below.refl _ _).alloc (Nat.le_refl _) _).alloc (by simp) _⟩
set_option maxHeartbeats 1600000 in
theorem docLess_ok (x y : VerR) (w : World) : Calls Try.prog 27 #[x.val, y.val] w fun e w' => e = .returned (.bool (verLt x y)) ∧ Below w.heap.size w w' := by
  obtain ⟨a, q, d⟩ := x
  obtain ⟨b, r, f⟩ := y
  unfold VerR.val verLt
  simp only
  by_cases h : a = b
  · subst h
    by_cases h2 : q = r
    · subst h2
      have HE : Hid ((bl a a || decide (a = a) && (decide (q < q) || decide (q = q) && decide (f < d))) = decide (f < d)) := Lib.hid (by simp [bl_irr])
      rw [HE.out]
      have e2 : (q != q) = false := by simp
      have e3 : (a.toList == a.toList) = true := by simp
      clear HE
      go_enter Try.func27, Try.ntmps27
      go_wp2
      go_ret
      exact ⟨rfl, ((Below.refl _ _).alloc (Nat.le_refl _) _).alloc (by simp) _⟩
    · have HE : Hid ((bl a a || decide (a = a) && (decide (r < q) || decide (q = r) && decide (f < d))) = decide (r < q)) := Lib.hid (by simp [bl_irr, h2])
      rw [HE.out]
      have e2 : (q != r) = true := by simpa using h2
      have e3 : (a.toList == a.toList) = true := by simp
      clear HE h2
      go_enter Try.func27, Try.ntmps27
      go_wp2
      go_ret
      exact ⟨rfl, ((Below.refl _ _).alloc (Nat.le_refl _) _).alloc (by simp) _⟩
  · have HE : Hid ((bl a b || decide (a = b) && (decide (r < q) || decide (q = r) && decide (f < d))) = Op.bytesLess a.toList b.toList) := Lib.hid (by simp [h, bl])
    rw [HE.out]
    have e3 : (a.toList == b.toList) = false := beq_eq_false_iff_ne.2 (fun e => h (ofList_inj _ _ e))
    clear HE h
    go_enter Try.func27, Try.ntmps27
    go_wp2
    go_ret
    exact ⟨rfl, ((Below.refl _ _).alloc (Nat.le_refl _) _).alloc (by simp) _⟩
end Go.Proofs.Ytcgkpgjjifggcaa
