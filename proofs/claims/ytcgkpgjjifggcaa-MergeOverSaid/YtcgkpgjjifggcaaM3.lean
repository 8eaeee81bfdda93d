/-
  Merge: plain laws: a heap in a list.
-/
import Derived.Test.YtcgkpgjjifggcaaM2
namespace Go.Proofs.Ytcgkpgjjifggcaa.Pl
set_option linter.unusedVariables false
set_option linter.unusedSimpArgs false
set_option linter.unusedSectionVars false

section
variable {R : Type} (less : R → R → Bool)

/-- Two places exchanged. -/
def sw (l : List R) (i j : Nat) : List R := match l[i]?, l[j]? with
  | some a, some b => (l.set i b).set j a
  | _, _ => l
theorem sw_of (l : List R) (i j : Nat) (a b : R) (hi : l[i]? = some a) (hj : l[j]? = some b) : sw l i j = (l.set i b).set j a := by unfold sw; rw [hi, hj]
theorem sw_len (l : List R) (i j : Nat) : (sw l i j).length = l.length := by unfold sw; split <;> simp
theorem sw_perm (l : List R) (i j : Nat) : (sw l i j).Perm l := by
  unfold sw
  split
  · rename_i a b h1 h2
    obtain ⟨hi, rfl⟩ := List.getElem?_eq_some_iff.1 h1
    obtain ⟨hj, rfl⟩ := List.getElem?_eq_some_iff.1 h2
    exact List.set_set_perm hi hj
  · exact List.Perm.refl _
theorem sw_other (l : List R) (i j k : Nat) (h1 : k ≠ i) (h2 : k ≠ j) : (sw l i j)[k]? = l[k]? := by
  unfold sw
  split
  · rw [List.getElem?_set_ne (Ne.symm h2), List.getElem?_set_ne (Ne.symm h1)]
  · rfl
theorem sw_right (l : List R) (i j : Nat) (hi : i < l.length) (hj : j < l.length) : (sw l i j)[j]? = l[i]? := by
  rw [sw_of l i j l[i] l[j] (by simp [hi]) (by simp [hj]), List.getElem?_set_self (by simpa using hj)]; simp [hi]
theorem sw_left (l : List R) (i j : Nat) (hi : i < l.length) (hj : j < l.length) : (sw l i j)[i]? = l[j]? := by
  by_cases h : i = j
  · subst h; exact sw_right l i i hi hi
  · rw [sw_of l i j l[i] l[j] (by simp [hi]) (by simp [hj]), List.getElem?_set_ne (Ne.symm h), List.getElem?_set_self hi]; simp [hj]

structure Weak : Prop where
  asym : ∀ a b, less a b = true → less b a = false
  ntrans : ∀ a b c, less a b = false → less b c = false → less a c = false

/-- A heap from a place on. -/
def HeapFrom (i0 n : Nat) (l : List R) : Prop := ∀ k a b, k < n → 0 < k → i0 ≤ (k - 1) / 2 → l[k]? = some a → l[(k - 1) / 2]? = some b → less a b = false
/-- A heap but at a place. -/
def HInv (i0 i n : Nat) (l : List R) : Prop :=
  (∀ k a b, k < n → 0 < k → i0 ≤ (k - 1) / 2 → (k - 1) / 2 ≠ i → l[k]? = some a → l[(k - 1) / 2]? = some b → less a b = false) ∧
  (i = i0 ∨ (0 < i ∧ i0 ≤ (i - 1) / 2 ∧ ∀ k a b, k < n → 0 < k → (k - 1) / 2 = i → l[k]? = some a → l[(i - 1) / 2]? = some b → less a b = false))
/-- The lesser of the two below a place. -/
def Kid (i j n : Nat) (l : List R) : Prop := j < n ∧ 0 < j ∧ (j - 1) / 2 = i ∧ ∀ k a b, k < n → 0 < k → (k - 1) / 2 = i → l[k]? = some a → l[j]? = some b → less a b = false
theorem hinv_leaf (i0 i n : Nat) (l : List R) (h : HInv less i0 i n l) (hn : n ≤ 2 * i + 1) : HeapFrom less i0 n l := by
  intro k a b h1 h2 h3 h4 h5
  refine h.1 k a b h1 h2 h3 (fun e => ?_) h4 h5
  omega
theorem hinv_done (W : Weak less) (i0 i j n : Nat) (l : List R) (h : HInv less i0 i n l) (hj : Kid less i j n l) (a b : R) (ha : l[j]? = some a) (hb : l[i]? = some b) (hl : less a b = false) : HeapFrom less i0 n l := by
  intro k x y h1 h2 h3 h4 h5
  by_cases e : (k - 1) / 2 = i
  · rw [e, hb] at h5
    cases h5
    exact W.ntrans _ _ _ (hj.2.2.2 k x a h1 h2 e h4 ha) hl
  · exact h.1 k x y h1 h2 h3 e h4 h5
theorem hinv_step (W : Weak less) (i0 i j n : Nat) (l : List R) (hn : n ≤ l.length) (hi : i < n) (hii : i0 ≤ i) (h : HInv less i0 i n l) (hj : Kid less i j n l) (a b : R) (ha : l[j]? = some a) (hb : l[i]? = some b) (hl : less a b = true) :
    HInv less i0 j n (sw l i j) := by
  obtain ⟨j1, j2, j3, j4⟩ := hj
  have hij : i < j := by omega
  have hli : i < l.length := by omega
  have hlj : j < l.length := by omega
  have eL := sw_left l i j hli hlj
  have eR := sw_right l i j hli hlj
  rw [ha] at eL
  rw [hb] at eR
  refine ⟨fun k x y h1 h2 h3 h4 h5 h6 => ?_, .inr ⟨j2, by omega, fun k x y h1 h2 h3 h5 h6 => ?_⟩⟩
  · by_cases e1 : (k - 1) / 2 = i
    · rw [e1, eL] at h6
      cases h6
      by_cases e2 : k = j
      · rw [e2, eR] at h5
        cases h5
        exact W.asym _ _ hl
      · rw [sw_other l i j k (by omega) e2] at h5
        exact j4 k x a h1 h2 e1 h5 ha
    · by_cases e2 : k = i
      · subst e2
        rw [eL] at h5
        cases h5
        rw [sw_other l k j _ (by omega) (by omega)] at h6
        rcases h.2 with e3 | ⟨e3, e4, e5⟩
        · omega
        · exact e5 j a y j1 j2 j3 ha h6
      · by_cases e3 : k = j
        · omega
        · rw [sw_other l i j k e2 e3] at h5
          rw [sw_other l i j _ e1 h4] at h6
          exact h.1 k x y h1 h2 h3 e1 h5 h6
  · rw [j3, eL] at h6
    cases h6
    rw [sw_other l i j k (by omega) (by omega)] at h5
    exact h.1 k x a h1 h2 (by omega) (by omega) h5 (by rw [h3]; exact ha)
theorem hinv_start (i n : Nat) (l : List R) (h : HeapFrom less (i + 1) n l) : HInv less i i n l :=
  ⟨fun k a b h1 h2 h3 h4 h5 h6 => h k a b h1 h2 (by omega) h5 h6, .inl rfl⟩
theorem heap_half (n : Nat) (l : List R) : HeapFrom less (n / 2) n l := fun k a b h1 h2 h3 _ _ => by omega
/-- Another first one. -/
theorem hinv_root (n m : Nat) (l l' : List R) (hm : m ≤ n) (h : HeapFrom less 0 n l) (hs : ∀ k, 0 < k → k < m → l'[k]? = l[k]?) : HInv less 0 0 m l' :=
  ⟨fun k a b h1 h2 h3 h4 h5 h6 => h k a b (by omega) h2 h3 (by rw [← hs k h2 h1]; exact h5) (by rw [← hs _ (by omega) (by omega)]; exact h6), .inl rfl⟩
theorem heap_min (W : Weak less) (n : Nat) (l : List R) (hn : n ≤ l.length) (h : HeapFrom less 0 n l) (b : R) (hb : l[0]? = some b) (hirr : less b b = false) (k : Nat) : ∀ a, k < n → l[k]? = some a → less a b = false := by
  induction k using Nat.strongRecOn with
  | ind k ih =>
    intro a hk ha
    by_cases h0 : k = 0
    · subst h0; rw [ha] at hb; cases hb; exact hirr
    · have hp : (k - 1) / 2 < k := by omega
      have hpl : (k - 1) / 2 < l.length := by omega
      have h1 := h k a l[(k - 1) / 2] hk (by omega) (Nat.zero_le _) ha (by simp [hpl])
      exact W.ntrans _ _ _ h1 (ih _ hp _ (by omega) (by simp [hpl]))
theorem heap_take (n : Nat) (l l' : List R) (h : HeapFrom less 0 n l) (hs : ∀ k, k < n → l'[k]? = l[k]?) : HeapFrom less 0 n l' :=
  fun k a b h1 h2 h3 h4 h5 => h k a b h1 h2 h3 (by rw [← hs k h1]; exact h4) (by rw [← hs _ (by omega)]; exact h5)
theorem kid_left (i n : Nat) (l : List R) (hirr : ∀ a, less a a = false) (h1 : 2 * i + 1 < n) (h2 : ∀ a b, 2 * i + 2 < n → l[2 * i + 2]? = some a → l[2 * i + 1]? = some b → less a b = false) : Kid less i (2 * i + 1) n l := by
  refine ⟨h1, by omega, by omega, fun k a b k1 k2 k3 ha hb => ?_⟩
  have : k = 2 * i + 1 ∨ k = 2 * i + 2 := by omega
  rcases this with rfl | rfl
  · rw [ha] at hb; cases hb; exact hirr _
  · exact h2 a b k1 ha hb
theorem kid_right (W : Weak less) (i n : Nat) (l : List R) (hirr : ∀ a, less a a = false) (h1 : 2 * i + 2 < n) (a b : R) (ha : l[2 * i + 2]? = some a) (hb : l[2 * i + 1]? = some b) (hl : less a b = true) : Kid less i (2 * i + 2) n l := by
  refine ⟨h1, by omega, by omega, fun k x y k1 k2 k3 hx hy => ?_⟩
  rw [ha] at hy
  cases hy
  have : k = 2 * i + 1 ∨ k = 2 * i + 2 := by omega
  rcases this with rfl | rfl
  · rw [hb] at hx; cases hx; exact W.asym _ _ hl
  · rw [ha] at hx; cases hx; exact hirr _
end
end Go.Proofs.Ytcgkpgjjifggcaa.Pl
