/-
  Records: changes in memory; contract of the document's DocCheck.
-/
import Derived.Test.YtcgbellmclhlpaaR9
namespace Go.Proofs.Ytcgbellmclhlpaa
set_option linter.unusedVariables false
set_option linter.unusedSimpArgs false
open Go.RowKit Vi Sl

/-- A change. -/
structure OpR where
  kind : Int
  key : ByteArray
  val : ByteArray
def OpR.cells (o : OpR) : List Value := [.int .i64 o.kind, .string o.key, .string o.val]
/-- The changes lie there. -/
def OpsAt (w : World) (g o : Nat) (l : List OpR) : Prop :=
  g < w.heap.size ∧ ∀ k (hk : k < l.length), w.cell? ⟨g, o + k * 3, none⟩ = some (.int .i64 l[k].kind) ∧ w.cell? ⟨g, o + k * 3 + 1, none⟩ = some (.string l[k].key) ∧ w.cell? ⟨g, o + k * 3 + 2, none⟩ = some (.string l[k].val)
theorem OpsAt.below {w w' : World} {g o B : Nat} {l : List OpR} (h : OpsAt w g o l) (hb : Below B w w') (hg : g < B) : OpsAt w' g o l :=
  ⟨Nat.lt_of_lt_of_le h.1 hb.size, fun k hk => by
    obtain ⟨h1, h2, h3⟩ := h.2 k hk
    exact ⟨by rw [hb.cell (by exact hg)]; exact h1, by rw [hb.cell (by exact hg)]; exact h2, by rw [hb.cell (by exact hg)]; exact h3⟩⟩
def OpR.fits (o : OpR) : Prop := o.key.size ≤ 64 ∧ o.val.size ≤ 1000
def OpR.formed (o : OpR) : Prop := ¬ o.key.toList = [] ∧ (o.kind = 0 ∧ o.val.toList = [] ∨ o.kind = 1)
/-- May be made together. -/
def Good (seq : Nat) (l : List OpR) : Prop := 0 < l.length ∧ l.length ≤ 200 ∧ (∀ o ∈ l, o.fits ∧ o.formed) ∧ 1 ≤ seq ∧ seq + l.length ≤ 72057594037927936

set_option maxHeartbeats 1600000 in
theorem docCheck_ok (seq g o cap : Nat) (l : List OpR) (hseq : 1 ≤ seq ∧ seq ≤ 1000000) (hl : l.length ≤ 200) (w : World) (hs : OpsAt w g o l) :
    Calls Try.prog 12 #[.int .i64 seq, .slice (some ⟨g, o, none⟩) l.length cap] w fun e w' => ∃ E : Int, e = .returned (.int .i64 E) ∧ (E = 0 ↔ Good seq l) ∧ Below w.heap.size w w' := by
  obtain ⟨n, hn⟩ : ∃ n, l.length = n := ⟨_, rfl⟩
  have HN := Lib.hid hn
  have HS := Lib.hid hs
  rw [hn] at hl ⊢
  clear hs hn
  obtain ⟨q1, q2⟩ := hseq
  go_enter Try.func12, Try.ntmps12
  go_wp2
  go_loop [5] (fun i => ∃ k : Nat, k ≤ n ∧ i = .int .i64 k ∧ Hid (∀ j (hj : j < l.length), j < k → l[j].fits)) (fun i => n - (intOf i).toNat)
  case atStart => exact ⟨0, Nat.zero_le _, rfl, Lib.hid (fun j hj h => by omega)⟩
  case round =>
    obtain ⟨k, hk, rfl, HF⟩ := hrel
    by_cases hkn : k < n
    · have hkl : k < l.length := by rw [HN.out]; exact hkn
      obtain ⟨c1, c2, c3⟩ := HS.out.2 k hkl
      obtain ⟨xk, xs, xv, hx⟩ : ∃ a b c, l[k] = OpR.mk a b c := ⟨_, _, _, rfl⟩
      rw [hx] at c1 c2 c3
      simp only at c1 c2 c3
      have HX := Lib.hid (show ∀ h : l[k].fits, xs.size ≤ 64 ∧ xv.size ≤ 1000 from fun h => by rw [hx] at h; exact h)
      have HX2 := Lib.hid (show xs.size ≤ 64 → xv.size ≤ 1000 → l[k].fits from fun h1 h2 => by rw [hx]; exact ⟨h1, h2⟩)
      have HG := Lib.hid (show Good seq l → l[k].fits from fun h => (h.2.2.1 _ (List.getElem_mem hkl)).1)
      clear hx
      by_cases h1 : xs.size ≤ 64
      · by_cases h2 : xv.size ≤ 1000
        · have i1 : decide ((64 : Int) < xs.size) = false := by simp; omega
          have i2 : decide ((1000 : Int) < xv.size) = false := by simp; omega
          have HH := Lib.hid (And.intro h1 h2)
          clear h1 h2
          go_wp2
          go_round
          case rel =>
            exact ⟨k + 1, by omega, by go_num, Lib.hid (fun j hj h => by
              by_cases hjk : j < k
              · exact HF.out j hj hjk
              · have : j = k := by omega
                subst this
                exact HX2.out HH.out.1 HH.out.2)⟩
          case measure => simp [intOf]; omega
        · have i1 : decide ((64 : Int) < xs.size) = false := by simp; omega
          have i2 : decide ((1000 : Int) < xv.size) = true := by simp; omega
          have HH := Lib.hid h2
          clear h1 h2
          go_wp2
          go_ret
          exact ⟨14, rfl, ⟨fun h => by simp at h, fun h => absurd (HX.out (HG.out h)).2 HH.out⟩, Below.refl _ _⟩
      · have i1 : decide ((64 : Int) < xs.size) = true := by simp; omega
        have HH := Lib.hid h1
        clear h1
        go_wp2
        go_ret
        exact ⟨14, rfl, ⟨fun h => by simp at h, fun h => absurd (HX.out (HG.out h)).1 HH.out⟩, Below.refl _ _⟩
    · have : k = n := by omega
      subst this
      go_wp2
      clear hk hkn
      go_loopw [6] (fun i wr => ∃ m : Nat, m ≤ k ∧ i = .int .i64 m ∧ Below w.heap.size w wr ∧ Hid (∀ j (hj : j < l.length), j < m → l[j].formed)) (fun i _ => k - (intOf i).toNat)
      case atStart => exact ⟨0, Nat.zero_le _, rfl, Below.refl _ _, Lib.hid (fun j hj h => by omega)⟩
      case round =>
        obtain ⟨m, hm, rfl, hnx, HO⟩ := hrel
        by_cases hkn : m < k
        · have hkl : m < l.length := by rw [HN.out]; exact hkn
          have hsl := HS.out.below hnx HS.out.1
          obtain ⟨c1, c2, c3⟩ := hsl.2 m hkl
          have hgs := hsl.1
          obtain ⟨xk, xs, xv, hx⟩ : ∃ a b c, l[m] = OpR.mk a b c := ⟨_, _, _, rfl⟩
          rw [hx] at c1 c2 c3
          simp only at c1 c2 c3
          clear hsl
          have HX := Lib.hid (show l[m].formed ↔ ¬ xs.toList = [] ∧ (xk = 0 ∧ xv.toList = [] ∨ xk = 1) from by rw [hx]; rfl)
          have HG := Lib.hid (show Good seq l → l[m].formed from fun h => (h.2.2.1 _ (List.getElem_mem hkl)).2)
          have HNX := Lib.hid hnx
          clear hx hnx
          go_wp2
          all_goals have hfx := HX.out
          all_goals first
            | (go_ret
               exact ⟨2, rfl, ⟨fun h => by simp at h, fun h => absurd (hfx.1 (HG.out h)) (by simp_all)⟩, HNX.out.alloc HNX.out.size _⟩)
            | (go_roundw
               case rel =>
                 refine ⟨m + 1, by omega, by go_num, HNX.out.alloc HNX.out.size _, Lib.hid (fun j hj h => ?_)⟩
                 by_cases hjk : j < m
                 · exact HO.out j hj hjk
                 · have : j = m := by omega
                   subst this
                   exact hfx.2 (by simp_all)
               case measure => simp [intOf]; omega)
        · have : m = k := by omega
          subst this
          have hlen := HN.out
          have hnn : Hid (∀ o ∈ l, o.fits ∧ o.formed) := Lib.hid (fun o ho => by
            obtain ⟨j, hj, rfl⟩ := List.getElem_of_mem ho
            exact ⟨HF.out j hj (by omega), HO.out j hj (by omega)⟩)
          have HGD : Hid (Good seq l ↔ 0 < m ∧ seq + m ≤ 72057594037927936) := Lib.hid ⟨fun h => ⟨by have := h.1; omega, by have := h.2.2.2.2; omega⟩, fun h => ⟨by omega, by omega, hnn.out, q1, by omega⟩⟩
          clear hnn hlen
          rcases Nat.eq_zero_or_pos m with h0 | h0
          · have i1 : ((m : Int) == 0) = true := by simp; omega
            have HM := Lib.hid h0
            clear h0
            go_wp2
            go_ret
            exact ⟨2, rfl, ⟨fun h => by simp at h, fun h => by have := (HGD.out.1 h).1; have := HM.out; omega⟩, hnx⟩
          · have i1 : ((m : Int) == 0) = false := by simp; omega
            have i2 : (1 : Int) ≤ seq := by omega
            have i3 : (seq : Int) ≤ 72057594037927935 := by omega
            have i4 : ((m : Int) - 1) ≤ 72057594037927935 - seq := by omega
            have HE : Good seq l := HGD.out.2 ⟨h0, by omega⟩
            have HE2 := Lib.hid HE
            clear HE
            go_wp2
            go_ret
            exact ⟨0, rfl, ⟨fun _ => HE2.out, fun _ => rfl⟩, hnx⟩
end Go.Proofs.Ytcgbellmclhlpaa
