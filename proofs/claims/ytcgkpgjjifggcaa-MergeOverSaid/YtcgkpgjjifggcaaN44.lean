/-
  Merge: contract of plain.
-/
import Derived.Test.YtcgkpgjjifggcaaN39
namespace Go.Proofs.Ytcgkpgjjifggcaa
set_option linter.unusedVariables false
set_option linter.unusedSimpArgs false
open Go.RowKit Sl

theorem news_op (W : World) (b : Nat) (c : OpR) (h0 : W.cell? ⟨b, 0, none⟩ = some (.int .i64 c.kind)) (h1 : W.cell? ⟨b, 1, none⟩ = some (.string c.key)) (h2 : W.cell? ⟨b, 2, none⟩ = some (.string c.val)) :
    ∀ j u, (OpR.cells c)[j]? = some u → W.cell? ((⟨b, 0, none⟩ : Addr).add j) = some u := by
  intro j u hj
  match j, hj with
  | 0, hj => cases hj; exact h0
  | 1, hj => cases hj; exact h1
  | 2, hj => cases hj; exact h2
  | j + 3, hj => simp [OpR.cells] at hj

set_option maxRecDepth 100000 in
set_option maxHeartbeats 6400000 in
theorem plain_ok (v : Value) (ops : List OpR) (S : Nat → Prop) (w : World) (h : SlV OpR.cells w S v ops) (n : Nat) (hn : ops.length = n) (hbig : n ≤ 1000) :
    Calls Try.prog 23 #[v] w fun e w' => ∃ a c D, e = .returned (.slice a n c) ∧ D.length = n ∧ Has w' w.heap.size 3 (.slice a n c) n (flat OpR.cells D) ∧ Below w.heap.size w w' := by
  obtain ⟨i0, hi, hz0, hz1, hz2⟩ := info_parts Try.infoOp
  obtain ⟨ao, cap, hv⟩ := h.shape
  rw [hn] at hv
  subst hv
  obtain ⟨-, h2, h3⟩ := SlV.len h
  unfold maxLen at h3
  have HV := Lib.hid h
  have HN := Lib.hid hn
  clear h hn
  go_enter Try.func23, Try.ntmps23
  go_wp2_with fail
  go_loopg [3, 4] n (fun g s3 s4 wr => ∃ (k : Nat) (E : List OpR) (a : Option Addr) (c : Nat), g = n - k ∧ s4 = .int .i64 (k : Nat) ∧ k ≤ n ∧ s3 = .slice a k c ∧ Hid (E.length = k) ∧ Hid (Has wr w.heap.size 3 (.slice a k c) k (flat OpR.cells E)) ∧ Hid (Below w.heap.size w wr))
  case atStart => exact ⟨0, [], none, 0, by omega, rfl, Nat.zero_le _, rfl, Lib.hid rfl, Lib.hid (Has.nil _ _ _), Lib.hid (Below.refl _ _)⟩
  case round =>
    obtain ⟨k, E, a3, c3, rfl, rfl, hk, rfl, HEL, HH, HW⟩ := hrel
    by_cases hlt : k < n
    · have hlt2 : (k : Int) < n := by omega
      obtain ⟨bb, oo, rfl, hS, hbl, hcs⟩ := OV.of (HV.out.below HW.out) (by omega)
      obtain ⟨o, hc⟩ : ∃ o, ops[k]? = some o := ⟨_, List.getElem?_eq_getElem (by have := HN.out; omega)⟩
      obtain ⟨x1, x2, x3⟩ := hcs k o hc
      have hbase := HW.out.size
      clear hcs hc hS
      by_cases hput : o.kind = 1
      · have hp1 : (o.kind == 1) = true := by simpa using hput
        have hp2 : (o.kind != 1) = false := by simpa using hput
        clear hput
        go_wp2_with (at_builtin; refine wpList_append_at _ rfl (.tmp 20) (.tmp 22) 51 rfl w.heap.size 68 i0 (.agg #[.int .i64 0, .string ⟨#[]⟩, .string ⟨#[]⟩]) 3 40 Try.underlying51 hi hz0 hz1 hz2 rfl (by decide) (.slice a3 k c3) k (flat OpR.cells E) rfl ((HH.out.alloc _).alloc _) ⟨_, 0, Option.none⟩ 1 1 (OpR.cells o) rfl rfl ?_ (OpR.cells_one _) (by unfold maxLen; omega) (by omega) ?_ ?_)
        · exact news_op _ _ o (by simp [go_sem]) (by simp [go_sem]) (by simp [go_sem])
        · simp; omega
        · intro va wa hva ga na
          obtain ⟨a8, c8, rfl, -⟩ := hva.shape
          have hlt9 := HH.out.lt
          have HVA := Lib.hid hva
          have HWA : Hid (Below w.heap.size w wa) := Lib.hid (((HW.out.alloc hbase _).alloc (by simp; omega) _).grown ga (by simp; omega) (fun g hg => (hlt9 g hg).1))
          clear hva ga na hlt9
          go_wp2
          go_roundg (n - (k + 1))
          case measure => omega
          case rel => exact ⟨k + 1, E ++ [o], a8, c8, rfl, by go_num, by omega, rfl, Lib.hid (by rw [List.length_append, HEL.out]; rfl), Lib.hid (by rw [flat_snoc]; exact HVA.out), HWA⟩
      · have hp1 : (o.kind == 1) = false := by simpa using hput
        have hp2 : (o.kind != 1) = true := by simpa using hput
        clear hput
        go_wp2_with (at_builtin; refine wpList_append_at _ rfl (.tmp 20) (.tmp 22) 51 rfl w.heap.size 68 i0 (.agg #[.int .i64 0, .string ⟨#[]⟩, .string ⟨#[]⟩]) 3 40 Try.underlying51 hi hz0 hz1 hz2 rfl (by decide) (.slice a3 k c3) k (flat OpR.cells E) rfl ?p0 ⟨_, 0, Option.none⟩ 1 1 (OpR.cells ⟨0, o.key, o.val⟩) rfl rfl ?p1 (OpR.cells_one _) (by unfold maxLen; omega) (by omega) ?p2 ?_)
        case p0 => exact (HH.out.alloc _).alloc _
        case p1 => exact news_op _ _ ⟨0, o.key, o.val⟩ (by simp [go_sem]) (by simp [go_sem]) (by simp [go_sem])
        case p2 => simp; omega
        · intro va wa hva ga na
          obtain ⟨a8, c8, rfl, -⟩ := hva.shape
          have hlt9 := HH.out.lt
          have HVA := Lib.hid hva
          have HWA : Hid (Below w.heap.size w wa) := Lib.hid (((HW.out.alloc hbase _).alloc (by simp; omega) _).grown ga (by simp; omega) (fun g hg => (hlt9 g hg).1))
          clear hva ga na hlt9
          go_wp2
          go_roundg (n - (k + 1))
          case measure => omega
          case rel => exact ⟨k + 1, E ++ [⟨0, o.key, o.val⟩], a8, c8, rfl, by go_num, by omega, rfl, Lib.hid (by rw [List.length_append, HEL.out]; rfl), Lib.hid (by rw [flat_snoc]; exact HVA.out), HWA⟩
    · have hge : decide ((k : Int) < n) = false := by simp; omega
      obtain rfl : k = n := by omega
      go_wp2
      go_ret
      exact ⟨_, _, E, rfl, HEL.out, HH.out, HW.out⟩
end Go.Proofs.Ytcgkpgjjifggcaa
