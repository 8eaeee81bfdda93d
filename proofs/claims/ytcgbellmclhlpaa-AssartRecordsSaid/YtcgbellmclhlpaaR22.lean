/-
  Records: contract of Scan at no bytes; of batches at whatever rows.
-/
import Derived.Test.YtcgbellmclhlpaaR21
import Derived.Deep.RegionHeld3
namespace Go.Proofs.Ytcgbellmclhlpaa
set_option linter.unusedVariables false
set_option linter.unusedSimpArgs false
open Go.RowKit Vi Sl

set_option maxHeartbeats 800000 in
theorem scan_nil (w : World) : Calls Try.prog 8 #[.slice none 0 0] w fun e w' => e = .returned (.tuple #[.slice none 0 0, .int .i64 0]) ∧ w = w' := by
  have HT := Lib.hid (take_short 0 0 none 0 (by decide) (by decide))
  go_enter Try.func8, Try.ntmps8
  go_wp2
  refine wp_loop_rounds 1 ?_
  rw [rounds_succ]
  go_wp2_with (go_at_call 20; refine (HT.out _).mono ?_; rintro e w' ⟨rfl, rfl⟩)
  go_ret2
  exact ⟨rfl, rfl⟩

theorem OpsV.below {w w' : World} {v : Value} {l : List OpR} (h : OpsV w v l) (hb : Below w.heap.size w w') : OpsV w' v l := by
  obtain ⟨ao, cap, h1, h2, h3, h4⟩ := h
  refine ⟨ao, cap, h1, h2, h3, ?_⟩
  rcases h4 with h4 | ⟨g, o, h5, h6⟩
  · exact .inl h4
  · exact .inr ⟨g, o, h5, h6.below hb h6.1⟩
theorem RowsAt.below {w w' : World} {g o : Nat} {rows : List (List OpR)} (h : RowsAt w g o rows) (hb : Below w.heap.size w w') : RowsAt w' g o rows :=
  ⟨Nat.lt_of_lt_of_le h.1 hb.size, fun i hi => by
    obtain ⟨v, h1, h2⟩ := h.2 i hi
    exact ⟨v, by rw [hb.cell (by exact h.1)]; exact h1, h2.below hb⟩⟩
/-- What batches hands back. -/
def Batched (w : World) (e : Ending) (w' : World) : Prop := ∃ vo vs, ∃ G : List GR, e = .returned (.tuple #[vo, vs]) ∧ G.length ≤ 15 ∧ (∀ p ∈ G, p.ok w) ∧
      Has w' w.heap.size 1 vo G.length (G.map GR.val) ∧ Has w' w.heap.size 1 vs G.length (G.map fun p => .int .i64 p.seq) ∧ Below w.heap.size w w'
/-- Rows that batches may be asked for. -/
def Asked (w : World) (v : Value) : Prop := ∀ w', Below w.heap.size w w' → Calls Try.prog 5 #[v] w' (Batched w')
set_option maxHeartbeats 800000 in
theorem asked_nil (w : World) (cap : Nat) : Asked w (.slice none 0 cap) := by
  intro w' _
  suffices h : Calls Try.prog 5 #[.slice none 0 cap] w' fun e w'' => e = .returned (.tuple #[.slice none 0 0, .slice none 0 0]) ∧ w' = w'' by
    refine h.mono ?_
    rintro e w'' ⟨rfl, rfl⟩
    exact ⟨_, _, [], rfl, by decide, (by simp), Has.nil _ _ _, Has.nil _ _ _, Below.refl _ _⟩
  go_enter Try.func5, Try.ntmps5
  go_wp2
  refine wp_loop_rounds 1 ?_
  rw [rounds_succ]
  go_wp2
  go_ret2
  exact ⟨rfl, rfl⟩
theorem asked_rows (w : World) (g o cap : Nat) (rows : List (List OpR)) (hn : rows.length ≤ cap) (hcap : cap ≤ 9223372036854775807) (hr : RowsAt w g o rows) : Asked w (.slice (some ⟨g, o, none⟩) rows.length cap) :=
  fun w' hb => batches_ok g o cap rows hn hcap w' (hr.below hb)

/-- The records of groups. -/
def Encs (G : List GR) (Ls : List (List Nat)) : Prop := Ls.length = G.length ∧ ∀ i (h : i < G.length) (h2 : i < Ls.length), Enc G[i].seq G[i].ops Ls[i]
theorem encs_lt {w : World} {G : List GR} {Ls : List (List Nat)} (h : Encs G Ls) (hok : ∀ p ∈ G, p.ok w) : ∀ r ∈ Ls, 12 ≤ r.length ∧ r.length ≤ 14412 ∧ ∀ x ∈ r, x < 256 := by
  intro r hr
  obtain ⟨i, hi, rfl⟩ := List.getElem_of_mem hr
  have hi2 : i < G.length := by rw [← h.1]; exact hi
  have ho := hok _ (List.getElem_mem hi2)
  obtain ⟨a, b, c⟩ := enc_bd _ _ _ ho.1 (h.2 i hi2 hi)
  have := ho.2.1
  exact ⟨a, by omega, c⟩
theorem file_len (rs : List (List Nat)) : ∀ p, (∀ r ∈ rs, r.length ≤ 14412) → (fileL p rs).length ≤ rs.length * 120000 := by
  induction rs with
  | nil => intro p _; simp [fileL]
  | cons r rs ih =>
    intro p h
    rw [fileL, List.length_append, List.length_cons]
    have h1 := (frame_bd (p % 128) r).2
    have h2 := h r (by simp)
    have := ih (p + (frameL (p % 128) r).length) (fun x hx => h x (by simp [hx]))
    omega
end Go.Proofs.Ytcgbellmclhlpaa
