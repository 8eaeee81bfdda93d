/-
  Records: contracts of varint's GetText, of batch's input (fixed, text).
-/
import Derived.Test.YtcgbellmclhlpaaR15
namespace Go.Proofs.Ytcgbellmclhlpaa
set_option linter.unusedVariables false
set_option linter.unusedSimpArgs false
open Go.RowKit Vi Sl

theorem str_of_reads {w : World} {g a n c : Nat} (s : ByteArray) (hn : s.size = n) (hr : 0 < n → ReadsB w g a (bytesN s)) : (convert 27 9 (.slice (some ⟨g, a, none⟩) n c)).run Try.prog w = .ok (.string s) w := by
  have hl : (bytesN s).length = n := by rw [bytesN_len, hn]
  have := run_convert_bytes_back (P := Try.prog) w 27 9 5 ⟨g, a, none⟩ c ((bytesN s).map UInt8.ofNat) Try.underlying27 Try.underlying5 Try.underlying9 (fun j hj => by
    have hj' : j < (bytesN s).length := by simpa using hj
    have h1 := (hr (by omega)).2 j hj'
    rw [Addr.add_lit, h1]
    have h2 := bytesN_lt s _ (List.getElem_mem hj')
    have h3 : (UInt8.ofNat (bytesN s)[j]).toNat = (bytesN s)[j] := by simp; omega
    simp [hj'] at h3 ⊢
    omega)
  rw [List.length_map, hl] at this
  rw [this]
  congr 1
  exact strV_bytesN s
theorem reads_part {w : World} {g off : Nat} {l m : List Nat} (h : ReadsB w g off (l ++ m)) : ReadsB w g (off + l.length) m :=
  ⟨h.1, fun j hj => by
    have := h.2 (l.length + j) (by rw [List.length_append]; omega)
    rw [← Nat.add_assoc] at this
    rw [this]
    simp [List.getElem?_append_right]⟩
theorem reads_head {w : World} {g off : Nat} {l m : List Nat} (h : ReadsB w g off (l ++ m)) : ReadsB w g off l :=
  ⟨h.1, fun j hj => by
    have := h.2 j (by rw [List.length_append]; omega)
    rw [this]
    simp [List.getElem?_append_left hj]⟩

set_option maxHeartbeats 1600000 in
theorem getText_ok (s : ByteArray) (most k g off len cap : Nat) (hs : s.size ≤ most) (hmost : most ≤ 1000) (hsh : Short s.size k) (hlen : k + 1 + s.size ≤ len) (hcap : len ≤ cap) (hcap2 : cap ≤ 9223372036854775807) (w : World)
    (hr : ReadsB w g off (putL s.size k ++ bytesN s)) :
    Calls Try.prog 28 #[.slice (some ⟨g, off, none⟩) len cap, .int .i64 most] w fun e w' => e = .returned (.tuple #[.string s, .int .i64 (k + 1 + s.size : Nat), .int .i64 0]) ∧ w = w' := by
  have HG := Lib.hid (get_ok s.size k g off len cap (by omega) hsh (by omega) (by omega) w (reads_head hr))
  have hr2 := reads_part hr
  rw [putL_len] at hr2
  have hk9 := hsh.1
  have HC : ∀ a c, (0 < s.size → a = off + (k + 1)) → (convert 27 9 (.slice (some ⟨g, a, none⟩) s.size c)).run Try.prog w = .ok (.string s) w := fun a c ha => str_of_reads s rfl (fun h0 => by rw [ha h0]; exact hr2)
  have hn2 : (s.size : Int) ≤ most := by omega
  have hm2 : (most : Int) ≤ 1000 := by omega
  have hm3 : decide ((most : Int) < 0) = false := by simp
  have hl2 : decide ((len : Int) - ((k : Int) + 1) < s.size) = false := by simp; omega
  have hl3 : decide ((most : Int) < s.size) = false := by simp; omega
  clear hr hr2 hsh
  by_cases hc : cap = k + 1
  · have h0 : s.size = 0 := by omega
    have hrun := HC off 0 (fun h => by omega)
    subst hc
    clear HC h0
    go_enter Try.func28, Try.ntmps28
    go_wp2_with (go_at_call 33; refine (HG.out).mono ?_; rintro e w' ⟨rfl, rfl⟩)
    go_ret3
    exact ⟨by go_num, rfl⟩
  · have hrun := HC (off + (k + 1)) (cap - (k + 1)) (fun _ => rfl)
    clear HC
    go_enter Try.func28, Try.ntmps28
    go_wp2_with (go_at_call 33; refine (HG.out).mono ?_; rintro e w' ⟨rfl, rfl⟩)
    go_ret3
    exact ⟨by go_num, rfl⟩

theorem grown_setCell (w : World) (g o : Nat) (v : Value) : w.grownBy (w.setCell ⟨g, o, none⟩ v) (some g) :=
  ⟨World.os_setCells w g o [v], rfl, World.output_setCells w g o [v], by simp, fun k hk hne => World.heap_setCells_other w g o [v] hk (fun h => hne (by rw [h]))⟩
theorem grown_trans {w a b : World} {r : Option Nat} (h : w.grownBy a r) (k : a.grownBy b r) : w.grownBy b r :=
  ⟨k.os.trans h.os, k.tape.trans h.tape, k.output.trans h.output, Nat.le_trans h.size k.size, fun i hi hs => (k.block i (Nat.lt_of_lt_of_le hi h.size) hs).trans (h.block i hi hs)⟩
theorem reads_grown {w w' : World} {g off : Nat} {l : List Nat} {r : Nat} (h : ReadsB w g off l) (hg : w.grownBy w' (some r)) (hne : g ≠ r) : ReadsB w' g off l :=
  ⟨Nat.lt_of_lt_of_le h.1 hg.size, fun j hj => by rw [World.cell?_of_block (w := w) (by exact hg.block g h.1 (fun e => hne (by simpa using e)))]; exact h.2 j hj⟩
/-- What is left of bytes: the input's two cells. -/
def InR (w : World) (I g : Nat) (R : List Nat) : Prop := I < w.heap.size ∧
  ∃ off cap, w.cell? ⟨I, 0, none⟩ = some (.slice (some ⟨g, off, none⟩) R.length cap) ∧ w.cell? ⟨I, 1, none⟩ = some (.bool false) ∧ w.frozen? ⟨I, 0, none⟩ = false ∧ w.frozen? ⟨I, 1, none⟩ = false ∧
    R.length ≤ cap ∧ cap ≤ 9223372036854775807 ∧ g ≠ I ∧ ReadsB w g off R
theorem InR.later {w w' : World} {I g : Nat} {R : List Nat} (h : InR w I g R) (hs : w.heap.size ≤ w'.heap.size) (hI : w'.heap[I]? = w.heap[I]?) (hg : w'.heap[g]? = w.heap[g]?) : InR w' I g R := by
  obtain ⟨h0, off, cap, h1, h2, f1, f2, hc, hc2, hne, hr⟩ := h
  refine ⟨Nat.lt_of_lt_of_le h0 hs, off, cap, ?_, ?_, ?_, ?_, hc, hc2, hne, Nat.lt_of_lt_of_le hr.1 hs, fun j hj => ?_⟩
  · rw [World.cell?_of_block (w := w) (by exact hI)]; exact h1
  · rw [World.cell?_of_block (w := w) (by exact hI)]; exact h2
  · rw [World.frozen?_of_block (w := w) (by exact hI)]; exact f1
  · rw [World.frozen?_of_block (w := w) (by exact hI)]; exact f2
  · rw [World.cell?_of_block (w := w) (by exact hg)]; exact hr.2 j hj
theorem InR.grown {w w' : World} {I g : Nat} {R : List Nat} {row : Option Nat} (h : InR w I g R) (hg : w.grownBy w' row) (h1 : row ≠ some I) (h2 : row ≠ some g) : InR w' I g R := by
  obtain ⟨off, cap, _, _, _, _, _, _, _, hr⟩ := h.2
  exact h.later hg.size (hg.block I h.1 (fun e => h1 e.symm)) (hg.block g hr.1 (fun e => h2 e.symm))
theorem InR.lt {w : World} {I g : Nat} {R : List Nat} (h : InR w I g R) : g < w.heap.size := by
  obtain ⟨off, cap, _, _, _, _, _, _, _, hr⟩ := h.2
  exact hr.1
theorem InR.alloc {w : World} {I g : Nat} {R : List Nat} (h : InR w I g R) (o : Obj) : InR (w.alloc o) I g R :=
  h.later (by simp) (Below.heap_alloc w o I h.1) (Below.heap_alloc w o g h.lt)
set_option maxHeartbeats 1600000 in
theorem fixedIn_ok (I g size : Nat) (l R : List Nat) (w : World) (hl : l.length = size) (hb : ∀ x ∈ l, x < 256) (hs : size ≤ 8) (hs0 : 1 ≤ size) (hI : InR w I g (l ++ R)) :
    Calls Try.prog 21 #[.pointer (some ⟨I, 0, none⟩), .int .i64 size] w fun e w' => e = .returned (.int .u64 (sumB l : Nat)) ∧ InR w' I g R ∧ w.grownBy w' (some I) := by
  obtain ⟨hI0, off, cap, h1, h2, f1, f2, hcap, hcap2, hg, hr⟩ := hI
  have HW := Lib.hid (fun c => whole_ok g off c l w (by omega) hb (reads_head hr))
  rw [hl] at HW
  rw [List.length_append, hl] at h1 hcap
  have hG1 := grown_setCell w I 0 (.slice (some ⟨g, off, none⟩) R.length (cap - size))
  have hG2 := grown_setCell w I 0 (.slice (some ⟨g, off + size, none⟩) R.length (cap - size))
  have HQ : Hid (∀ o, (cap = size → o = off) → (cap ≠ size → o = off + size) → InR (w.setCell ⟨I, 0, none⟩ (.slice (some ⟨g, o, none⟩) R.length (cap - size))) I g R ∧ w.grownBy (w.setCell ⟨I, 0, none⟩ (.slice (some ⟨g, o, none⟩) R.length (cap - size))) (some I)) := Lib.hid (fun o ho1 ho2 => by
    have hG := grown_setCell w I 0 (.slice (some ⟨g, o, none⟩) R.length (cap - size))
    refine ⟨⟨Nat.lt_of_lt_of_le hI0 hG.size, o, cap - size, ?_, ?_, ?_, ?_, by omega, by omega, hg, ?_⟩, hG⟩
    · simp [go_sem, h1]
    · simp [go_sem, h2]
    · simp [go_sem, f1]
    · simp [go_sem, f2]
    · by_cases hc : cap = size
      · have : R = [] := List.length_eq_zero_iff.1 (by omega)
        subst this
        exact ⟨Nat.lt_of_lt_of_le hr.1 hG.size, fun j hj => by simp at hj⟩
      · have := reads_part hr
        rw [hl] at this
        rw [ho2 hc]
        rw [ho2 hc] at hG
        exact reads_grown this hG hg)
  generalize sumB l = S at *
  obtain ⟨n, hn⟩ : ∃ n, size + R.length = n := ⟨_, rfl⟩
  have HRn : Hid (R.length = n - size) := Lib.hid (by omega)
  rw [hn] at h1 hcap
  have hsn : size ≤ n := by omega
  have hd : decide ((n : Int) < size) = false := by simp; omega
  clear hr hb hl hn hG1 hG2
  by_cases hc : cap = size
  · have HC := Lib.hid hc
    subst hc
    have HRC := HRn.out
    go_enter Try.func21, Try.ntmps21
    go_wp2_with (go_at_call 27; refine (HW.out _).mono ?_; rintro e w' ⟨rfl, rfl⟩)
    go_ret
    have := HQ.out off (fun _ => rfl) (fun h => absurd rfl h)
    have h0 : R.length = 0 := by have := HRn.out; omega
    rw [h0, Nat.sub_self] at this
    exact ⟨rfl, this⟩
  · go_enter Try.func21, Try.ntmps21
    go_wp2_with (go_at_call 27; refine (HW.out _).mono ?_; rintro e w' ⟨rfl, rfl⟩)
    go_ret
    have := HQ.out (off + size) (fun h => absurd h hc) (fun _ => rfl)
    rw [HRn.out] at this
    exact ⟨rfl, this⟩

set_option maxHeartbeats 1600000 in
theorem textIn_ok (I g most k : Nat) (s : ByteArray) (R : List Nat) (w : World) (hs : s.size ≤ most) (hmost : most ≤ 1000) (hsh : Short s.size k) (hI : InR w I g (putL s.size k ++ bytesN s ++ R)) :
    Calls Try.prog 22 #[.pointer (some ⟨I, 0, none⟩), .int .i64 most] w fun e w' => e = .returned (.string s) ∧ InR w' I g R ∧ w.grownBy w' (some I) := by
  obtain ⟨hI0, off, cap, h1, h2, f1, f2, hcap, hcap2, hg, hr⟩ := hI
  rw [List.length_append, List.length_append, putL_len, bytesN_len] at h1 hcap
  have HG := Lib.hid (getText_ok s most k g off (k + 1 + s.size + R.length) cap hs hmost hsh (by omega) hcap hcap2 w (reads_head hr))
  have HQ : Hid (∀ o, (cap = k + 1 + s.size → o = off) → (cap ≠ k + 1 + s.size → o = off + (k + 1 + s.size)) →
      InR ((w.setCell ⟨I, 1, none⟩ (.bool false)).setCell ⟨I, 0, none⟩ (.slice (some ⟨g, o, none⟩) R.length (cap - (k + 1 + s.size)))) I g R ∧ w.grownBy ((w.setCell ⟨I, 1, none⟩ (.bool false)).setCell ⟨I, 0, none⟩ (.slice (some ⟨g, o, none⟩) R.length (cap - (k + 1 + s.size)))) (some I)) := Lib.hid (fun o ho1 ho2 => by
    have hG := grown_trans (grown_setCell w I 1 (.bool false)) (grown_setCell (w.setCell ⟨I, 1, none⟩ (.bool false)) I 0 (.slice (some ⟨g, o, none⟩) R.length (cap - (k + 1 + s.size))))
    refine ⟨⟨Nat.lt_of_lt_of_le hI0 hG.size, o, cap - (k + 1 + s.size), ?_, ?_, ?_, ?_, by omega, by omega, hg, ?_⟩, hG⟩
    · simp [go_sem, h1]
    · simp [go_sem, h2]
    · simp [go_sem, f1]
    · simp [go_sem, f2]
    · by_cases hc : cap = k + 1 + s.size
      · have : R = [] := List.length_eq_zero_iff.1 (by omega)
        subst this
        exact ⟨Nat.lt_of_lt_of_le hr.1 hG.size, fun j hj => by simp at hj⟩
      · have := reads_part hr
        rw [List.length_append, putL_len, bytesN_len] at this
        rw [ho2 hc]
        rw [ho2 hc] at hG
        exact reads_grown this hG hg)
  have hk9 := hsh.1
  have hss : s.size ≤ 1000 := by omega
  obtain ⟨q, hq⟩ : ∃ q, k + 1 + s.size = q := ⟨_, rfl⟩
  rw [hq] at h1 hcap HG HQ
  have hq2 : q ≤ 1010 := by omega
  obtain ⟨n, hn⟩ : ∃ n, q + R.length = n := ⟨_, rfl⟩
  have HRn : Hid (R.length = n - q) := Lib.hid (by omega)
  rw [hn] at h1 hcap HG
  have hsn : q ≤ n := by omega
  have hqn : (q : Int) ≤ n := by omega
  clear hr hn hsh hq
  by_cases hc : cap = q
  · subst hc
    have hnc : n = cap := by omega
    subst hnc
    go_enter Try.func22, Try.ntmps22
    go_wp2_with (go_at_call 28; refine (HG.out).mono ?_; rintro e w' ⟨rfl, rfl⟩)
    go_ret
    have := HQ.out off (fun _ => rfl) (fun h => absurd rfl h)
    have h0 : R.length = 0 := by have := HRn.out; omega
    rw [h0, Nat.sub_self] at this
    exact ⟨rfl, this⟩
  · go_enter Try.func22, Try.ntmps22
    go_wp2_with (go_at_call 28; refine (HG.out).mono ?_; rintro e w' ⟨rfl, rfl⟩)
    go_ret
    have := HQ.out (off + q) (fun h => absurd h hc) (fun _ => rfl)
    rw [HRn.out] at this
    exact ⟨rfl, this⟩
end Go.Proofs.Ytcgbellmclhlpaa
