/-
  Records: plain laws: what Scan tells of a file of records.
-/
import Derived.Test.YtcgbellmclhlpaaR19
namespace Go.Proofs.Ytcgbellmclhlpaa
set_option linter.unusedVariables false
set_option linter.unusedSimpArgs false
open Vi Sl

theorem scan_rec (B : List Nat) (f p : Nat) (R S : List Nat) : scanL B f p false R = scanL B f p false S := by
  cases f with
  | zero => rfl
  | succ f =>
    rw [scanL, scanL]
    cases takeN B p with
    | none => rfl
    | some x => rfl
theorem scan_at (B : List Nat) (f p q : Nat) (b : Bool) (R : List Nat) (h : takeN B p = takeN B q) : scanL B f p b R = scanL B f q b R := by
  cases f with
  | zero => rfl
  | succ f => rw [scanL, scanL, h]
theorem take_pad (B : List Nat) (p : Nat) : takeN B p = takeN B (p + padN p) := by
  have h : padN (p + padN p) = 0 := pad_zero _ (pad_room p)
  unfold takeN
  simp only [h, Nat.add_zero]
theorem kind_cont (b e : Bool) : (kindN b e = 3 ∨ kindN b e = 4) ↔ b = false := by cases b <;> cases e <;> decide
theorem kind_goes (b e : Bool) : (kindN b e = 2 ∨ kindN b e = 3) ↔ e = false := by cases b <;> cases e <;> decide
theorem agree_of_like {B : List Nat} {q : Nat} {P : List Nat} {sp : Bool} (h : Like B q P sp) (hB : q + P.length ≤ B.length) (hl : sp = true → q + P.length < B.length) : ∀ j, j < P.length → at' B (q + j) = at' P j := by
  intro j hj
  refine (h j hj (by omega)).2 (fun ⟨h1, h2⟩ => ?_)
  have := hl h1
  omega
theorem fill_next (q : Nat) (h : 7 ≤ 128 - q % 128) : 7 ≤ 128 - (q + (7 + roomN q)) % 128 := by
  have := room_full q (roomN q) h rfl
  omega
theorem pieces_pos (f q : Nat) (b : Bool) (rec : List Nat) : 7 ≤ (piecesL (f + 1) q b rec).length := by
  by_cases h : roomN q < rec.length
  · rw [pieces_more f q b rec h, List.length_append, pieceL_len]; omega
  · rw [pieces_last f q b rec h, pieceL_len]; omega

/-- A piece without a byte stands once. -/
def slack (q : Nat) : Nat := if roomN q = 0 then 1 else 0
theorem next_room (q : Nat) (h : 7 ≤ 128 - q % 128) : roomN (q + (7 + roomN q)) = 121 := room_zero _ (room_full q (roomN q) h rfl)
theorem next_fuel (q k n : Nat) (hq : 7 ≤ 128 - q % 128) (h : n + slack q < k + 1) (hr : roomN q < n) : n - roomN q + slack (q + (7 + roomN q)) < k := by
  unfold slack at *
  rw [next_room q hq]
  rw [if_neg (by decide)]
  by_cases h0 : roomN q = 0
  · rw [if_pos h0] at h; omega
  · rw [if_neg h0] at h; omega

/-- Pieces that are there whole. -/
theorem scan_pieces (B : List Nat) (k : Nat) : ∀ (f q : Nat) (beg : Bool) (rec R : List Nat), 7 ≤ 128 - q % 128 → rec.length + slack q < k →
    (∀ j, j < (piecesL k q beg rec).length → at' B (q + j) = at' (piecesL k q beg rec) j) → q + (piecesL k q beg rec).length ≤ B.length → B.length < f + q →
    ∃ f' S, scanL B f q (!beg) R = ((if beg then [] else R) ++ rec) :: scanL B f' (q + (piecesL k q beg rec).length) false S ∧ B.length < f' + (q + (piecesL k q beg rec).length) := by
  induction k with
  | zero => intro f q beg rec R h1 h2; omega
  | succ k ih =>
    intro f q beg rec R hq hk h hB hf
    obtain ⟨f, rfl⟩ : ∃ f', f = f' + 1 := ⟨f - 1, by have := pieces_pos k q beg rec; omega⟩
    by_cases hr : roomN q < rec.length
    · rw [pieces_more k q beg rec hr] at h hB ⊢
      have hl : (rec.take (roomN q)).length = roomN q := by rw [List.length_take]; omega
      have hpl := pieceL_len (kindN beg false) (rec.take (roomN q))
      rw [hl] at hpl
      have hlen : (pieceL (kindN beg false) (rec.take (roomN q)) ++ piecesL k (q + (7 + roomN q)) false (rec.drop (roomN q))).length = 7 + roomN q + (piecesL k (q + (7 + roomN q)) false (rec.drop (roomN q))).length := by rw [List.length_append, hpl]
      rw [hlen] at hB ⊢
      rw [hlen] at h
      have hw := take_whole B q (kindN beg false) (rec.take (roomN q)) hq (kind_bd _ _) (by omega) (by rw [hl]; omega) (fun j hj => by
        rw [h j (by rw [hl] at hj; omega), at_append_left _ _ _ (by rw [hl] at hj; omega)])
      rw [hl] at hw
      have hc : (!beg) = decide (kindN beg false = 3 ∨ kindN beg false = 4) := by cases beg <;> decide
      rw [scan_more B f q (!beg) R _ _ _ hw.1 hc ((kind_goes _ _).2 rfl), hw.2]
      have hnx : q + 7 + roomN q = q + (7 + roomN q) := by omega
      rw [hnx]
      obtain ⟨f', S, e, hf'⟩ := ih f (q + (7 + roomN q)) false (rec.drop (roomN q)) ((if (!beg) = true then R else []) ++ rec.take (roomN q)) (fill_next q hq) (by rw [List.length_drop]; exact next_fuel q k _ hq hk hr)
        (fun j hj => by
          have := h (7 + roomN q + j) (by omega)
          rw [at_append_right _ _ j _ (by rw [hpl])] at this
          rw [← this]
          congr 1; omega) (by omega) (by omega)
      refine ⟨f', S, ?_, by omega⟩
      have e0 : (!false) = true := rfl
      rw [e0] at e
      rw [e, show q + (7 + roomN q) + (piecesL k (q + (7 + roomN q)) false (rec.drop (roomN q))).length = q + (7 + roomN q + (piecesL k (q + (7 + roomN q)) false (rec.drop (roomN q))).length) by omega]
      congr 1
      rw [if_neg (by simp), List.append_assoc, List.take_append_drop]
      cases beg <;> rfl
    · rw [pieces_last k q beg rec hr] at h hB ⊢
      have hpl := pieceL_len (kindN beg true) rec
      rw [hpl] at h hB ⊢
      have hw := take_whole B q (kindN beg true) rec hq (kind_bd _ _) (by omega) hB h
      have hc : (!beg) = decide (kindN beg true = 3 ∨ kindN beg true = 4) := by cases beg <;> decide
      rw [scan_end B f q (!beg) R _ _ _ hw.1 hc (fun e => by have := (kind_goes beg true).1 e; cases this), hw.2]
      have hnx : q + 7 + rec.length = q + (7 + rec.length) := by omega
      rw [hnx]
      refine ⟨f, (if (!beg) = true then R else []) ++ rec, ?_, by omega⟩
      cases beg <;> rfl
/-- Pieces that are cut, or whose last byte is another one. -/
theorem scan_broken (B : List Nat) (hBb : ∀ x ∈ B, x < 256) (sp : Bool) (k : Nat) : ∀ (f q : Nat) (beg : Bool) (rec R : List Nat), 7 ≤ 128 - q % 128 → rec.length + slack q < k → (∀ x ∈ rec, x < 256) →
    Like B q (piecesL k q beg rec) sp → (B.length < q + (piecesL k q beg rec).length ∨ B.length = q + (piecesL k q beg rec).length ∧ sp = true) → scanL B f q (!beg) R = [] := by
  induction k with
  | zero => intro f q beg rec R h1 h2; omega
  | succ k ih =>
    intro f q beg rec R hq hk hrb h hB
    cases f with
    | zero => rfl
    | succ f =>
      by_cases hr : roomN q < rec.length
      · rw [pieces_more k q beg rec hr] at h hB
        have hl : (rec.take (roomN q)).length = roomN q := by rw [List.length_take]; omega
        have hpl := pieceL_len (kindN beg false) (rec.take (roomN q))
        rw [hl] at hpl
        rw [List.length_append, hpl] at hB
        by_cases hw : B.length < q + (7 + roomN q) ∨ B.length = q + (7 + roomN q) ∧ sp = true
        · exact scan_none B f q _ R (take_broken B q (kindN beg false) (rec.take (roomN q)) sp hBb (fun x hx => hrb x (List.mem_of_mem_take hx)) hq (kind_bd _ _) (by omega) (like_head h) (by rw [hl]; exact hw))
        · have hge : q + (7 + roomN q) ≤ B.length := by omega
          have hin := agree_of_like (like_head h) (by rw [hpl]; exact hge) (fun hs => by
            rw [hpl]
            rcases Nat.lt_or_ge (q + (7 + roomN q)) B.length with h1 | h1
            · exact h1
            · exact absurd (.inr ⟨by omega, hs⟩) hw)
          rw [hpl] at hin
          have hw2 := take_whole B q (kindN beg false) (rec.take (roomN q)) hq (kind_bd _ _) (by omega) (by rw [hl]; omega) (fun j hj => hin j (by rw [hl] at hj; omega))
          rw [hl] at hw2
          have hc : (!beg) = decide (kindN beg false = 3 ∨ kindN beg false = 4) := by cases beg <;> decide
          rw [scan_more B f q (!beg) R _ _ _ hw2.1 hc ((kind_goes _ _).2 rfl), show q + 7 + roomN q = q + (7 + roomN q) by omega]
          have ht := like_tail h
          rw [hpl] at ht
          exact ih f (q + (7 + roomN q)) false (rec.drop (roomN q)) _ (fill_next q hq) (by rw [List.length_drop]; exact next_fuel q k _ hq hk hr) (fun x hx => hrb x (List.mem_of_mem_drop hx)) ht
            (by rcases hB with h1 | ⟨h1, h2⟩; exact .inl (by omega); exact .inr ⟨by omega, h2⟩)
      · rw [pieces_last k q beg rec hr] at h hB
        rw [pieceL_len] at hB
        exact scan_none B f q _ R (take_broken B q (kindN beg true) rec sp hBb hrb hq (kind_bd _ _) (by omega) h hB)

theorem room_mod (p : Nat) : roomN (p % 128) = roomN p := by unfold roomN; rw [Nat.mod_mod]
theorem pad_mod (p : Nat) : padN (p % 128) = padN p := by unfold padN; rw [Nat.mod_mod]
theorem pieces_mod (k : Nat) : ∀ (p q : Nat) (b : Bool) (rec : List Nat), p % 128 = q % 128 → piecesL k p b rec = piecesL k q b rec := by
  induction k with
  | zero => intro p q b rec h; rfl
  | succ k ih =>
    intro p q b rec h
    have hr : roomN p = roomN q := by rw [← room_mod p, ← room_mod q, h]
    by_cases hl : roomN p < rec.length
    · rw [pieces_more k p b rec hl, pieces_more k q b rec (by rw [← hr]; exact hl), hr, ih (p + (7 + roomN q)) (q + (7 + roomN q)) false _ (by omega)]
    · rw [pieces_last k p b rec hl, pieces_last k q b rec (by rw [← hr]; exact hl)]
theorem frame_mod (p : Nat) (rec : List Nat) : frameL (p % 128) rec = List.replicate (padN p) 0 ++ piecesL (rec.length + 2) (p + padN p) true rec := by
  unfold frameL
  rw [pad_mod, pieces_mod _ (p % 128 + padN p) (p + padN p) true rec (by omega)]
theorem slack_le (q : Nat) : slack q ≤ 1 := by unfold slack; split <;> omega
/-- A record that is there whole; that isn't. -/
theorem scan_frame (B : List Nat) (f p : Nat) (rec R : List Nat) (h : ∀ j, j < (frameL (p % 128) rec).length → at' B (p + j) = at' (frameL (p % 128) rec) j) (hB : p + (frameL (p % 128) rec).length ≤ B.length) (hf : B.length < f + p) :
    ∃ f' S, scanL B f p false R = rec :: scanL B f' (p + (frameL (p % 128) rec).length) false S ∧ B.length < f' + (p + (frameL (p % 128) rec).length) := by
  rw [frame_mod] at h hB ⊢
  rw [List.length_append, List.length_replicate] at h hB ⊢
  have hs := slack_le (p + padN p)
  have hpp := pieces_pos (rec.length + 1) (p + padN p) true rec
  obtain ⟨f', S, e, hf'⟩ := scan_pieces B (rec.length + 2) f (p + padN p) true rec R (pad_room p) (by omega) (fun j hj => by
    have := h (padN p + j) (by omega)
    rw [at_append_right _ _ j _ (by rw [List.length_replicate])] at this
    rw [← this, Nat.add_assoc]) (by omega) (by omega)
  refine ⟨f', S, ?_, by omega⟩
  rw [scan_at B f p (p + padN p) false R (take_pad B p)]
  have e0 : (!true) = false := rfl
  rw [e0] at e
  rw [e, Nat.add_assoc]
  rfl
theorem scan_cut (B : List Nat) (hBb : ∀ x ∈ B, x < 256) (sp : Bool) (f p : Nat) (rec R : List Nat) (hrb : ∀ x ∈ rec, x < 256) (h : Like B p (frameL (p % 128) rec) sp)
    (hB : B.length < p + (frameL (p % 128) rec).length ∨ B.length = p + (frameL (p % 128) rec).length ∧ sp = true) : scanL B f p false R = [] := by
  rw [frame_mod] at h hB
  rw [List.length_append, List.length_replicate] at hB
  have hs := slack_le (p + padN p)
  rw [scan_at B f p (p + padN p) false R (take_pad B p)]
  have ht := like_tail h
  rw [List.length_replicate] at ht
  exact scan_broken B hBb sp (rec.length + 2) f (p + padN p) true rec R (pad_room p) (by omega) hrb ht (by rcases hB with h1 | ⟨h1, h2⟩; exact .inl (by omega); exact .inr ⟨by omega, h2⟩)

/-- A file of records, from a place on. -/
def fileL : Nat → List (List Nat) → List Nat
  | _, [] => []
  | p, r :: rs => frameL (p % 128) r ++ fileL (p + (frameL (p % 128) r).length) rs
theorem fileL_snoc (rs : List (List Nat)) (r : List Nat) : ∀ p, fileL p (rs ++ [r]) = fileL p rs ++ frameL ((p + (fileL p rs).length) % 128) r := by
  induction rs with
  | nil => intro p; simp [fileL]
  | cons x rs ih => intro p; simp only [List.cons_append, fileL, ih, List.append_assoc, List.length_append, Nat.add_assoc]
/-- How many records are there whole. -/
def whole (n : Nat) (sp : Bool) : Nat → List (List Nat) → Nat
  | _, [] => 0
  | p, r :: rs => if p + (frameL (p % 128) r).length < n ∨ (p + (frameL (p % 128) r).length = n ∧ sp = false) then 1 + whole n sp (p + (frameL (p % 128) r).length) rs else 0
theorem scan_file (B : List Nat) (hBb : ∀ x ∈ B, x < 256) (sp : Bool) (rs : List (List Nat)) : ∀ (f p : Nat) (R : List Nat), (∀ r ∈ rs, ∀ x ∈ r, x < 256) → Like B p (fileL p rs) sp → p ≤ B.length → B.length ≤ p + (fileL p rs).length → B.length < f + p →
    scanL B f p false R = rs.take (whole B.length sp p rs) := by
  induction rs with
  | nil =>
    intro f p R hb h h1 h2 hf
    simp only [fileL, List.length_nil] at h2
    rw [List.take_nil]
    cases f with
    | zero => rfl
    | succ f =>
      refine scan_none B f p false R ?_
      unfold takeN
      rw [if_pos (by omega)]
  | cons r rs ih =>
    intro f p R hb h h1 h2 hf
    rw [fileL] at h h2
    rw [List.length_append] at h2
    have hh := like_head h
    have ht := like_tail h
    rw [whole]
    by_cases hw : p + (frameL (p % 128) r).length < B.length ∨ (p + (frameL (p % 128) r).length = B.length ∧ sp = false)
    · rw [if_pos hw, Nat.add_comm, List.take_succ_cons]
      obtain ⟨f', S, e, hf'⟩ := scan_frame B f p r R (agree_of_like hh (by omega) (fun hs => by rcases hw with h3 | ⟨h3, h4⟩; exact h3; rw [hs] at h4; cases h4)) (by omega) hf
      rw [e, ih f' _ S (fun x hx => hb x (by simp [hx])) ht (by omega) (by omega) hf']
    · rw [if_neg hw, List.take_zero]
      refine scan_cut B hBb sp f p r R (hb r (by simp)) hh ?_
      cases sp with
      | true => by_cases h3 : B.length = p + (frameL (p % 128) r).length; exact .inr ⟨h3, rfl⟩; exact .inl (by omega)
      | false => exact .inl (Nat.lt_of_not_le (fun h3 => hw (by
          rcases Nat.lt_or_eq_of_le h3 with h4 | h4
          · exact .inl h4
          · exact .inr ⟨h4, rfl⟩)))
end Go.Proofs.Ytcgbellmclhlpaa
