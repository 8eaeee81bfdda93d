/-
  Records: plain laws: sizes; ends; how many are whole; another last byte. A slice whose cells may be written.
-/
import Derived.Test.YtcgbellmclhlpaaR18
import Derived.Test.YtcgbellmclhlpaaR20
namespace Go.Proofs.Ytcgbellmclhlpaa
set_option linter.unusedVariables false
set_option linter.unusedSimpArgs false
open Go.RowKit Vi Sl

theorem encOps_bd (l : List OpR) : ∀ L, (∀ o ∈ l, o.fits ∧ o.formed) → EncOps l L → L.length ≤ l.length * 1200 ∧ ∀ x ∈ L, x < 256 := by
  induction l with
  | nil => intro L _ h; cases h; exact ⟨by simp, by simp⟩
  | cons o l ih =>
    intro L hf h
    obtain ⟨a, b, ⟨ta, tb, hta, hcase, rfl⟩, hb, rfl⟩ := h
    obtain ⟨i1, i2⟩ := ih b (fun x hx => hf x (by simp [hx])) hb
    have ho := hf o (by simp)
    have h1 := text_len _ _ hta
    have h2 := text_lt _ _ hta
    have hk := ho.1.1
    have hv := ho.1.2
    have hkind : o.kind.toNat < 256 := by rcases ho.2.2 with ⟨h, _⟩ | h <;> rw [h] <;> decide
    have htb : tb.length ≤ 1010 ∧ ∀ x ∈ tb, x < 256 := by
      rcases hcase with ⟨_, ht⟩ | ⟨_, rfl⟩
      · have := text_len _ _ ht
        exact ⟨by omega, text_lt _ _ ht⟩
      · simp
    refine ⟨?_, fun x hx => ?_⟩
    · simp only [List.length_append, List.length_cons, List.length_nil]
      have : (l.length + 1) * 1200 = l.length * 1200 + 1200 := by omega
      omega
    · rcases List.mem_append.1 hx with hx | hx
      · rcases List.mem_append.1 hx with hx | hx
        · rcases List.mem_append.1 hx with hx | hx
          · simp at hx; rw [hx]; exact hkind
          · exact h2 x hx
        · exact htb.2 x hx
      · exact i2 x hx
theorem fixL_lt (n k : Nat) : ∀ x ∈ fixL n k, x < 256 := by
  intro x hx
  simp only [fixL, List.mem_map, List.mem_range] at hx
  obtain ⟨i, _, rfl⟩ := hx
  omega
theorem enc_bd (seq : Nat) (l : List OpR) (L : List Nat) (hg : Good seq l) (h : Enc seq l L) : 12 ≤ L.length ∧ L.length ≤ 12 + l.length * 1200 ∧ ∀ x ∈ L, x < 256 := by
  obtain ⟨a, ha, rfl⟩ := h
  obtain ⟨h1, h2⟩ := encOps_bd l a hg.2.2.1 ha
  refine ⟨by simp only [List.length_append, fixL_len]; omega, by simp only [List.length_append, fixL_len]; omega, fun x hx => ?_⟩
  rcases List.mem_append.1 hx with hx | hx
  · rcases List.mem_append.1 hx with hx | hx
    · exact fixL_lt _ _ x hx
    · exact fixL_lt _ _ x hx
  · exact h2 x hx
theorem pieces_len (k : Nat) : ∀ (p : Nat) (b : Bool) (rec : List Nat), (piecesL k p b rec).length ≤ rec.length + 7 * k := by
  induction k with
  | zero => intro p b rec; simp [piecesL]
  | succ k ih =>
    intro p b rec
    by_cases h : roomN p < rec.length
    · rw [pieces_more k p b rec h, List.length_append, pieceL_len]
      have := ih (p + (7 + roomN p)) false (rec.drop (roomN p))
      rw [List.length_drop] at this
      rw [List.length_take]; omega
    · rw [pieces_last k p b rec h, pieceL_len]; omega
theorem frame_bd (p : Nat) (rec : List Nat) : 7 ≤ (frameL p rec).length ∧ (frameL p rec).length ≤ 8 * rec.length + 20 := by
  unfold frameL
  rw [List.length_append, List.length_replicate]
  have h1 := pieces_len (rec.length + 2) (p + padN p) true rec
  have h2 : 7 ≤ (piecesL (rec.length + 2) (p + padN p) true rec).length := pieces_pos (rec.length + 1) (p + padN p) true rec
  have h3 : padN p ≤ 6 := by unfold padN; split <;> omega
  omega
theorem pieceL_lt (k : Nat) (l : List Nat) (hk : k < 256) (hl : ∀ x ∈ l, x < 256) : ∀ x ∈ pieceL k l, x < 256 := by
  intro x hx
  unfold pieceL at hx
  rcases List.mem_append.1 hx with hx | hx
  · rcases List.mem_append.1 hx with hx | hx
    · rcases List.mem_append.1 hx with hx | hx
      · exact fixL_lt _ _ x hx
      · exact fixL_lt _ _ x hx
    · simp at hx; rw [hx]; exact hk
  · exact hl x hx
theorem pieces_lt (k : Nat) : ∀ (p : Nat) (b : Bool) (rec : List Nat), (∀ x ∈ rec, x < 256) → ∀ x ∈ piecesL k p b rec, x < 256 := by
  induction k with
  | zero => intro p b rec _ x hx; simp [piecesL] at hx
  | succ k ih =>
    intro p b rec hr x hx
    by_cases h : roomN p < rec.length
    · rw [pieces_more k p b rec h] at hx
      rcases List.mem_append.1 hx with hx | hx
      · exact pieceL_lt _ _ (by have := kind_bd b false; omega) (fun y hy => hr y (List.mem_of_mem_take hy)) x hx
      · exact ih _ _ _ (fun y hy => hr y (List.mem_of_mem_drop hy)) x hx
    · rw [pieces_last k p b rec h] at hx
      exact pieceL_lt _ _ (by have := kind_bd b true; omega) hr x hx
theorem frame_lt (p : Nat) (rec : List Nat) (hr : ∀ x ∈ rec, x < 256) : ∀ x ∈ frameL p rec, x < 256 := by
  intro x hx
  unfold frameL at hx
  rcases List.mem_append.1 hx with hx | hx
  · have := (List.mem_replicate.1 hx).2; omega
  · exact pieces_lt _ _ _ _ hr x hx
theorem file_lt (rs : List (List Nat)) : ∀ p, (∀ r ∈ rs, ∀ x ∈ r, x < 256) → ∀ x ∈ fileL p rs, x < 256 := by
  induction rs with
  | nil => intro p _ x hx; simp [fileL] at hx
  | cons r rs ih =>
    intro p h x hx
    rw [fileL] at hx
    rcases List.mem_append.1 hx with hx | hx
    · exact frame_lt _ _ (h r (by simp)) x hx
    · exact ih _ (fun r hr => h r (by simp [hr])) x hx
/-- Where the records end. -/
def endsN : Nat → List (List Nat) → List Nat
  | _, [] => []
  | p, r :: rs => (p + (frameL (p % 128) r).length) :: endsN (p + (frameL (p % 128) r).length) rs
theorem endsN_len (rs : List (List Nat)) : ∀ p, (endsN p rs).length = rs.length := by
  induction rs with
  | nil => intro p; rfl
  | cons r rs ih => intro p; simp [endsN, ih]
theorem endsN_snoc (rs : List (List Nat)) (r : List Nat) : ∀ p, endsN p (rs ++ [r]) = endsN p rs ++ [p + (fileL p (rs ++ [r])).length] := by
  induction rs with
  | nil => intro p; simp [endsN, fileL]
  | cons x rs ih => intro p; simp only [List.cons_append, endsN, ih, fileL, List.length_append, Nat.add_assoc]
theorem endsN_gt (rs : List (List Nat)) : ∀ p, ∀ x ∈ endsN p rs, p < x := by
  induction rs with
  | nil => intro p x hx; simp [endsN] at hx
  | cons r rs ih =>
    intro p x hx
    have hf := (frame_bd (p % 128) r).1
    simp only [endsN, List.mem_cons] at hx
    rcases hx with rfl | hx
    · omega
    · have := ih _ x hx; omega
theorem whole_false (n : Nat) (rs : List (List Nat)) : ∀ (p m : Nat), m ≤ rs.length → (∀ j, j < m → (endsN p rs).getD j 0 ≤ n) → (m < rs.length → n < (endsN p rs).getD m 0) → whole n false p rs = m := by
  induction rs with
  | nil => intro p m hm _ _; simp at hm; subst hm; rfl
  | cons r rs ih =>
    intro p m hm h1 h2
    rw [whole]
    simp only [endsN] at h1 h2
    cases m with
    | zero =>
      have := h2 (by simp)
      simp at this
      rw [if_neg (by omega)]
    | succ m =>
      have := h1 0 (by omega)
      simp at this
      rw [if_pos (by simp; omega), ih _ m (by simpa using hm) (fun j hj => by simpa using h1 (j + 1) (by omega)) (fun hj => by simpa using h2 (by simpa using hj)), Nat.add_comm]
theorem whole_true (n : Nat) (rs : List (List Nat)) : ∀ (p m : Nat), m ≤ rs.length → (∀ j, j < m → (endsN p rs).getD j 0 ≤ n) → (m < rs.length → n < (endsN p rs).getD m 0) →
    ((0 < m ∧ (endsN p rs).getD (m - 1) 0 = n) → whole n true p rs = m - 1) ∧ (¬ (0 < m ∧ (endsN p rs).getD (m - 1) 0 = n) → whole n true p rs = m) := by
  induction rs with
  | nil =>
    intro p m hm _ _
    simp at hm
    subst hm
    exact ⟨fun h => absurd h.1 (by omega), fun _ => rfl⟩
  | cons r rs ih =>
    intro p m hm h1 h2
    rw [whole]
    obtain ⟨T, hT⟩ : ∃ T, p + (frameL (p % 128) r).length = T := ⟨_, rfl⟩
    have he : endsN p (r :: rs) = T :: endsN T rs := by rw [← hT]; rfl
    rw [he] at h1 h2 ⊢
    rw [hT]
    cases m with
    | zero =>
      have := h2 (by simp)
      rw [List.getD_cons_zero] at this
      rw [if_neg (fun h => by rcases h with h | ⟨h, _⟩ <;> omega)]
      exact ⟨fun h => absurd h.1 (by omega), fun _ => rfl⟩
    | succ m =>
      have h0 := h1 0 (by omega)
      rw [List.getD_cons_zero] at h0
      have ih' := ih T m (by simpa using hm) (fun j hj => by simpa using h1 (j + 1) (by omega)) (fun hj => by simpa using h2 (by simpa using hj))
      by_cases hn : T = n
      · rw [if_neg (fun h => by rcases h with h | ⟨_, h⟩; omega; cases h)]
        have hm0 : m = 0 := by
          rcases Nat.eq_zero_or_pos m with h | h
          · exact h
          · have h3 := h1 (0 + 1) (by omega)
            have hl : 0 < (endsN T rs).length := by rw [endsN_len]; simp at hm; omega
            have h4 := endsN_gt rs T _ (List.getElem_mem hl)
            rw [List.getD_cons_succ, List.getD_eq_getElem?_getD, List.getElem?_eq_getElem hl, Option.getD_some] at h3
            omega
        subst hm0
        exact ⟨fun _ => rfl, fun h => absurd ⟨by omega, by simpa using hn⟩ h⟩
      · rw [if_pos (.inl (by omega))]
        cases m with
        | zero =>
          have h5 := ih'.2 (fun h => absurd h.1 (by omega))
          rw [h5]
          refine ⟨fun h => absurd h.2 (by simpa using hn), fun _ => rfl⟩
        | succ m =>
          rw [Nat.add_sub_cancel, List.getD_cons_succ]
          rw [Nat.add_sub_cancel] at ih'
          refine ⟨fun h => ?_, fun h => ?_⟩
          · rw [ih'.1 ⟨by omega, h.2⟩]; omega
          · rw [ih'.2 (fun h5 => h ⟨by omega, h5.2⟩)]; omega

/-- What is cut is alike; so is what has another last byte. -/
theorem like_take (F : List Nat) (c : Nat) : Like (F.take c) 0 F false := by
  intro j hj hb
  rw [Nat.zero_add] at hb ⊢
  refine ⟨fun h => (by cases h), fun _ => ?_⟩
  rw [List.length_take] at hb
  unfold at'
  rw [List.getD_eq_getElem?_getD, List.getD_eq_getElem?_getD, List.getElem?_take, if_pos (by omega)]
theorem like_spoil (F : List Nat) (c x : Nat) (hc : 0 < c) (hcF : c ≤ F.length) (hx : x ≠ at' F (c - 1)) : Like (F.take (c - 1) ++ [x]) 0 F true := by
  intro j hj hb
  have hl : (F.take (c - 1)).length = c - 1 := by rw [List.length_take]; omega
  have hl2 : (F.take (c - 1) ++ [x]).length = c := by rw [List.length_append, hl]; simp; omega
  rw [Nat.zero_add] at hb ⊢
  rw [hl2] at hb ⊢
  refine ⟨fun _ h => ?_, fun h => ?_⟩
  · have : j = c - 1 := by omega
    subst this
    rw [at_append_right _ _ 0 _ (by rw [hl]; rfl)]
    exact hx
  · have hjc : j < c - 1 := by
      rcases Nat.lt_or_ge j (c - 1) with h1 | h1
      · exact h1
      · exact absurd ⟨rfl, by omega⟩ h
    rw [at_append_left _ _ _ (by rw [hl]; exact hjc)]
    unfold at'
    rw [List.getD_eq_getElem?_getD, List.getD_eq_getElem?_getD, List.getElem?_take, if_pos hjc]
theorem xor8 (a b : Nat) (ha : a < 256) (hb : b < 256) : bits .xor .u8 (a : Int) (b : Int) = ((a ^^^ b : Nat) : Int) := by
  have hx : a ^^^ b < 2 ^ 8 := Nat.xor_lt_two_pow (n := 8) ha hb
  have h1 : (BitVec.ofInt 8 (a : Int)).toNat = a := by rw [BitVec.ofInt_natCast, BitVec.toNat_ofNat]; exact Nat.mod_eq_of_lt ha
  have h2 : (BitVec.ofInt 8 (b : Int)).toNat = b := by rw [BitVec.ofInt_natCast, BitVec.toNat_ofNat]; exact Nat.mod_eq_of_lt hb
  show IntKind.u8.wrap ((BitVec.ofInt 8 (a : Int) ^^^ BitVec.ofInt 8 (b : Int)).toNat : Int) = _
  rw [BitVec.toNat_xor, h1, h2]
  simp only [IntKind.wrap, IntKind.bits, IntKind.signed]
  simp
  omega
theorem xor_other (a b : Nat) (hb : b ≠ 0) : a ^^^ b ≠ a := by
  intro h
  apply hb
  have : a ^^^ (a ^^^ b) = a ^^^ a := by rw [h]
  rwa [← Nat.xor_assoc, Nat.xor_self, Nat.zero_xor] at this

/-- A slice whose block may be written throughout. -/
def Free (w : World) (v : Value) : Prop := ∀ g, v.ownBlock = some g → ∀ o, w.frozen? ⟨g, o, none⟩ = false
theorem Free.later {w w' : World} {v : Value} (h : Free w v) (hb : ∀ g, v.ownBlock = some g → w'.heap[g]? = w.heap[g]?) : Free w' v := fun g hg o => by
  rw [World.frozen?_of_block (w := w) (by exact hb g hg)]; exact h g hg o
theorem Free.below {w w' : World} {v : Value} {B : Nat} (h : Free w v) (hb : Below B w w') (hB : ∀ g, v.ownBlock = some g → g < B) : Free w' v := h.later (fun g hg => hb.block g (hB g hg))
theorem Free.alloc {w : World} {v : Value} (h : Free w v) (hv : ∀ g, v.ownBlock = some g → g < w.heap.size) (o : Obj) : Free (w.alloc o) v := h.later (fun g hg => Below.heap_alloc w o g (hv g hg))
theorem Free.grown {w w' : World} {v : Value} {row : Option Nat} (h : Free w v) (hv : ∀ g, v.ownBlock = some g → g < w.heap.size) (hg : w.grownBy w' row) (hne : v.ownBlock = none ∨ v.ownBlock ≠ row) : Free w' v :=
  h.later (fun g hgv => hg.block g (hv g hgv) (hne.elim (fun h0 => absurd (h0.symm.trans hgv) (by simp)) (fun h0 => by rw [← hgv]; exact h0)))
theorem wpList_append_free {P : Program} (w : World) {ops : Array Oper} {rest : List Oper} {o : Oper} {a : Act} {Q : Exit → Act → World → Prop} (hgd : o.guard = none) (s x : Operand) (t : TypeId)
    (ho : o.op = Op.call { callee := Callee.builtin Builtin.append, args := #[s, x], argTypes := #[t, t] })
    (base : Nat) (e : TypeId) (i : TypeInfo) (z : Value) (size bytes : Nat) (ht : P.underlying t = some (.slice e)) (hi : P.info? e = some i) (hz : i.zero = some z) (hsize : i.size = size) (hby : i.bytes = bytes) (hzs : z.cells.size = size) (hsz : 0 < size)
    (v : Value) (n : Nat) (xs : List Value) (hs : a.eval s = v) (h : Has w base size v n xs) (hF : Free w v)
    (ad : Addr) (m c : Nat) (news : List Value) (hx : a.eval x = .slice (some ad) m c) (hl : news.length = m * size) (hnews : ∀ j u, news[j]? = some u → w.cell? (ad.add j) = some u) (h1 : ∀ u ∈ news, u.oneCell' = true)
    (h63 : n + m ≤ maxLen) (hbytes : (n + m) * bytes ≤ 140737488355328) (hbase : base ≤ w.heap.size)
    (hK : ∀ v' w', Has w' base size v' (n + m) (xs ++ news) → Free w' v' → w.grownBy w' v.ownBlock → (∀ g, v'.ownBlock = some g → v.ownBlock = some g ∨ w.heap.size ≤ g) → wpList P ops Q rest (a.put o.dst v') w') : wpList P ops Q (o :: rest) a w := by
  have h' := h
  have own : ∀ {v' : Value} {w' : World} {xs : List Value} {k : Nat}, w'.ownsRow w.heap.size e size v' k xs → Free w' v' := by
    intro v' w' xs k hown g hg o
    rcases hown.2 with ⟨rfl, _⟩ | ⟨g', cap', cur, rfl, _⟩
    · cases hg
    · simp [Value.ownBlock] at hg; subst hg; exact hown.frozenAt o
  rcases h.2 with ⟨rfl, rfl⟩ | ⟨g, off, cap, rfl, hB, hg, hle, hm, hc, hf⟩
  · have hx0 : xs = [] := List.length_eq_zero_iff.1 (by rw [h.1]; simp)
    subst hx0
    refine wpList_append_own w hgd s x t ho w.heap.size e i z size bytes ht hi hz hsize hby hzs hsz _ 0 [] hs (World.ownsRow_nil w w.heap.size e size) ad m c news hx hl hnews h1 h63 hbytes (Nat.le_refl _) ?_
    intro v' w' hown hgr _
    exact hK v' w' ((Has.of_owns hown).base_le hbase) (own hown) hgr (fun g hg => .inr (hown.lt g hg).1)
  · refine wpList_append_arg w hgd s x t ho e i z size bytes ht hi hz hsize hby hzs hsz g off n cap xs hs h.1 hc ad m c news hx hl hnews h1 (fun hroom j hj => hf j ?_) h63 hbytes (fun hroom => ?_) (fun hfull v' w' hown hgr => ?_)
    · have hfits : m * size ≤ (cap - n) * size := Nat.mul_le_mul_right _ (by omega)
      omega
    · obtain ⟨r1, r2⟩ := has_setCells h' hl hroom
      refine hK _ _ r1 (fun g' hg' o => ?_) r2 (fun g hg => .inl hg)
      simp [Value.ownBlock] at hg'
      subst hg'
      rw [World.frozen?_setCells]
      exact hF g rfl o
    · refine hK v' w' ((Has.of_owns hown).base_le hbase) (own hown) ?_ (fun g hg => .inr (hown.lt g hg).1)
      exact ⟨hgr.os, hgr.tape, hgr.output, hgr.size, fun k hk _ => hgr.block k hk (by simp)⟩
theorem Free.nil (w : World) : Free w (.slice none 0 0) := fun g hg => by cases hg
end Go.Proofs.Ytcgbellmclhlpaa
