/-
  Records: contract of batch's Decode.
-/
import Derived.Test.YtcgbellmclhlpaaR16
namespace Go.Proofs.Ytcgbellmclhlpaa
set_option linter.unusedVariables false
set_option linter.unusedSimpArgs false
open Go.RowKit Vi Sl

theorem Try.infoOp : (Try.prog.info? 43).map (fun i => (i.zero, i.size, i.bytes)) = some (some (.agg #[.int .i64 0, .string ⟨#[]⟩, .string ⟨#[]⟩]), 3, 40) := by kernel_rfl
def opCells (l : List OpR) : List Value := l.flatMap OpR.cells
theorem opCells_snoc (l : List OpR) (x : OpR) : opCells (l ++ [x]) = opCells l ++ x.cells := by simp [opCells]
theorem opCells_len (l : List OpR) : (opCells l).length = l.length * 3 := by
  induction l with
  | nil => rfl
  | cons x l ih => simp only [opCells, List.flatMap_cons, List.length_append, List.length_cons] at *; rw [ih]; simp [OpR.cells]; omega
theorem opCells_at (l : List OpR) (k : Nat) (hk : k < l.length) : (opCells l)[k * 3]? = some (.int .i64 l[k].kind) ∧ (opCells l)[k * 3 + 1]? = some (.string l[k].key) ∧ (opCells l)[k * 3 + 2]? = some (.string l[k].val) := by
  induction l generalizing k with
  | nil => simp at hk
  | cons x l ih =>
    cases k with
    | zero => simp [opCells, OpR.cells]
    | succ k =>
      have := ih k (by simpa using hk)
      have e : opCells (x :: l) = x.cells ++ opCells l := rfl
      have hx : x.cells.length = 3 := rfl
      rw [e, List.getElem?_append_right (by omega), List.getElem?_append_right (by omega), List.getElem?_append_right (by omega), hx]
      rw [show (k + 1) * 3 - 3 = k * 3 by omega, show (k + 1) * 3 + 1 - 3 = k * 3 + 1 by omega, show (k + 1) * 3 + 2 - 3 = k * 3 + 2 by omega]
      simpa using this
theorem opsAt_of {w : World} {g o : Nat} {l : List OpR} (hg : g < w.heap.size) (h : ∀ j u, (opCells l)[j]? = some u → w.cell? ⟨g, o + j, none⟩ = some u) : OpsAt w g o l :=
  ⟨hg, fun k hk => by
    obtain ⟨h1, h2, h3⟩ := opCells_at l k hk
    exact ⟨h _ _ h1, by rw [Nat.add_assoc]; exact h _ _ h2, by rw [Nat.add_assoc]; exact h _ _ h3⟩⟩
theorem fixedN_ok (I g n size : Nat) (R : List Nat) (w : World) (hn : n < 256 ^ size) (hs : size ≤ 8) (hs0 : 1 ≤ size) (hI : InR w I g (fixL n size ++ R)) :
    Calls Try.prog 21 #[.pointer (some ⟨I, 0, none⟩), .int .i64 size] w fun e w' => e = .returned (.int .u64 (n : Nat)) ∧ InR w' I g R ∧ w.grownBy w' (some I) := by
  have := fixedIn_ok I g size (fixL n size) R w (fixL_len n size) (fun x hx => by
    simp only [fixL, List.mem_map, List.mem_range] at hx
    obtain ⟨i, _, rfl⟩ := hx
    omega) hs hs0 hI
  rw [sumB_fix, Nat.mod_eq_of_lt hn] at this
  exact this
theorem cells_one (x : OpR) : ∀ u ∈ x.cells, u.oneCell' = true := by
  intro u hu
  simp only [OpR.cells, List.mem_cons, List.not_mem_nil, or_false] at hu
  rcases hu with rfl | rfl | rfl <;> rfl
theorem news_op {w : World} {g : Nat} (x : OpR) (h0 : w.cell? ⟨g, 0, none⟩ = some (.int .i64 x.kind)) (h1 : w.cell? ⟨g, 1, none⟩ = some (.string x.key)) (h2 : w.cell? ⟨g, 2, none⟩ = some (.string x.val)) :
    ∀ j u, (x.cells)[j]? = some u → w.cell? ((⟨g, 0, none⟩ : Addr).add j) = some u := by
  intro j u hj
  rw [Addr.add_lit, Nat.zero_add]
  match j, hj with
  | 0, hj => simp [OpR.cells] at hj; subst hj; exact h0
  | 1, hj => simp [OpR.cells] at hj; subst hj; exact h1
  | 2, hj => simp [OpR.cells] at hj; subst hj; exact h2

theorem ofList_nil (s : ByteArray) (h : s.toList = []) : s = ⟨#[]⟩ := by
  rw [ByteArray.toList_eq] at h
  cases s
  simp at h
  subst h; rfl
set_option maxRecDepth 100000 in
set_option maxHeartbeats 3200000 in
theorem decode_ok (seq g off cap : Nat) (l : List OpR) (L : List Nat) (hgd : Good seq l) (he : Enc seq l L) (hcap : L.length ≤ cap) (hcap2 : cap ≤ 9223372036854775807) (w : World) (hr : ReadsB w g off L) :
    Calls Try.prog 9 #[.slice (some ⟨g, off, none⟩) L.length cap] w fun e w' => ∃ v, e = .returned (.tuple #[.int .i64 seq, v, .int .i64 0]) ∧ Has w' w.heap.size 3 v l.length (opCells l) ∧ Below w.heap.size w w' := by
  obtain ⟨i0, hi, hz0, hz1, hz2⟩ := info_parts Try.infoOp
  have HGD := Lib.hid hgd
  have hs2 := hgd.2.2.2.2
  have hl2 := hgd.2.1
  have hl1 := hgd.1
  obtain ⟨A, hA, rfl⟩ := he
  have HA := Lib.hid hA
  obtain ⟨n, hn⟩ : ∃ n, l.length = n := ⟨_, rfl⟩
  have HN := Lib.hid hn
  rw [hn] at hs2 hl2 hl1 hr hcap ⊢
  have hgs := hr.1
  obtain ⟨LL, hLL⟩ : ∃ LL, (fixL seq 8 ++ fixL n 4 ++ A).length = LL := ⟨_, rfl⟩
  have HI : Hid (∀ I, I = w.heap.size → InR (w.alloc (.cells #[.slice (some ⟨g, off, none⟩) LL cap, .bool false] 54)) I g (fixL seq 8 ++ (fixL n 4 ++ A))) := Lib.hid (fun I hI => by
    subst hI
    refine ⟨by simp, off, cap, ?_, ?_, ?_, ?_, by rw [← List.append_assoc]; exact hcap, hcap2, by omega, ?_⟩
    · rw [← List.append_assoc, hLL]; simp [go_sem]
    · simp [go_sem]
    · simp [go_sem]
    · simp [go_sem]
    · rw [← List.append_assoc]
      exact ⟨by simp; omega, fun j hj => by rw [((Below.refl w.heap.size w).alloc (Nat.le_refl _) _).cell (by exact hgs)]; exact hr.2 j hj⟩)
  rw [hLL] at hcap ⊢
  clear hA hn hgd hr hLL
  go_enter Try.func9, Try.ntmps9
  go_wp2_with fail
  refine (fixedN_ok w.heap.size g seq 8 _ _ (by omega) (by decide) (by decide) (HI.out _ rfl)).mono ?_
  rintro e w1 ⟨rfl, hI1, g1⟩
  have HI1 := Lib.hid hI1
  clear hI1
  go_wp2_with fail
  refine (fixedN_ok w.heap.size g n 4 _ _ (by omega) (by decide) (by decide) HI1.out).mono ?_
  rintro e w2 ⟨rfl, hI2, g2⟩
  have hb2 : Below w.heap.size w w2 := (((Below.refl w.heap.size w).alloc (Nat.le_refl _) _).grown g1 (by simp) (fun k hk => by simp at hk; omega)).grown g2 (by have := g1.size; simp at this; omega) (fun k hk => by simp at hk; omega)
  have HI2 := Lib.hid hI2
  have HB2 := Lib.hid hb2
  clear hI2 g1 g2 hb2
  go_wp2
  go_loopw [8, 9] (fun v p9 wr => ∃ (k : Nat) (R : List Nat), k ≤ n ∧ Has wr w.heap.size 3 v k (opCells (l.take k)) ∧ InR wr w.heap.size g R ∧ (v.ownBlock = none ∨ v.ownBlock ≠ some w.heap.size) ∧ v.ownBlock ≠ some g ∧ Below w.heap.size w wr ∧ Hid (EncOps (l.drop k) R))
    (fun v _ _ => n - (match v with | .slice _ m _ => m | _ => 0))
  case atStart => exact ⟨0, A, Nat.zero_le _, Has.nil _ _ _, HI2.out, .inl rfl, by simp [Value.ownBlock], HB2.out, Lib.hid HA.out⟩
  case round =>
    clear HI1 HI2 HB2 HA HI
    obtain ⟨k, R, hk, hv, hI, hdI, hdg, hnx, HE⟩ := hrel
    obtain ⟨ao, vc, rfl, hvc⟩ := hv.shape
    have hnxs := hnx.size
    have hvlt := hv.lt
    have hIz := hI.1
    have hgz := hI.lt
    have hI5 : wr.cell? ⟨w.heap.size, 1, none⟩ = some (.bool false) := by obtain ⟨_, _, _, _, h, _⟩ := hI; exact h
    have HV := Lib.hid hv
    have HNX := Lib.hid hnx
    clear hnx
    by_cases hkn : k < n
    · have hkl : k < l.length := by rw [HN.out]; exact hkn
      have hf := HGD.out.2.2.1 _ (List.getElem_mem hkl)
      obtain ⟨xk, xs, xv, hx⟩ : ∃ a b c, l[k] = OpR.mk a b c := ⟨_, _, _, rfl⟩
      have hE := HE.out
      rw [List.drop_eq_getElem_cons hkl, hx] at hE
      rw [hx] at hf
      obtain ⟨a, rest, ⟨ta, tb, ⟨ka, hka, rfl⟩, hcase, rfl⟩, hrest, rfl⟩ := hE
      have HX := Lib.hid hx
      have HR := Lib.hid hrest
      have hks : xs.size ≤ 64 := hf.1.1
      have hvs : xv.size ≤ 1000 := hf.1.2
      have hform := hf.2
      have hvI : (Value.slice ao k vc).ownBlock ≠ some w.heap.size := by
        rcases hdI with h | h
        · rw [h]; simp
        · exact h
      simp only at hcase
      clear hx hrest hf hv
      rcases hcase with ⟨rfl, ⟨kb, hkb, rfl⟩⟩ | ⟨rfl, rfl⟩
      · have HI1 : Hid (InR wr w.heap.size g (fixL 1 1 ++ ((putL xs.size ka ++ bytesN xs) ++ ((putL xv.size kb ++ bytesN xv) ++ rest)))) := Lib.hid (by have e : fixL 1 1 = [1] := rfl; rw [e]; simpa using hI)
        clear hI
        go_wp2_with fail
        refine (fixedN_ok w.heap.size g 1 1 _ _ (by decide) (by decide) (by decide) (by exact HI1.out)).mono ?_
        rintro e w1 ⟨rfl, hI1, g1⟩
        have HI2 := Lib.hid hI1
        clear hI1
        go_wp2_with fail
        refine (textIn_ok w.heap.size g 64 ka xs _ _ hks (by decide) hka (by exact HI2.out)).mono ?_
        rintro e w2 ⟨rfl, hI2, g2⟩
        have g12 := grown_trans g1 g2
        have hv2 := HV.out.grown g12 hdI
        have hbw2 := HNX.out.grown g12 hnxs (fun k hk => by simp at hk; omega)
        have HI3 := Lib.hid hI2
        have HV2 := Lib.hid hv2
        have HB2 := Lib.hid hbw2
        have hz2' := g12.size
        clear hI2 hv2 hbw2 g1 g2 g12
        go_wp2_with fail
        refine (textIn_ok w.heap.size g 1000 kb xv _ _ hvs (by decide) hkb (by exact HI3.out.alloc _)).mono ?_
        rintro e w3 ⟨rfl, hI3, g3⟩
        have hz3 := g3.size
        simp at hz3
        have c0 : w3.cell? ⟨w2.heap.size, 0, none⟩ = some (.int .i64 1) := by rw [g3.cell_far _ (by simp) (fun h => by simp at h; omega)]; simp [go_sem]
        have c1 : w3.cell? ⟨w2.heap.size, 1, none⟩ = some (.string xs) := by rw [g3.cell_far _ (by simp) (fun h => by simp at h; omega)]; simp [go_sem]
        have c2 : w3.cell? ⟨w2.heap.size, 2, none⟩ = some (.string ⟨#[]⟩) := by rw [g3.cell_far _ (by simp) (fun h => by simp at h; omega)]; simp [go_sem]
        have f2 : w3.frozen? ⟨w2.heap.size, 2, none⟩ = false := by rw [g3.frozen_far _ (by simp) (fun h => by simp at h; omega)]; simp [go_sem]
        have hvp : (Value.slice ao k vc).ownBlock ≠ some w2.heap.size := fun h => by have := (hvlt _ h).2; omega
        have gS := grown_setCell w3 w2.heap.size 2 (.string xv)
        have hv4 := ((HV2.out.alloc (.cells #[.int .i64 1, .string xs, .string ⟨#[]⟩] 43)).grown g3 hdI).grown gS (.inr hvp)
        have hI4 := InR.grown hI3 gS (by simp; omega) (by have := HI3.out.lt; simp; omega)
        have hb4 := ((HB2.out.alloc (by omega) (.cells #[.int .i64 1, .string xs, .string ⟨#[]⟩] 43)).grown g3 (by simp; omega) (fun k hk => by simp at hk; omega)).grown gS (by omega) (fun k hk => by simp at hk; omega)
        have HV4 := Lib.hid hv4
        have HI4 := Lib.hid hI4
        have HB4 := Lib.hid hb4
        clear hI3 g3 gS hv4 hI4 hb4
        go_wp2_with (at_builtin; refine wpList_append_at _ rfl (.tmp 42) (.tmp 44) 31 rfl w.heap.size 43 i0 (.agg #[.int .i64 0, .string ⟨#[]⟩, .string ⟨#[]⟩]) 3 40 Try.underlying31 hi hz0 hz1 hz2 rfl (by decide) (.slice ao k vc) k (opCells (l.take k)) rfl (HV4.out.alloc _) ⟨w3.heap.size, 0, none⟩ 1 1 (OpR.cells (OpR.mk 1 xs xv)) rfl rfl ?b11 ?b21 ?b31 ?b41 ?b51 ?_)
        case b11 => exact news_op _ (by simp [go_sem]) (by simp [go_sem]) (by simp [go_sem])
        case b21 => exact cells_one _
        case b31 => unfold maxLen; omega
        case b41 => omega
        case b51 => simp; omega
        intro vb wb hvb gb nb
        have hIb := (HI4.out.alloc _).grown gb hvI hdg
        have hbb := (HB4.out.alloc (by simp; omega) _).grown gb (by simp; omega) (fun g' hg' => (hvlt g' hg').1)
        have hnI : vb.ownBlock = none ∨ vb.ownBlock ≠ some w.heap.size := by
          cases hvo : vb.ownBlock with
          | none => exact .inl rfl
          | some q =>
            refine .inr (fun e => ?_)
            cases e
            rcases nb _ hvo with h | h
            · exact hvI h
            · first | omega | (simp at h; omega)
        have hnG : vb.ownBlock ≠ some g := fun e => by have := (hvb.lt _ e).1; omega
        have HVB := Lib.hid hvb
        have HIB := Lib.hid hIb
        have HBB := Lib.hid hbb
        obtain ⟨aob, vcb, rfl, _⟩ := hvb.shape
        clear hvb gb nb hIb hbb
        go_wp2
        go_roundw
        case rel =>
          refine ⟨k + 1, rest, by omega, ?_, HIB.out, hnI, hnG, HBB.out, Lib.hid ?_⟩
          · rw [List.take_succ_eq_append_getElem hkl, HX.out, opCells_snoc]; exact HVB.out
          · exact HR.out
        case measure => simp; omega
      · obtain rfl : xv = ⟨#[]⟩ := by
          rcases hform.2 with ⟨_, h⟩ | h
          · exact ofList_nil xv h
          · simp at h
        have HI1 : Hid (InR wr w.heap.size g (fixL 0 1 ++ ((putL xs.size ka ++ bytesN xs) ++ rest))) := Lib.hid (by have e : fixL 0 1 = [0] := rfl; rw [e]; simpa using hI)
        clear hI
        go_wp2_with fail
        refine (fixedN_ok w.heap.size g 0 1 _ _ (by decide) (by decide) (by decide) (by exact HI1.out)).mono ?_
        rintro e w1 ⟨rfl, hI1, g1⟩
        have HI2 := Lib.hid hI1
        clear hI1
        go_wp2_with fail
        refine (textIn_ok w.heap.size g 64 ka xs _ _ hks (by decide) hka (by exact HI2.out)).mono ?_
        rintro e w2 ⟨rfl, hI2, g2⟩
        have g12 := grown_trans g1 g2
        have hv2 := HV.out.grown g12 hdI
        have hbw2 := HNX.out.grown g12 hnxs (fun k hk => by simp at hk; omega)
        have HI3 := Lib.hid hI2
        have HV2 := Lib.hid hv2
        have HB2 := Lib.hid hbw2
        have hz2' := g12.size
        clear hI2 hv2 hbw2 g1 g2 g12

        go_wp2_with (at_builtin; refine wpList_append_at _ rfl (.tmp 42) (.tmp 44) 31 rfl w.heap.size 43 i0 (.agg #[.int .i64 0, .string ⟨#[]⟩, .string ⟨#[]⟩]) 3 40 Try.underlying31 hi hz0 hz1 hz2 rfl (by decide) (.slice ao k vc) k (opCells (l.take k)) rfl ((HV2.out.alloc _).alloc _) ⟨w2.heap.size + 1, 0, none⟩ 1 1 (OpR.cells (OpR.mk 0 xs ⟨#[]⟩)) rfl rfl ?b10 ?b20 ?b30 ?b40 ?b50 ?_)
        case b10 => exact news_op _ (by simp [go_sem]) (by simp [go_sem]) (by simp [go_sem])
        case b20 => exact cells_one _
        case b30 => unfold maxLen; omega
        case b40 => omega
        case b50 => simp; omega
        intro vb wb hvb gb nb
        have hIb := ((HI3.out.alloc _).alloc _).grown gb hvI hdg
        have hbb := ((HB2.out.alloc (by omega) _).alloc (by simp; omega) _).grown gb (by simp; omega) (fun g' hg' => (hvlt g' hg').1)
        have hnI : vb.ownBlock = none ∨ vb.ownBlock ≠ some w.heap.size := by
          cases hvo : vb.ownBlock with
          | none => exact .inl rfl
          | some q =>
            refine .inr (fun e => ?_)
            cases e
            rcases nb _ hvo with h | h
            · exact hvI h
            · first | omega | (simp at h; omega)
        have hnG : vb.ownBlock ≠ some g := fun e => by have := (hvb.lt _ e).1; omega
        have HVB := Lib.hid hvb
        have HIB := Lib.hid hIb
        have HBB := Lib.hid hbb
        obtain ⟨aob, vcb, rfl, _⟩ := hvb.shape
        clear hvb gb nb hIb hbb
        go_wp2
        go_roundw
        case rel =>
          refine ⟨k + 1, rest, by omega, ?_, HIB.out, hnI, hnG, HBB.out, Lib.hid ?_⟩
          · rw [List.take_succ_eq_append_getElem hkl, HX.out, opCells_snoc]; exact HVB.out
          · exact HR.out
        case measure => simp; omega
    · have : k = n := by omega
      subst this
      have hE := HE.out
      rw [List.drop_of_length_le (by rw [HN.out]; exact Nat.le_refl _)] at hE
      have hR : R = [] := hE
      subst hR
      have hI6 : ∃ o c, wr.cell? ⟨w.heap.size, 0, none⟩ = some (.slice (some ⟨g, o, none⟩) 0 c) := by obtain ⟨_, o, c, h, _⟩ := hI; exact ⟨o, c, h⟩
      obtain ⟨o6, c6, hI6⟩ := hI6
      rw [List.take_of_length_le (by rw [HN.out]; exact Nat.le_refl _)] at hv HV
      obtain ⟨gv, ov, cv, hev, _, hgv, _, _, hcv⟩ := hv.parts hl1
      simp only [Value.slice.injEq, true_and] at hev
      obtain ⟨rfl, rfl⟩ := hev
      have HC := Lib.hid (check_ok seq gv ov vc l HGD.out wr (opsAt_of hgv hcv))
      rw [HN.out] at HC
      clear hv hcv hI hE HE
      go_wp2_with (go_at_call 13; refine (HC.out).mono ?_; rintro e w' ⟨rfl, hbc⟩)
      go_ret3
      exact ⟨_, rfl, HV.out.below hbc (fun g hg => (hvlt g hg).2), HNX.out.trans (hbc.mono hnxs)⟩
end Go.Proofs.Ytcgbellmclhlpaa
