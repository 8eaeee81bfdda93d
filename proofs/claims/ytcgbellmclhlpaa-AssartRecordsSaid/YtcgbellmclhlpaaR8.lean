/-
  Records: contract of frame's Scan.
-/
import Derived.Test.YtcgbellmclhlpaaR7
import Derived.Laws.BytesArg
import Derived.Laws.IdiomStrings
namespace Go.Proofs.Ytcgbellmclhlpaa
set_option linter.unusedVariables false
set_option linter.unusedSimpArgs false
open Go.RowKit Vi Sl

theorem Try.infoString : (Try.prog.info? 9).map (fun i => (i.zero, i.size, i.bytes)) = some (some (.string ⟨#[]⟩), 1, 16) := by kernel_rfl
/-- A string of bytes. -/
def strV (l : List Nat) : Value := .string ⟨(l.map UInt8.ofNat).toArray⟩
theorem str_of_has {w : World} {base n : Nat} {v : Value} {l : List Nat} (h : Has w base 1 v n (byteV l)) (hl : ∀ x ∈ l, x < 256) : (convert 27 9 v).run Try.prog w = .ok (strV l) w := by
  have hn : l.length = n := by have := h.1; rw [byteV_len] at this; omega
  rcases h.2 with ⟨rfl, h0⟩ | ⟨g, off, cap, rfl, _, _, _, _, hc, _⟩
  · have : l = [] := List.length_eq_zero_iff.1 (by omega)
    subst this
    exact run_convert_bytes_nil w 27 5 Try.underlying27 Try.underlying5 0 0 9 Try.underlying9
  · have := run_convert_bytes_back (P := Try.prog) w 27 9 5 ⟨g, off, none⟩ cap (l.map UInt8.ofNat) Try.underlying27 Try.underlying5 Try.underlying9 (fun j hj => by
      have hj' : j < l.length := by simpa using hj
      have h1 := hc j (.int .u8 ((l[j] : Nat) : Int)) (by simp [byteV, hj'])
      have hp : (⟨g, off, none⟩ : Addr).add j = ⟨g, off + j, none⟩ := by unfold Addr.add; split <;> simp_all
      rw [hp, h1]
      have h2 := hl l[j] (List.getElem_mem hj')
      have h3 : (UInt8.ofNat l[j]).toNat = l[j] := by simp; omega
      simp; omega)
    rw [List.length_map, hn] at this
    exact this

/-- What Scan tells of bytes. -/
def scanL (B : List Nat) : Nat → Nat → Bool → List Nat → List (List Nat)
  | 0, _, _, _ => []
  | f + 1, p, b, R =>
    match takeN B p with
    | none => []
    | some (k, q, n) =>
      if b = decide (k = 3 ∨ k = 4) then
        if k = 2 ∨ k = 3 then scanL B f (q + n) true ((if b then R else []) ++ (B.drop q).take n)
        else ((if b then R else []) ++ (B.drop q).take n) :: scanL B f (q + n) false ((if b then R else []) ++ (B.drop q).take n)
      else []
theorem scan_none (B : List Nat) (f p : Nat) (b : Bool) (R : List Nat) (h : takeN B p = none) : scanL B (f + 1) p b R = [] := by rw [scanL, h]
theorem scan_bad (B : List Nat) (f p : Nat) (b : Bool) (R : List Nat) (k q n : Nat) (h : takeN B p = some (k, q, n)) (hb : ¬ b = decide (k = 3 ∨ k = 4)) : scanL B (f + 1) p b R = [] := by
  rw [scanL, h]; exact if_neg hb
theorem scan_more (B : List Nat) (f p : Nat) (b : Bool) (R : List Nat) (k q n : Nat) (h : takeN B p = some (k, q, n)) (hb : b = decide (k = 3 ∨ k = 4)) (hk : k = 2 ∨ k = 3) :
    scanL B (f + 1) p b R = scanL B f (q + n) true ((if b then R else []) ++ (B.drop q).take n) := by
  rw [scanL, h]
  show (if b = decide (k = 3 ∨ k = 4) then _ else _) = _
  rw [if_pos hb, if_pos hk]
theorem scan_end (B : List Nat) (f p : Nat) (b : Bool) (R : List Nat) (k q n : Nat) (h : takeN B p = some (k, q, n)) (hb : b = decide (k = 3 ∨ k = 4)) (hk : ¬ (k = 2 ∨ k = 3)) :
    scanL B (f + 1) p b R = ((if b then R else []) ++ (B.drop q).take n) :: scanL B f (q + n) false ((if b then R else []) ++ (B.drop q).take n) := by
  rw [scanL, h]
  show (if b = decide (k = 3 ∨ k = 4) then _ else _) = _
  rw [if_pos hb, if_neg hk]
theorem apart_of {v u : Value} (h : ∀ g, u.ownBlock = some g → v.ownBlock ≠ some g) : v.ownBlock = none ∨ v.ownBlock ≠ u.ownBlock := by
  cases hv : v.ownBlock with
  | none => exact .inl rfl
  | some g => exact .inr (fun e => h g e.symm hv)
theorem disj_next {u v : Value} {va : Value} {N : Nat} (h : ∀ g, u.ownBlock = some g → v.ownBlock ≠ some g) (hv : ∀ g, v.ownBlock = some g → g < N) (hn : ∀ g, va.ownBlock = some g → u.ownBlock = some g ∨ N ≤ g) :
    ∀ g, va.ownBlock = some g → v.ownBlock ≠ some g := by
  intro g hg hvg
  rcases hn g hg with h1 | h1
  · exact h g h1 hvg
  · have := hv g hvg; omega
theorem str_one (L : List (List Nat)) : ∀ u ∈ L.map strV, u.oneCell' = true := by
  intro u hu
  obtain ⟨x, _, rfl⟩ := List.mem_map.1 hu
  rfl

set_option maxRecDepth 100000 in
set_option maxHeartbeats 3200000 in
theorem scan_ok (g o cap : Nat) (B : List Nat) (hmax : B.length ≤ 1099511627776) (hB : ∀ x ∈ B, x < 256) (hcap : B.length ≤ cap) (hcap2 : cap ≤ 9223372036854775807) (w : World) (hs : Lies w g o (byteV B)) :
    Calls Try.prog 8 #[.slice (some ⟨g, o, none⟩) B.length cap] w fun e w' => ∃ (v : Value) (t : Nat), e = .returned (.tuple #[v, .int .i64 (t : Nat)]) ∧
      Has w' w.heap.size 1 v (scanL B (B.length + 1) 0 false []).length ((scanL B (B.length + 1) 0 false []).map strV) ∧ Below w.heap.size w w' := by
  obtain ⟨i0, hi, hz0, hz1, hz2⟩ := info_parts Try.infoByte
  obtain ⟨i9, ji, jz0, jz1, jz2⟩ := info_parts Try.infoString
  obtain ⟨len, hlen⟩ : ∃ len, B.length = len := ⟨_, rfl⟩
  have HT := Lib.hid (fun p (hp : p ≤ len) w' (h : Below w.heap.size w w') => take_ok p g o cap B (by omega) hmax hB hcap hcap2 w' (hs.below h hs.1))
  have HLB := Lib.hid (fun q n w' (hq : q + n ≤ len) (h : Below w.heap.size w w') => lies_part (hs.below h hs.1) q n)
  have HLL := Lib.hid (fun q n (hq : q + n ≤ len) => (show ((B.drop q).take n).length = n by rw [List.length_take, List.length_drop]; omega))
  rw [hlen] at HT hmax hcap ⊢
  have HBB := Lib.hid hB
  have hgw := hs.1
  obtain ⟨Z, hZ⟩ : ∃ Z, scanL B (len + 1) 0 false [] = Z := ⟨_, rfl⟩
  have HZ := Lib.hid hZ
  rw [hZ]
  have HLEN := Lib.hid hlen
  clear hZ hs hB hlen
  go_enter Try.func8, Try.ntmps8
  go_wp2
  go_loopw [4, 5, 6, 7, 8] (fun out rec at_ en op wr => ∃ (f p e : Nat) (b : Bool) (R : List Nat) (L : List (List Nat)), at_ = .int .i64 (p : Nat) ∧ en = .int .i64 (e : Nat) ∧ op = .bool b ∧
      Has wr w.heap.size 1 out L.length (L.map strV) ∧ Has wr w.heap.size 1 rec R.length (byteV R) ∧ Hid (∀ g, rec.ownBlock = some g → out.ownBlock ≠ some g) ∧ Below w.heap.size w wr ∧ p ≤ len ∧ L.length ≤ p ∧ R.length ≤ p ∧ len < f + p ∧
      Hid (L ++ scanL B f p b R = Z) ∧ Hid (∀ x ∈ R, x < 256))
    (fun _ _ at_ _ _ _ => len - (intOf at_).toNat)
  case atStart => exact ⟨len + 1, 0, 0, false, [], [], rfl, rfl, rfl, Has.nil _ _ _, Has.nil _ _ _, Lib.hid (fun g h => by cases h), Below.refl _ _, Nat.zero_le _, Nat.zero_le _, Nat.zero_le _, by omega, Lib.hid (by rw [List.nil_append]; exact HZ.out), Lib.hid (fun x hx => by cases hx)⟩
  case round =>
    obtain ⟨f, p, e, b, R, L, rfl, rfl, rfl, hout, hrec, HDI, hnx, hp, hL, hR, hf, HE, HRB⟩ := hrel
    obtain ⟨f, rfl⟩ : ∃ f', f = f' + 1 := ⟨f - 1, by omega⟩
    have HT2 := Lib.hid (HT.out p hp _ hnx)
    have HOUT := Lib.hid hout
    have HREC := Lib.hid hrec
    have hnxs := hnx.size
    have HNX := Lib.hid hnx
    clear hout hrec hnx
    go_wp2_with fail
    refine (HT2.out).mono ?_
    rintro ee wx ⟨v, rfl, ⟨k, s, t, ok, rfl, hcase⟩, hbx⟩
    have hbx' := HNX.out.trans (hbx.mono hnxs)
    have houtx := HOUT.out.below hbx (fun g hg => (HOUT.out.lt g hg).2)
    have hrecx := HREC.out.below hbx (fun g hg => (HREC.out.lt g hg).2)
    have hbxs := hbx.size
    have hxs : w.heap.size ≤ wx.heap.size := by omega
    have HOX := Lib.hid houtx
    have HRX := Lib.hid hrecx
    have HBX := Lib.hid hbx'
    clear hbx houtx hrecx hbx' HT2 HOUT HREC HNX
    rcases hcase with ⟨h1, rfl⟩ | ⟨q, n, a, c, h1, rfl, hk1, hk4, rfl, ht, hpq, hqn, ha, hc, hc2⟩
    · have HX := Lib.hid (show L = Z by rw [← HE.out, scan_none B f p b R h1, List.append_nil])
      clear h1
      go_wp2
      go_ret2
      exact ⟨_, e, rfl, by rw [← HX.out]; exact HOX.out, HBX.out⟩
    have HTK := Lib.hid h1
    rw [HLEN.out] at hqn
    have HA := Lib.hid ha
    have HLN := Lib.hid (HLL.out q n hqn)
    have ht1 : t ≤ len := by omega
    have ht2 : p + 7 + n ≤ t := by omega
    have HTT := Lib.hid ht
    clear ht
    clear h1 ha
    rcases (show (b = false ∧ k = 1) ∨ (b = false ∧ k = 2) ∨ (b = true ∧ k = 3) ∨ (b = true ∧ k = 4) ∨ (b = false ∧ k = 3) ∨ (b = false ∧ k = 4) ∨ (b = true ∧ k = 1) ∨ (b = true ∧ k = 2) by cases b <;> simp <;> omega) with ⟨rfl, rfl⟩ | ⟨rfl, rfl⟩ | ⟨rfl, rfl⟩ | ⟨rfl, rfl⟩ | ⟨rfl, rfl⟩ | ⟨rfl, rfl⟩ | ⟨rfl, rfl⟩ | ⟨rfl, rfl⟩
    · have HSRC := Lib.hid (show ∀ j u, (byteV ((B.drop q).take n))[j]? = some u → wx.cell? ((⟨g, a, none⟩ : Addr).add j) = some u from fun j u hj => by
        by_cases h0 : 0 < n
        · rw [HA.out h0]; exact (HLB.out q n wx hqn HBX.out).add j u hj
        · have : (B.drop q).take n = [] := List.length_eq_zero_iff.1 (by rw [HLN.out]; omega)
          rw [this] at hj; simp [byteV] at hj)
      have hne := scan_end B f p false R 1 q n HTK.out (by decide) (by decide)
      have hrl : ([] ++ (B.drop q).take n).length = n := by simp [List.length_append, HLN.out]
      have hrb : ∀ x ∈ [] ++ (B.drop q).take n, x < 256 := fun x hx => by
        rcases List.mem_append.1 hx with h | h
        · cases h
        · exact HBB.out x (List.mem_of_mem_drop (List.mem_of_mem_take h))
      have hne2 : scanL B (f + 1) p false R = ([] ++ (B.drop q).take n) :: scanL B f (q + n) false ([] ++ (B.drop q).take n) := hne
      have hbv : byteV ([] ++ (B.drop q).take n) = byteV [] ++ byteV ((B.drop q).take n) := byteV_append _ _
      have HBV := Lib.hid hbv
      have HRLn := Lib.hid hrl
      have HRBn := Lib.hid hrb
      have HNE := Lib.hid hne2
      clear hne hrl hrb hne2 hbv
      generalize [] ++ (B.drop q).take n = R' at *
      go_wp2_with (first
        | (at_builtin; refine wpList_append_at _ rfl (.tmp 37) (.tmp 38) 27 rfl w.heap.size 5 i0 (.int .u8 0) 1 1 Try.underlying27 hi hz0 hz1 hz2 rfl (by decide) _ 0 (byteV []) rfl (Has.nil wx w.heap.size 1) ⟨g, a, none⟩ n c (byteV ((B.drop q).take n)) rfl ?s1 ?s2 ?s3 ?s4 ?s5 ?s6 ?_))
      case s1 => rw [byteV_len, HLN.out]; omega
      case s2 => exact HSRC.out
      case s3 => exact byteV_one _
      case s4 => unfold maxLen; omega
      case s5 => omega
      case s6 => exact hxs
      intro va wa hva gva nva
      rw [← HBV.out, ← HRLn.out] at hva
      have hoa := HOX.out.grown gva (apart_of (fun g (h : (Value.slice none 0 0).ownBlock = some g) => by cases h))
      have hba := HBX.out.grown gva hxs (fun g hg => by cases hg)
      have hda := disj_next (fun g (h : (Value.slice none 0 0).ownBlock = some g) => by cases h) (fun g hg => (HOX.out.lt g hg).2) nva
      have hsa := gva.size
      have HVA := Lib.hid hva
      have HOA := Lib.hid hoa
      have HBA := Lib.hid hba
      have HDA := Lib.hid hda
      have hrl := HRLn.out
      have hcv := str_of_has hva HRBn.out
      obtain ⟨y, hy⟩ : ∃ y, strV R' = .string y := ⟨_, rfl⟩
      rw [hy] at hcv
      have HY := Lib.hid hy
      clear hy
      clear hva hoa hba hda gva nva
      go_wp2_with (first
        | (at_builtin; refine wpList_append_at _ rfl (.tmp 49) (.tmp 52) 34 rfl w.heap.size 9 i9 (.string ⟨#[]⟩) 1 16 Try.underlying34 ji jz0 jz1 jz2 rfl (by decide) _ L.length (L.map strV) rfl (HOA.out.alloc _) ⟨wa.heap.size, 0, none⟩ 1 1 [.string y] rfl ?t1 ?t2 ?t3 ?t4 ?t5 ?t6 ?_))
      case t1 => rfl
      case t2 =>
        intro j u hj
        match j, hj with
        | 0, hj => simp at hj; subst hj; simp [Addr.add]
      case t3 => intro u hu; simp at hu; subst hu; rfl
      case t4 => unfold maxLen; omega
      case t5 => omega
      case t6 => simp; omega
      intro vb wb hvb gvb nvb
      have hdb := disj_next (v := va) (u := _) (fun g hg h => HDA.out g h hg) (fun g hg => Nat.lt_of_lt_of_le (HVA.out.lt g hg).2 (by simp)) nvb
      have hvb2 := (HVA.out.alloc _).grown gvb (apart_of (fun g hg h => HDA.out g h hg))
      have hbb := (HBA.out.alloc (by omega) _).grown gvb (by simp; omega) (fun g hg => (HOA.out.lt g hg).1)
      have HD := Lib.hid hdb
      have HV := Lib.hid hvb
      have HV2 := Lib.hid hvb2
      have HBB2 := Lib.hid hbb
      clear hcv hdb hvb hvb2 hbb gvb nvb
      go_wp2
      go_roundw
      case rel =>
        refine ⟨f, t, t, false, R', L ++ [R'], rfl, rfl, rfl, ?_, HV2.out, Lib.hid (fun g hg h => HD.out g h hg), HBB2.out, by omega, by simp; omega, by omega, by omega, Lib.hid ?_, HRBn⟩
        · rw [List.map_append, List.length_append, List.map_singleton, HY.out]; exact HV.out
        · rw [HTT.out, List.append_assoc, List.singleton_append, ← HNE.out]; exact HE.out
      case measure => simp [intOf]; omega
    · have HSRC := Lib.hid (show ∀ j u, (byteV ((B.drop q).take n))[j]? = some u → wx.cell? ((⟨g, a, none⟩ : Addr).add j) = some u from fun j u hj => by
        by_cases h0 : 0 < n
        · rw [HA.out h0]; exact (HLB.out q n wx hqn HBX.out).add j u hj
        · have : (B.drop q).take n = [] := List.length_eq_zero_iff.1 (by rw [HLN.out]; omega)
          rw [this] at hj; simp [byteV] at hj)
      have hne := scan_more B f p false R 2 q n HTK.out (by decide) (by decide)
      have hrl : ([] ++ (B.drop q).take n).length = n := by simp [List.length_append, HLN.out]
      have hrb : ∀ x ∈ [] ++ (B.drop q).take n, x < 256 := fun x hx => by
        rcases List.mem_append.1 hx with h | h
        · cases h
        · exact HBB.out x (List.mem_of_mem_drop (List.mem_of_mem_take h))
      have hne2 : scanL B (f + 1) p false R = scanL B f (q + n) true ([] ++ (B.drop q).take n) := hne
      have hbv : byteV ([] ++ (B.drop q).take n) = byteV [] ++ byteV ((B.drop q).take n) := byteV_append _ _
      have HBV := Lib.hid hbv
      have HRLn := Lib.hid hrl
      have HRBn := Lib.hid hrb
      have HNE := Lib.hid hne2
      clear hne hrl hrb hne2 hbv
      generalize [] ++ (B.drop q).take n = R' at *
      go_wp2_with (first
        | (at_builtin; refine wpList_append_at _ rfl (.tmp 37) (.tmp 38) 27 rfl w.heap.size 5 i0 (.int .u8 0) 1 1 Try.underlying27 hi hz0 hz1 hz2 rfl (by decide) _ 0 (byteV []) rfl (Has.nil wx w.heap.size 1) ⟨g, a, none⟩ n c (byteV ((B.drop q).take n)) rfl ?s1 ?s2 ?s3 ?s4 ?s5 ?s6 ?_))
      case s1 => rw [byteV_len, HLN.out]; omega
      case s2 => exact HSRC.out
      case s3 => exact byteV_one _
      case s4 => unfold maxLen; omega
      case s5 => omega
      case s6 => exact hxs
      intro va wa hva gva nva
      rw [← HBV.out, ← HRLn.out] at hva
      have hoa := HOX.out.grown gva (apart_of (fun g (h : (Value.slice none 0 0).ownBlock = some g) => by cases h))
      have hba := HBX.out.grown gva hxs (fun g hg => by cases hg)
      have hda := disj_next (fun g (h : (Value.slice none 0 0).ownBlock = some g) => by cases h) (fun g hg => (HOX.out.lt g hg).2) nva
      have hsa := gva.size
      have HVA := Lib.hid hva
      have HOA := Lib.hid hoa
      have HBA := Lib.hid hba
      have HDA := Lib.hid hda
      have hrl := HRLn.out
      clear hva hoa hba hda gva nva
      go_wp2
      go_roundw
      case rel =>
        refine ⟨f, t, e, true, R', L, rfl, rfl, rfl, HOA.out, HVA.out, HDA, HBA.out, by omega, by omega, by omega, by omega, Lib.hid ?_, HRBn⟩
        rw [HTT.out, ← HNE.out]; exact HE.out
      case measure => simp [intOf]; omega
    · have HSRC := Lib.hid (show ∀ j u, (byteV ((B.drop q).take n))[j]? = some u → wx.cell? ((⟨g, a, none⟩ : Addr).add j) = some u from fun j u hj => by
        by_cases h0 : 0 < n
        · rw [HA.out h0]; exact (HLB.out q n wx hqn HBX.out).add j u hj
        · have : (B.drop q).take n = [] := List.length_eq_zero_iff.1 (by rw [HLN.out]; omega)
          rw [this] at hj; simp [byteV] at hj)
      have hne := scan_more B f p true R 3 q n HTK.out (by decide) (by decide)
      have hrl : (R ++ (B.drop q).take n).length = R.length + n := by simp [List.length_append, HLN.out]
      have hrb : ∀ x ∈ R ++ (B.drop q).take n, x < 256 := fun x hx => by
        rcases List.mem_append.1 hx with h | h
        · exact HRB.out x h
        · exact HBB.out x (List.mem_of_mem_drop (List.mem_of_mem_take h))
      have hne2 : scanL B (f + 1) p true R = scanL B f (q + n) true (R ++ (B.drop q).take n) := hne
      have hbv : byteV (R ++ (B.drop q).take n) = byteV R ++ byteV ((B.drop q).take n) := byteV_append _ _
      have HBV := Lib.hid hbv
      have HRLn := Lib.hid hrl
      have HRBn := Lib.hid hrb
      have HNE := Lib.hid hne2
      clear hne hrl hrb hne2 hbv
      generalize R ++ (B.drop q).take n = R' at *
      go_wp2_with (first
        | (at_builtin; refine wpList_append_at _ rfl (.tmp 37) (.tmp 38) 27 rfl w.heap.size 5 i0 (.int .u8 0) 1 1 Try.underlying27 hi hz0 hz1 hz2 rfl (by decide) _ R.length (byteV R) rfl HRX.out ⟨g, a, none⟩ n c (byteV ((B.drop q).take n)) rfl ?s1 ?s2 ?s3 ?s4 ?s5 ?s6 ?_))
      case s1 => rw [byteV_len, HLN.out]; omega
      case s2 => exact HSRC.out
      case s3 => exact byteV_one _
      case s4 => unfold maxLen; omega
      case s5 => omega
      case s6 => exact hxs
      intro va wa hva gva nva
      rw [← HBV.out, ← HRLn.out] at hva
      have hoa := HOX.out.grown gva (apart_of HDI.out)
      have hba := HBX.out.grown gva hxs (fun g hg => (HRX.out.lt g hg).1)
      have hda := disj_next HDI.out (fun g hg => (HOX.out.lt g hg).2) nva
      have hsa := gva.size
      have HVA := Lib.hid hva
      have HOA := Lib.hid hoa
      have HBA := Lib.hid hba
      have HDA := Lib.hid hda
      have hrl := HRLn.out
      clear hva hoa hba hda gva nva
      go_wp2
      go_roundw
      case rel =>
        refine ⟨f, t, e, true, R', L, rfl, rfl, rfl, HOA.out, HVA.out, HDA, HBA.out, by omega, by omega, by omega, by omega, Lib.hid ?_, HRBn⟩
        rw [HTT.out, ← HNE.out]; exact HE.out
      case measure => simp [intOf]; omega
    · have HSRC := Lib.hid (show ∀ j u, (byteV ((B.drop q).take n))[j]? = some u → wx.cell? ((⟨g, a, none⟩ : Addr).add j) = some u from fun j u hj => by
        by_cases h0 : 0 < n
        · rw [HA.out h0]; exact (HLB.out q n wx hqn HBX.out).add j u hj
        · have : (B.drop q).take n = [] := List.length_eq_zero_iff.1 (by rw [HLN.out]; omega)
          rw [this] at hj; simp [byteV] at hj)
      have hne := scan_end B f p true R 4 q n HTK.out (by decide) (by decide)
      have hrl : (R ++ (B.drop q).take n).length = R.length + n := by simp [List.length_append, HLN.out]
      have hrb : ∀ x ∈ R ++ (B.drop q).take n, x < 256 := fun x hx => by
        rcases List.mem_append.1 hx with h | h
        · exact HRB.out x h
        · exact HBB.out x (List.mem_of_mem_drop (List.mem_of_mem_take h))
      have hne2 : scanL B (f + 1) p true R = (R ++ (B.drop q).take n) :: scanL B f (q + n) false (R ++ (B.drop q).take n) := hne
      have hbv : byteV (R ++ (B.drop q).take n) = byteV R ++ byteV ((B.drop q).take n) := byteV_append _ _
      have HBV := Lib.hid hbv
      have HRLn := Lib.hid hrl
      have HRBn := Lib.hid hrb
      have HNE := Lib.hid hne2
      clear hne hrl hrb hne2 hbv
      generalize R ++ (B.drop q).take n = R' at *
      go_wp2_with (first
        | (at_builtin; refine wpList_append_at _ rfl (.tmp 37) (.tmp 38) 27 rfl w.heap.size 5 i0 (.int .u8 0) 1 1 Try.underlying27 hi hz0 hz1 hz2 rfl (by decide) _ R.length (byteV R) rfl HRX.out ⟨g, a, none⟩ n c (byteV ((B.drop q).take n)) rfl ?s1 ?s2 ?s3 ?s4 ?s5 ?s6 ?_))
      case s1 => rw [byteV_len, HLN.out]; omega
      case s2 => exact HSRC.out
      case s3 => exact byteV_one _
      case s4 => unfold maxLen; omega
      case s5 => omega
      case s6 => exact hxs
      intro va wa hva gva nva
      rw [← HBV.out, ← HRLn.out] at hva
      have hoa := HOX.out.grown gva (apart_of HDI.out)
      have hba := HBX.out.grown gva hxs (fun g hg => (HRX.out.lt g hg).1)
      have hda := disj_next HDI.out (fun g hg => (HOX.out.lt g hg).2) nva
      have hsa := gva.size
      have HVA := Lib.hid hva
      have HOA := Lib.hid hoa
      have HBA := Lib.hid hba
      have HDA := Lib.hid hda
      have hrl := HRLn.out
      have hcv := str_of_has hva HRBn.out
      obtain ⟨y, hy⟩ : ∃ y, strV R' = .string y := ⟨_, rfl⟩
      rw [hy] at hcv
      have HY := Lib.hid hy
      clear hy
      clear hva hoa hba hda gva nva
      go_wp2_with (first
        | (at_builtin; refine wpList_append_at _ rfl (.tmp 49) (.tmp 52) 34 rfl w.heap.size 9 i9 (.string ⟨#[]⟩) 1 16 Try.underlying34 ji jz0 jz1 jz2 rfl (by decide) _ L.length (L.map strV) rfl (HOA.out.alloc _) ⟨wa.heap.size, 0, none⟩ 1 1 [.string y] rfl ?t1 ?t2 ?t3 ?t4 ?t5 ?t6 ?_))
      case t1 => rfl
      case t2 =>
        intro j u hj
        match j, hj with
        | 0, hj => simp at hj; subst hj; simp [Addr.add]
      case t3 => intro u hu; simp at hu; subst hu; rfl
      case t4 => unfold maxLen; omega
      case t5 => omega
      case t6 => simp; omega
      intro vb wb hvb gvb nvb
      have hdb := disj_next (v := va) (u := _) (fun g hg h => HDA.out g h hg) (fun g hg => Nat.lt_of_lt_of_le (HVA.out.lt g hg).2 (by simp)) nvb
      have hvb2 := (HVA.out.alloc _).grown gvb (apart_of (fun g hg h => HDA.out g h hg))
      have hbb := (HBA.out.alloc (by omega) _).grown gvb (by simp; omega) (fun g hg => (HOA.out.lt g hg).1)
      have HD := Lib.hid hdb
      have HV := Lib.hid hvb
      have HV2 := Lib.hid hvb2
      have HBB2 := Lib.hid hbb
      clear hcv hdb hvb hvb2 hbb gvb nvb
      go_wp2
      go_roundw
      case rel =>
        refine ⟨f, t, t, false, R', L ++ [R'], rfl, rfl, rfl, ?_, HV2.out, Lib.hid (fun g hg h => HD.out g h hg), HBB2.out, by omega, by simp; omega, by omega, by omega, Lib.hid ?_, HRBn⟩
        · rw [List.map_append, List.length_append, List.map_singleton, HY.out]; exact HV.out
        · rw [HTT.out, List.append_assoc, List.singleton_append, ← HNE.out]; exact HE.out
      case measure => simp [intOf]; omega
    · have HX := Lib.hid (show L = Z by rw [← HE.out, scan_bad B f p false R 3 q n HTK.out (by decide), List.append_nil])
      go_wp2
      go_ret2
      exact ⟨_, e, rfl, by rw [← HX.out]; exact HOX.out, HBX.out⟩
    · have HX := Lib.hid (show L = Z by rw [← HE.out, scan_bad B f p false R 4 q n HTK.out (by decide), List.append_nil])
      go_wp2
      go_ret2
      exact ⟨_, e, rfl, by rw [← HX.out]; exact HOX.out, HBX.out⟩
    · have HX := Lib.hid (show L = Z by rw [← HE.out, scan_bad B f p true R 1 q n HTK.out (by decide), List.append_nil])
      go_wp2
      go_ret2
      exact ⟨_, e, rfl, by rw [← HX.out]; exact HOX.out, HBX.out⟩
    · have HX := Lib.hid (show L = Z by rw [← HE.out, scan_bad B f p true R 2 q n HTK.out (by decide), List.append_nil])
      go_wp2
      go_ret2
      exact ⟨_, e, rfl, by rw [← HX.out]; exact HOX.out, HBX.out⟩
end Go.Proofs.Ytcgbellmclhlpaa
