/-
  Merge: contracts of View, of the document's Pairs.
-/
import Derived.Test.YtcgkpgjjifggcaaN25
import Derived.Test.YtcgkpgjjifggcaaM4
namespace Go.Proofs.Ytcgkpgjjifggcaa
set_option linter.unusedVariables false
set_option linter.unusedSimpArgs false
open Go.RowKit Sl

def ckey (c : CellR) : ByteArray := c.ver.key
def lowB (q : Int) (c : CellR) : Bool := decide (c.ver.seq ≤ q)
def tellP (c : CellR) : List PairR := if c.ver.kind = 1 then [⟨c.ver.key, c.val⟩] else []
abbrev viewP (q : Int) (l : List CellR) : List PairR := Pl.viewGo ckey (lowB q) tellP none l
abbrev viewS (q : Int) (l : List CellR) : Option ByteArray := Pl.viewSt ckey (lowB q) none l
theorem take_snoc (l : List CellR) (k : Nat) (c : CellR) (h : l[k]? = some c) : l.take (k + 1) = l.take k ++ [c] := by
  obtain ⟨h1, rfl⟩ := List.getElem?_eq_some_iff.1 h
  exact List.take_succ_eq_append_getElem h1
theorem view_skip (q : Int) (l : List CellR) (k : Nat) (c : CellR) (h : l[k]? = some c) (hs : lowB q c = false ∨ viewS q (l.take k) = some (ckey c)) : viewP q (l.take (k + 1)) = viewP q (l.take k) ∧ viewS q (l.take (k + 1)) = viewS q (l.take k) := by
  unfold viewP viewS at *
  rw [take_snoc l k c h, Pl.viewGo_snoc, Pl.viewSt_snoc, if_pos hs, if_pos hs]
  simp
theorem view_tell (q : Int) (l : List CellR) (k : Nat) (c : CellR) (h : l[k]? = some c) (hs : ¬ (lowB q c = false ∨ viewS q (l.take k) = some (ckey c))) : viewP q (l.take (k + 1)) = viewP q (l.take k) ++ tellP c ∧ viewS q (l.take (k + 1)) = some (ckey c) := by
  unfold viewP viewS at *
  rw [take_snoc l k c h, Pl.viewGo_snoc, Pl.viewSt_snoc, if_neg hs, if_neg hs]
  exact ⟨rfl, rfl⟩
theorem view_len (q : Int) (l : List CellR) : ∀ st, (Pl.viewGo ckey (lowB q) tellP st l).length ≤ l.length := by
  induction l with
  | nil => intro st; simp [Pl.viewGo]
  | cons c l ih =>
    intro st
    unfold Pl.viewGo
    split
    · have := ih st; simp; omega
    · have := ih (some (ckey c))
      rw [List.length_append]
      have h1 : (tellP c).length ≤ 1 := by unfold tellP; split <;> simp
      simp; omega
theorem news_pair (W : World) (b : Nat) (c : PairR) (h0 : W.cell? ⟨b, 0, none⟩ = some (.string c.key)) (h1 : W.cell? ⟨b, 1, none⟩ = some (.string c.val)) :
    ∀ j u, (PairR.cells c)[j]? = some u → W.cell? ((⟨b, 0, none⟩ : Addr).add j) = some u := by
  intro j u hj
  match j, hj with
  | 0, hj => simp [PairR.cells] at hj; subst hj; simpa [Addr.add] using h0
  | 1, hj => simp [PairR.cells] at hj; subst hj; simpa [Addr.add] using h1
theorem news_freshP (W : World) (c : PairR) : ∀ j u, (PairR.cells c)[j]? = some u → (W.alloc (.cells #[.string c.key, .string c.val] 49)).cell? ((⟨W.heap.size, 0, none⟩ : Addr).add j) = some u :=
  news_pair _ _ c (by simp [go_sem]) (by simp [go_sem])
def StIs (st : Option ByteArray) (s6 s7 : Value) : Prop := (st = none ∧ s6 = .string ⟨#[]⟩ ∧ s7 = .bool false) ∨ (∃ kk, st = some kk ∧ s6 = .string kk ∧ s7 = .bool true)
def PairsPost (D : List PairR) (m : Nat) (w : World) (e : Ending) (w' : World) : Prop := ∃ a c, e = .returned (.slice a m c) ∧ Has w' w.heap.size 2 (.slice a m c) m (flat PairR.cells D) ∧ Below w.heap.size w w'

set_option maxRecDepth 100000 in
set_option maxHeartbeats 6400000 in
theorem view_ok (v : Value) (l : List CellR) (S : Nat → Prop) (q : Int) (w : World) (h : CV w S v l) (hbig : l.length ≤ 1000000) (D : List PairR) (mD : Nat) (hD : viewP q l = D) (hmD : D.length = mD) :
    Calls Try.prog 19 #[v, .int .i64 q] w (PairsPost D mD w) := by
  obtain ⟨i0, hi, hz0, hz1, hz2⟩ := info_parts Try.infoPair
  obtain ⟨ao, cap, hv⟩ := h.shape
  obtain ⟨n, hn⟩ : ∃ n, l.length = n := ⟨_, rfl⟩
  rw [hn] at hv hbig
  subst hv
  obtain ⟨-, h2, h3⟩ := SlV.len h
  unfold maxLen at h3
  have HV := Lib.hid h
  have HN := Lib.hid hn
  have HD := Lib.hid hD
  have HMD := Lib.hid hmD
  have HVL := Lib.hid (fun k => view_len q (l.take k) none)
  clear h hn hD hmD
  go_enter Try.func19, Try.ntmps19
  go_wp2_with fail
  go_loopg [5, 6, 7, 12] n (fun g s5 s6 s7 s12 wr => ∃ (k : Nat) (E : List PairR) (a m c : _) (st : Option ByteArray), g = n - k ∧ s12 = .int .i64 (k : Nat) ∧ k ≤ n ∧ s5 = .slice a m c ∧ m ≤ k ∧ StIs st s6 s7 ∧ Hid (viewP q (l.take k) = E) ∧ Hid (viewS q (l.take k) = st) ∧ Hid (E.length = m) ∧ Hid (Has wr w.heap.size 2 (.slice a m c) m (flat PairR.cells E)) ∧ Hid (Below w.heap.size w wr))
  case atStart => exact ⟨0, [], none, 0, 0, none, by omega, rfl, Nat.zero_le _, rfl, Nat.le_refl _, .inl ⟨rfl, rfl, rfl⟩, Lib.hid rfl, Lib.hid rfl, Lib.hid rfl, Lib.hid (Has.nil _ _ _), Lib.hid (Below.refl _ _)⟩
  case round =>
    obtain ⟨k, E, a3, m, c3, st, rfl, rfl, hk, rfl, hmk, hst, HE, HST, HEL, HH, HW⟩ := hrel
    by_cases hlt : k < n
    · have hlt2 : (k : Int) < n := by omega
      obtain ⟨bb, o, rfl, hS, hbl, hcs⟩ := CV.of (HV.out.below HW.out) (by omega)
      obtain ⟨c, hc⟩ := get_of (l := l) (k := k) (by have := HN.out; omega)
      obtain ⟨x1, x2, x3, x4⟩ := hcs k c hc
      have HSK := Lib.hid (view_skip q l k c hc)
      have HTE := Lib.hid (view_tell q l k c hc)
      have HC := Lib.hid hc
      clear hcs hc hS
      by_cases hq : c.ver.seq ≤ q
      · have hq1 : decide (q < c.ver.seq) = false := by simp; omega
        have HLW : Hid (lowB q c = true) := Lib.hid (by unfold lowB; simpa using hq)
        rcases hst with ⟨rfl, rfl, rfl⟩ | ⟨kk, rfl, rfl, rfl⟩
        · have HNO : Hid (¬ (lowB q c = false ∨ viewS q (l.take k) = some (ckey c))) := Lib.hid (by rw [HLW.out, HST.out]; simp)
          by_cases hput : c.ver.kind = 1
          · have hp1 : (c.ver.kind == 1) = true := by simpa using hput
            have HT : Hid (tellP c = [⟨c.ver.key, c.val⟩]) := Lib.hid (by unfold tellP; rw [if_pos hput])
            clear hput
            go_wp2_with (at_builtin; refine wpList_append_at _ rfl (.tmp 38) (.tmp 45) 46 rfl w.heap.size 49 i0 (.agg #[.string ⟨#[]⟩, .string ⟨#[]⟩]) 2 32 Try.underlying46 hi hz0 hz1 hz2 rfl (by decide) (.slice a3 m c3) m (flat PairR.cells E) rfl ((HH.out.alloc _).alloc _) ⟨_, 0, Option.none⟩ 1 1 (PairR.cells ⟨c.ver.key, c.val⟩) rfl rfl ?_ (PairR.cells_one _) (by unfold maxLen; omega) (by omega) ?_ ?_)
            · exact news_pair _ _ ⟨c.ver.key, c.val⟩ (by simp [go_sem]) (by simp [go_sem])
            · simp; have := HW.out.size; omega
            · intro va wa hva ga na
              obtain ⟨a8, c8, rfl, -⟩ := hva.shape
              have hlt9 := HH.out.lt
              have HVA := Lib.hid hva
              have HWA : Hid (Below w.heap.size w wa) := Lib.hid (((HW.out.alloc HW.out.size _).alloc (by simp; have := HW.out.size; omega) _).grown ga (by simp; have := HW.out.size; omega) (fun g hg => (hlt9 g hg).1))
              clear hva ga na hlt9
              go_wp2
              go_roundg (n - (k + 1))
              case measure => omega
              case rel => exact ⟨k + 1, E ++ [⟨c.ver.key, c.val⟩], a8, m + 1, c8, some c.ver.key, rfl, by go_num, by omega, rfl, by omega, .inr ⟨_, rfl, rfl, rfl⟩, Lib.hid (by rw [(HTE.out HNO.out).1, HE.out, HT.out]), Lib.hid (by rw [(HTE.out HNO.out).2]; rfl), Lib.hid (by rw [List.length_append, HEL.out]; rfl), Lib.hid (by rw [flat_snoc]; exact HVA.out), HWA⟩
          · have hp1 : (c.ver.kind == 1) = false := by simpa using hput
            have HT : Hid (tellP c = []) := Lib.hid (by unfold tellP; rw [if_neg hput])
            clear hput
            go_wp2
            go_roundg (n - (k + 1))
            case measure => omega
            case rel => exact ⟨k + 1, E, a3, m, c3, some c.ver.key, rfl, by go_num, by omega, rfl, by omega, .inr ⟨_, rfl, rfl, rfl⟩, Lib.hid (by rw [(HTE.out HNO.out).1, HE.out, HT.out, List.append_nil]), Lib.hid (by rw [(HTE.out HNO.out).2]; rfl), HEL, Lib.hid (HH.out.alloc _), Lib.hid (HW.out.alloc HW.out.size _)⟩
        · by_cases hkk : c.ver.key = kk
          · have e3 : (c.ver.key.toList == kk.toList) = true := by rw [hkk]; simp
            have HYES : Hid (lowB q c = false ∨ viewS q (l.take k) = some (ckey c)) := Lib.hid (.inr (by rw [HST.out, ← hkk]; rfl))
            clear hkk
            go_wp2
            go_roundg (n - (k + 1))
            case measure => omega
            case rel => exact ⟨k + 1, E, a3, m, c3, _, rfl, by go_num, by omega, rfl, by omega, (by first | exact .inl ⟨rfl, rfl, rfl⟩ | exact .inr ⟨_, rfl, rfl, rfl⟩ | exact hst), Lib.hid (by rw [(HSK.out HYES.out).1]; exact HE.out), Lib.hid (by rw [(HSK.out HYES.out).2]; exact HST.out), HEL, Lib.hid (HH.out.alloc _), Lib.hid (HW.out.alloc HW.out.size _)⟩
          · have e3 : (c.ver.key.toList == kk.toList) = false := beq_eq_false_iff_ne.2 (fun e => hkk (ofList_inj _ _ e))
            have HNO : Hid (¬ (lowB q c = false ∨ viewS q (l.take k) = some (ckey c))) := Lib.hid (by rw [HLW.out, HST.out]; simp [ckey]; exact fun e => hkk e.symm)
            clear hkk
            by_cases hput : c.ver.kind = 1
            · have hp1 : (c.ver.kind == 1) = true := by simpa using hput
              have HT : Hid (tellP c = [⟨c.ver.key, c.val⟩]) := Lib.hid (by unfold tellP; rw [if_pos hput])
              clear hput
              go_wp2_with (at_builtin; refine wpList_append_at _ rfl (.tmp 38) (.tmp 45) 46 rfl w.heap.size 49 i0 (.agg #[.string ⟨#[]⟩, .string ⟨#[]⟩]) 2 32 Try.underlying46 hi hz0 hz1 hz2 rfl (by decide) (.slice a3 m c3) m (flat PairR.cells E) rfl ((HH.out.alloc _).alloc _) ⟨_, 0, Option.none⟩ 1 1 (PairR.cells ⟨c.ver.key, c.val⟩) rfl rfl ?_ (PairR.cells_one _) (by unfold maxLen; omega) (by omega) ?_ ?_)
              · exact news_pair _ _ ⟨c.ver.key, c.val⟩ (by simp [go_sem]) (by simp [go_sem])
              · simp; have := HW.out.size; omega
              · intro va wa hva ga na
                obtain ⟨a8, c8, rfl, -⟩ := hva.shape
                have hlt9 := HH.out.lt
                have HVA := Lib.hid hva
                have HWA : Hid (Below w.heap.size w wa) := Lib.hid (((HW.out.alloc HW.out.size _).alloc (by simp; have := HW.out.size; omega) _).grown ga (by simp; have := HW.out.size; omega) (fun g hg => (hlt9 g hg).1))
                clear hva ga na hlt9
                go_wp2
                go_roundg (n - (k + 1))
                case measure => omega
                case rel => exact ⟨k + 1, E ++ [⟨c.ver.key, c.val⟩], a8, m + 1, c8, some c.ver.key, rfl, by go_num, by omega, rfl, by omega, .inr ⟨_, rfl, rfl, rfl⟩, Lib.hid (by rw [(HTE.out HNO.out).1, HE.out, HT.out]), Lib.hid (by rw [(HTE.out HNO.out).2]; rfl), Lib.hid (by rw [List.length_append, HEL.out]; rfl), Lib.hid (by rw [flat_snoc]; exact HVA.out), HWA⟩
            · have hp1 : (c.ver.kind == 1) = false := by simpa using hput
              have HT : Hid (tellP c = []) := Lib.hid (by unfold tellP; rw [if_neg hput])
              clear hput
              go_wp2
              go_roundg (n - (k + 1))
              case measure => omega
              case rel => exact ⟨k + 1, E, a3, m, c3, some c.ver.key, rfl, by go_num, by omega, rfl, by omega, .inr ⟨_, rfl, rfl, rfl⟩, Lib.hid (by rw [(HTE.out HNO.out).1, HE.out, HT.out, List.append_nil]), Lib.hid (by rw [(HTE.out HNO.out).2]; rfl), HEL, Lib.hid (HH.out.alloc _), Lib.hid (HW.out.alloc HW.out.size _)⟩
      · have hq1 : q < c.ver.seq := by omega
        have HYES : Hid (lowB q c = false ∨ viewS q (l.take k) = some (ckey c)) := Lib.hid (.inl (by unfold lowB; simp; omega))
        go_wp2
        go_roundg (n - (k + 1))
        case measure => omega
        case rel => exact ⟨k + 1, E, a3, m, c3, _, rfl, by go_num, by omega, rfl, by omega, (by first | exact .inl ⟨rfl, rfl, rfl⟩ | exact .inr ⟨_, rfl, rfl, rfl⟩ | exact hst), Lib.hid (by rw [(HSK.out HYES.out).1]; exact HE.out), Lib.hid (by rw [(HSK.out HYES.out).2]; exact HST.out), HEL, Lib.hid (HH.out.alloc _), Lib.hid (HW.out.alloc HW.out.size _)⟩
    · have hge : decide ((k : Int) < n) = false := by simp; omega
      go_wp2
      go_ret
      have e1 : E = D := by rw [← HE.out, List.take_of_length_le (by rw [HN.out]; omega), HD.out]
      have e2 : m = mD := by rw [← HEL.out, e1, HMD.out]
      subst e1 e2
      exact ⟨_, _, rfl, HH.out, HW.out⟩

theorem run_pairNe (c : PairR) (w : World) : (binOp .neq 49 (.agg #[.string c.key, .string c.val]) (.agg #[.string c.key, .string c.val])).run Try.prog w = .ok (.bool false) w := by
  obtain ⟨a, x⟩ := c
  go_simp
theorem PV.of {w : World} {S : Nat → Prop} {ao : Option Addr} {n cap : Nat} {l : List PairR} (h : SlV PairR.cells w S (.slice ao n cap) l) (hne : 0 < n) :
    ∃ b o, ao = some ⟨b, o, none⟩ ∧ ¬ S b ∧ b < w.heap.size ∧ ∀ k c, l[k]? = some c → w.cell? ⟨b, o + k * 2, none⟩ = some (.string c.key) ∧ w.cell? ⟨b, o + k * 2 + 1, none⟩ = some (.string c.val) := by
  have hl := (SlV.len h).1
  obtain ⟨b, o, cap', h1, h2, h3, h4, h5, h6⟩ := SlV.at PairR.cells_len h (fun e => by rw [e] at hl; simp at hl; omega)
  simp only [Value.slice.injEq] at h1
  refine ⟨b, o, h1.1, h4, h5, fun k c hk => ?_⟩
  obtain ⟨hk2, rfl⟩ := List.getElem?_eq_some_iff.1 hk
  exact ⟨h6 k hk2 0 _ (by decide) rfl, h6 k hk2 1 _ (by decide) rfl⟩

set_option maxHeartbeats 1600000 in
theorem pairs_eq (v v' : Value) (l : List PairR) (S S' : Nat → Prop) (w : World) (h : SlV PairR.cells w S v l) (h' : SlV PairR.cells w S' v' l) :
    Calls Try.prog 20 #[v, v'] w fun e w' => e = .returned (.bool true) ∧ Below w.heap.size w w' := by
  obtain ⟨ao, cap, hv⟩ := h.shape
  obtain ⟨ao', cap', hv'⟩ := h'.shape
  obtain ⟨n, hn⟩ : ∃ n, l.length = n := ⟨_, rfl⟩
  rw [hn] at hv hv'
  subst hv hv'
  have HV := Lib.hid h
  have HV' := Lib.hid h'
  have HN := Lib.hid hn
  obtain ⟨-, h2, h3⟩ := SlV.len h
  obtain ⟨-, h2', h3'⟩ := SlV.len h'
  unfold maxLen at h3 h3'
  have e0 : ((n : Int) != n) = false := by simp
  clear h h' hn
  go_enter Try.func20, Try.ntmps20
  go_wp2
  go_loopw [5] (fun i wr => ∃ (k d : Nat), i = .int .i64 k ∧ k ≤ n ∧ wr = w.drewN d)
    (fun i _ => n - (intOf i).toNat)
  case atStart => exact ⟨0, 0, rfl, Nat.zero_le _, rfl⟩
  case round =>
    obtain ⟨k, d, rfl, hk, rfl⟩ := hrel
    by_cases hlt : k < n
    · have hlt2 : (k : Int) < n := by omega
      have a1 : (0 : Int) ≤ (k : Int) := by omega
      obtain ⟨bb, o, rfl, hS, hbl, hcs⟩ := PV.of HV.out (by omega)
      obtain ⟨bb', o', rfl, hS', hbl', hcs'⟩ := PV.of HV'.out (by omega)
      obtain ⟨c, hc⟩ := get_of (l := l) (k := k) (by have := HN.out; omega)
      obtain ⟨x1, x2⟩ := hcs k c hc
      obtain ⟨y1, y2⟩ := hcs' k c hc
      have hne := run_pairNe c
      clear hcs hcs' hc hS hS'
      go_wp2_with fail
      go_quiet (fail)
      go_wp2
      go_roundw
      case rel => exact ⟨k + 1, _, by go_num, by omega, rfl⟩
      case measure => simp [intOf]; omega
    · have hge : decide ((k : Int) < n) = false := by simp; omega
      go_wp2
      go_ret
      exact ⟨rfl, below_dn (Below.refl _ _) d⟩
end Go.Proofs.Ytcgkpgjjifggcaa
