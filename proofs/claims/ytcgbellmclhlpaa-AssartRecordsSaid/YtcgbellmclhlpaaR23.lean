/-
  Records: AssartRecords walked.
-/
import Derived.Test.YtcgbellmclhlpaaR22
import Derived.Deep.CutBlock
import Derived.Deep.DeepCutAuto
namespace Go.Proofs.Ytcgbellmclhlpaa
set_option linter.unusedVariables false
set_option linter.unusedSimpArgs false
open Go.RowKit Vi Sl

def intV (l : List Nat) : List Value := l.map fun (x : Nat) => Value.int .i64 (x : Int)
theorem intV_len (l : List Nat) : (intV l).length = l.length := by simp [intV]
theorem intV_snoc (l : List Nat) (x : Nat) : intV (l ++ [x]) = intV l ++ [Value.int .i64 (x : Int)] := by simp [intV]
theorem intV_at (l : List Nat) (k : Nat) (h : k < l.length) : (intV l)[k]? = some (.int .i64 ((l.getD k 0 : Nat) : Int)) := by simp [intV, h]
theorem encs_snoc {G : List GR} {Ls : List (List Nat)} {L : List Nat} {k : Nat} (hk : k < G.length) (hl : Ls.length = k) (h : Encs (G.take k) Ls) (he : Enc G[k].seq G[k].ops L) : Encs (G.take (k + 1)) (Ls ++ [L]) := by
  refine ⟨by rw [List.length_append, List.length_take, hl]; simp; omega, fun i h1 h2 => ?_⟩
  by_cases hi : i < Ls.length
  · have := h.2 i (by rw [List.length_take]; omega) hi
    simp only [List.getElem_take] at this ⊢
    rw [List.getElem_append_left hi]
    exact this
  · rw [List.length_append] at h2
    simp at h2
    have : i = k := by omega
    subst this
    simp only [List.getElem_take]
    rw [List.getElem_append_right (by omega)]
    simpa [hl] using he

theorem conv_str (w : World) (s : ByteArray) (hs : s.size ≤ maxLen) : ∃ W cap, (convert 9 27 (.string s)).run Try.prog w = .ok (.slice (some ⟨w.heap.size, 0, none⟩) s.size cap) W ∧ s.size ≤ cap ∧ cap ≤ maxLen ∧ ReadsB W w.heap.size 0 (bytesN s) ∧ Below w.heap.size w W := by
  refine ⟨_, _, run_bytes_of_string w 9 27 5 s Try.underlying9 Try.underlying27 Try.underlying5, grownCap_ge _ _ _ _, grownCap_le_maxLen _ _ _ _ hs, ⟨by simp, fun j hj => ?_⟩, (Below.refl _ _).drew.alloc (Nat.le_refl _) _⟩
  rw [bytesN_len] at hj
  have h1 := bytesRow_at s (grownCap w s.size 0 5) j (by exact hj)
  have h2 : (bytesN s).getD j 0 = (s.data[j]'(by exact hj)).toNat := by
    unfold bytesN
    rw [List.getD_eq_getElem?_getD, List.getElem?_map, Array.getElem?_toList, Array.getElem?_eq_getElem (by exact hj)]
    rfl
  have hh : (w.drew.alloc (.cells (bytesRow s (grownCap w s.size 0 5)) 5 ((bytesRow s (grownCap w s.size 0 5)).size, (bytesRow s (grownCap w s.size 0 5)).size + 1))).heap[w.heap.size]? = some (.cells (bytesRow s (grownCap w s.size 0 5)) 5 ((bytesRow s (grownCap w s.size 0 5)).size, (bytesRow s (grownCap w s.size 0 5)).size + 1)) := by
    show (w.heap.push _)[w.heap.size]? = _
    simp
  rw [h2, Nat.zero_add]
  simp only [World.cell?]
  rw [hh]
  exact h1
theorem str_bytes (L : List Nat) (h : ∀ x ∈ L, x < 256) : ∃ S : ByteArray, strV L = .string S ∧ S.size = L.length ∧ bytesN S = L := by
  refine ⟨⟨(L.map UInt8.ofNat).toArray⟩, rfl, by simp [ByteArray.size], ?_⟩
  unfold bytesN
  simp only [List.map_map]
  have : ∀ x ∈ L, (UInt8.toNat ∘ UInt8.ofNat) x = x := fun x hx => by have := h x hx; simp; omega
  rw [List.map_congr_left this]
  simp
/-- What Scan tells here. -/
def ScanC (w : World) (v : Value) (Ls : List (List Nat)) (M : Nat) : Prop := Calls Try.prog 8 #[v] w fun e w' => ∃ (v' : Value) (t : Nat), e = .returned (.tuple #[v', .int .i64 (t : Nat)]) ∧ Has w' w.heap.size 1 v' M ((Ls.take M).map strV) ∧ Below w.heap.size w w'
theorem scanC_nil (w : World) (Ls : List (List Nat)) : ScanC w (.slice none 0 0) Ls 0 := (scan_nil w).mono (by
  rintro e w' ⟨rfl, rfl⟩
  exact ⟨_, 0, rfl, Has.nil _ _ _, Below.refl _ _⟩)
theorem scanC_of {w : World} {g o cap c M : Nat} {B : List Nat} {sp : Bool} {Ls : List (List Nat)} (hL : ∀ r ∈ Ls, ∀ x ∈ r, x < 256) (hB : ∀ x ∈ B, x < 256) (hc : B.length = c) (hmax : c ≤ 1800000) (hcap : c ≤ cap) (hcap2 : cap ≤ 9223372036854775807)
    (hl : Like B 0 (fileL 0 Ls) sp) (hle : c ≤ (fileL 0 Ls).length) (hs : Lies w g o (byteV B)) (hM : whole c sp 0 Ls = M) (hMl : M ≤ Ls.length) : ScanC w (.slice (some ⟨g, o, none⟩) c cap) Ls M := by
  have h1 := scan_ok g o cap B (by omega) hB (by omega) hcap2 w hs
  rw [scan_file B hB sp Ls (B.length + 1) 0 [] hL hl (Nat.zero_le _) (by omega) (by omega), hc, hM, List.length_take, Nat.min_eq_left hMl] at h1
  exact h1
theorem lies_take {w : World} {g o : Nat} {F : List Nat} (h : Lies w g o (byteV F)) (c : Nat) : Lies w g o (byteV (F.take c)) := by
  have := lies_part h 0 c
  rwa [List.drop_zero] at this
theorem lies_set {w : World} {g o : Nat} {F : List Nat} (h : Lies w g o (byteV F)) (c x : Nat) (hc : 0 < c) (hcF : c ≤ F.length) : Lies (w.setCell ⟨g, o + (c - 1), none⟩ (.int .u8 (x : Nat))) g o (byteV (F.take (c - 1) ++ [x])) := by
  refine ⟨by simpa using h.1, fun j u hj => ?_⟩
  have hl : (F.take (c - 1)).length = c - 1 := by rw [List.length_take]; omega
  by_cases hjc : j < c - 1
  · rw [byteV_append, List.getElem?_append_left (by rw [byteV_len, hl]; exact hjc)] at hj
    have hne : (⟨g, o + (c - 1), none⟩ : Addr) ≠ ⟨g, o + j, none⟩ := fun e => by have := congrArg Addr.off e; simp at this; omega
    exact (World.cell?_setCell_other _ _ _ _ hne).trans ((lies_take h (c - 1)).2 j u hj)
  · rw [byteV_append, List.getElem?_append_right (by rw [byteV_len, hl]; omega), byteV_len, hl] at hj
    have h0 : j - (c - 1) = 0 := by
      have := (List.getElem?_eq_some_iff.1 hj).1
      simp [byteV] at this
      omega
    rw [h0] at hj
    simp [byteV] at hj
    subst hj
    have : j = c - 1 := by omega
    subst this
    have hold := h.2 (c - 1) (.int .u8 ((F.getD (c - 1) 0 : Nat) : Int)) (by simp [byteV, show c - 1 < F.length by omega])
    exact World.cell?_setCell_same _ _ _ hold
theorem mod_bd (a c : Int) (hc : 0 < c) (hc2 : c ≤ 1800001) : 0 ≤ wrap64 ((IntKind.u64.wrap a).tmod c) ∧ wrap64 ((IntKind.u64.wrap a).tmod c) ≤ c - 1 := by
  have h0 : 0 ≤ IntKind.u64.wrap a := by rw [IntKind.wrap_u64]; omega
  rw [Int.tmod_eq_emod_of_nonneg h0]
  have h1 := Int.emod_nonneg (IntKind.u64.wrap a) (show c ≠ 0 by omega)
  have h2 := Int.emod_lt_of_pos (IntKind.u64.wrap a) hc
  unfold wrap64
  omega
set_option maxRecDepth 100000 in
set_option maxHeartbeats 6400000 in
theorem records_walk (v0 : Value) (cut : Int) (spoil : Nat) (hsp : spoil ≤ 255) (w : World) (hA : Asked w v0) :
    Calls Try.prog 3 #[v0, .int .i64 cut, .int .u8 spoil] w fun e w' => e = .returned (.bool true) ∧ Below w.heap.size w w' := by
  obtain ⟨i0, hi, hz0, hz1, hz2⟩ := info_parts Try.infoByte
  obtain ⟨j0, ji, jz0, jz1, jz2⟩ := info_parts Try.infoInt
  have HA := Lib.hid hA
  clear hA
  go_enter Try.func3, Try.ntmps3
  go_wp2_with fail
  refine (awake_ok _).mono ?_
  rintro e w1 ⟨rfl, b1⟩
  have HB1 := Lib.hid b1
  clear b1
  go_wp2_with fail
  refine (HA.out w1 HB1.out).mono ?_
  rintro e w2 ⟨vo, vs, G, rfl, hG15, hok, hvo, hvs, b2⟩
  have HOK := Lib.hid hok
  have HB2 := Lib.hid b2
  have HVO := Lib.hid hvo
  have HVS := Lib.hid hvs
  have hb2s := b2.size
  have hb1s := HB1.out.size
  obtain ⟨n, hn⟩ : ∃ n, G.length = n := ⟨_, rfl⟩
  have HN := Lib.hid hn
  obtain ⟨aoo, cvo, rfl, hcvo⟩ := hvo.shape
  obtain ⟨aos, cvs, rfl, hcvs⟩ := hvs.shape
  rw [hn] at hG15 hcvo hcvs ⊢
  clear hok b2 hvo hvs hn
  go_wp2
  go_loopw [9, 10, 11] (fun vb ve i wr => ∃ Ls : List (List Nat), i = .int .i64 Ls.length ∧ Ls.length ≤ n ∧ Hid (Encs (G.take Ls.length) Ls) ∧ Has wr w2.heap.size 1 vb (fileL 0 Ls).length (byteV (fileL 0 Ls)) ∧ Free wr vb ∧
      Has wr w2.heap.size 1 ve Ls.length (intV (endsN 0 Ls)) ∧ Hid (∀ b, vb.ownBlock = some b → ve.ownBlock ≠ some b) ∧ Below w2.heap.size w2 wr)
    (fun _ _ i _ => n - (intOf i).toNat)
  case atStart => exact ⟨[], rfl, Nat.zero_le _, Lib.hid ⟨rfl, fun i h => by simp at h⟩, Has.nil _ _ _, Free.nil _, Has.nil _ _ _, Lib.hid (fun b h => by cases h), Below.refl _ _⟩
  case round =>
    obtain ⟨Ls, rfl, hk, HE, hvb, hfb, hve, HD, hnx⟩ := hrel
    have HVB := Lib.hid hvb
    have HFB := Lib.hid hfb
    have HVE := Lib.hid hve
    have HNX := Lib.hid hnx
    have hnxs := hnx.size
    have HFL : Hid ((fileL 0 Ls).length ≤ 1800000) := Lib.hid (by
      have := file_len Ls 0 (fun r hr => (encs_lt HE.out (fun p hp => HOK.out p (List.mem_of_mem_take hp)) r hr).2.1)
      omega)
    obtain ⟨abb, cvb, rfl, hcvb⟩ := hvb.shape
    obtain ⟨N, hN⟩ : ∃ N, (fileL 0 Ls).length = N := ⟨_, rfl⟩
    have HFN := Lib.hid hN
    rw [hN] at hvb HVB HFB HD hcvb ⊢
    have hN2 : N ≤ 1800000 := by rw [← hN]; exact HFL.out
    clear hvb hfb hve hnx hN
    obtain ⟨k, hkk⟩ : ∃ k, Ls.length = k := ⟨_, rfl⟩
    have HK := Lib.hid hkk
    rw [hkk] at hk HE HVE ⊢
    clear hkk
    by_cases hkn : k < n
    · have hkG : k < G.length := by rw [HN.out]; exact hkn
      have hpok := HOK.out _ (List.getElem_mem hkG)
      obtain ⟨gs, os, cs, hev, _, hgs, _, _, hcs⟩ := HVS.out.parts (by omega)
      obtain ⟨go, oo, co, heo, _, hgo, _, _, hco⟩ := HVO.out.parts (by omega)
      rw [HN.out] at hev heo
      simp only [Value.slice.injEq, true_and] at hev heo
      obtain ⟨rfl, rfl⟩ := hev
      obtain ⟨rfl, rfl⟩ := heo
      have c1 := hcs k (.int .i64 G[k].seq) (by simp [hkG])
      have c2 := hco k G[k].val (by simp [hkG])
      obtain ⟨pq, pops, pg, po, pc, hp⟩ : ∃ a b c d e, G[k] = GR.mk a b c d e := ⟨_, _, _, _, _, rfl⟩
      have HP := Lib.hid hp
      rw [hp] at c1 c2 hpok
      simp only [GR.val] at c1 c2
      obtain ⟨hgood, ho12, hops⟩ := hpok
      simp only at hgood ho12 hops
      have d1 : wr.cell? ⟨gs, os + k, none⟩ = some (.int .i64 pq) := by rw [HNX.out.cell (by exact hgs)]; exact c1
      have d2 : wr.cell? ⟨go, oo + k, none⟩ = some (.slice (some ⟨pg, po, none⟩) pops.length pc) := by rw [HNX.out.cell (by exact hgo)]; exact c2
      have HENC : Hid (∀ w', Below w2.heap.size w2 w' → Calls Try.prog 6 #[.int .i64 pq, .slice (some ⟨pg, po, none⟩) pops.length pc] w' fun e w'' => ∃ v L, e = .returned (.tuple #[v, .int .i64 0]) ∧ Enc pq pops L ∧ Has w'' w'.heap.size 1 v L.length (byteV L) ∧ Below w'.heap.size w' w'') := Lib.hid (fun w' hb => encode_ok pq pg po pc pops hgood w' (hops.below (HB2.out.trans (hb.mono hb2s)) hops.1))
      have HGOOD := Lib.hid hgood
      obtain ⟨pn, hpn⟩ : ∃ pn, pops.length = pn := ⟨_, rfl⟩
      have HPN := Lib.hid hpn
      rw [hpn] at d2 HENC ho12
      have x1 : (0 : Int) ≤ k := by omega
      have x2 : (k : Int) < n := by omega
      clear hp hpn hgood hops c1 c2 hcs hco
      go_wp2
      go_region_held3 (fun w' => w'.cell? ⟨gs, os + k, none⟩ = some (.int .i64 pq) ∧ w'.cell? ⟨go, oo + k, none⟩ = some (.slice (some ⟨pg, po, none⟩) pn pc)) (first | go_keep | (go_split_ands; refine ⟨?_, ?_⟩ <;> (rw [hbe.cell (by first | exact Nat.lt_of_lt_of_le hgs hnxs | exact Nat.lt_of_lt_of_le hgo hnxs)]; assumption)))
        (first | (go_at_call 6; refine (HENC.out _ (by exact HNX.out.drew)).mono ?_; rintro e w3 ⟨vr, L, rfl, hL, hvr, hbe⟩))
      have hbx := HNX.out.drew.trans (hbe.mono hnxs)
      have hbe2 : Below wr.heap.size wr w3 := Below.trans (Below.refl wr.heap.size wr).drew hbe
      obtain ⟨lL1, lL2, lL3⟩ := enc_bd _ _ _ HGOOD.out hL
      rw [HPN.out] at lL2
      have hbes : wr.heap.size ≤ w3.heap.size := hbe2.size
      have hvb3 := HVB.out.below hbe2 (fun b hb => (HVB.out.lt b hb).2)
      have hfb3 := HFB.out.below hbe2 (fun b hb => (HVB.out.lt b hb).2)
      have hve3 := HVE.out.below hbe2 (fun b hb => (HVE.out.lt b hb).2)
      obtain ⟨gr, orr, cr, hvre, hgr1, hgr2, hcr1, hcr2, hcr3⟩ := hvr.parts (by omega)
      subst hvre
      have HFR := Lib.hid (frame_ok N L.length gr orr cr L w3 (by omega) (by omega) lL3 hcr1 (by unfold maxLen at hcr2; omega) (fun h => by rw [h] at lL1; simp at lL1) ⟨hgr2, hcr3⟩)
      have HL := Lib.hid hL
      have HL3 := Lib.hid lL3
      have HBX := Lib.hid hbx
      have HVB3 := Lib.hid hvb3
      have HFB3 := Lib.hid hfb3
      have HVE3 := Lib.hid hve3
      clear hL lL3 hbx hbe hbe2 hvb3 hfb3 hve3 hvr hcr3
      go_wp2_with fail
      refine (HFR.out).mono ?_
      rintro e w4 ⟨vf, rfl, hvf, hbf⟩
      have hff := frame_bd (N % 128) L
      have hvb4 := HVB3.out.below hbf (fun b hb => (HVB3.out.lt b hb).2)
      have hfb4 := HFB3.out.below hbf (fun b hb => (HVB3.out.lt b hb).2)
      have hve4 := HVE3.out.below hbf (fun b hb => (HVE3.out.lt b hb).2)
      have hbx4 := HBX.out.trans (hbf.mono (by have := HBX.out.size; omega))
      have hbfs := hbf.size
      obtain ⟨FL, hFL⟩ : ∃ FL, frameL (N % 128) L = FL := ⟨_, rfl⟩
      rw [hFL] at hvf hff
      have HFLE := Lib.hid hFL
      obtain ⟨gf, of_, cf, hvfe, hgf1, hgf2, hcf1, hcf2, hcf3⟩ := hvf.parts (by omega)
      subst hvfe
      have HCF : Hid (Lies w4 gf of_ (byteV FL)) := Lib.hid ⟨hgf2, hcf3⟩
      have HVB4 := Lib.hid hvb4
      have HFB4 := Lib.hid hfb4
      have HVE4 := Lib.hid hve4
      have HBX4 := Lib.hid hbx4
      have hbltB := HVB3.out.lt
      have hbltE := HVE3.out.lt
      have hb4s := HBX4.out.size
      clear hvb4 hfb4 hve4 hbx4 hbf hvf hcf3 hFL HFR
      go_wp2_with (at_builtin; refine wpList_append_free _ rfl (.tmp 61) (.tmp 62) 27 rfl w2.heap.size 5 i0 (.int .u8 0) 1 1 Try.underlying27 hi hz0 hz1 hz2 rfl (by decide) (.slice abb N cvb) N (byteV (fileL 0 Ls)) rfl HVB4.out HFB4.out ⟨gf, of_, none⟩ FL.length cf (byteV FL) rfl ?a1 ?a2 ?a3 ?a4 ?a5 ?a6 ?_)
      case a1 => rw [byteV_len]; omega
      case a2 => exact HCF.out.add
      case a3 => exact byteV_one _
      case a4 => unfold maxLen; omega
      case a5 => omega
      case a6 => exact hb4s
      intro va wa hva hfa ga na
      have hve5 := HVE4.out.grown ga (apart_of HD.out)
      have hbx5 := HBX4.out.grown ga hb4s (fun b hb => (hbltB b hb).1)
      have hd5 := disj_next HD.out (fun b hb => (HVE4.out.lt b hb).2) na
      have hszA := ga.size
      have HVA := Lib.hid hva
      have HFA := Lib.hid hfa
      have HVE5 := Lib.hid hve5
      have HBX5 := Lib.hid hbx5
      have HD5 := Lib.hid hd5
      have havlt := hva.lt
      obtain ⟨aba, cva, rfl, hcva⟩ := hva.shape
      clear hva hfa ga na hve5 hbx5 hd5
      go_wp2_with (at_builtin; refine wpList_append_at _ rfl (.tmp 64) (.tmp 67) 24 rfl w2.heap.size 3 j0 (.int .i64 0) 1 8 Try.underlying24 ji jz0 jz1 jz2 rfl (by decide) u10 k (intV (endsN 0 Ls)) rfl (HVE5.out.alloc _) ⟨wa.heap.size, 0, none⟩ 1 1 [.int .i64 (N + FL.length : Nat)] rfl rfl ?b1 ?b2 ?b3 ?b4 ?b5 ?_)
      case b1 =>
        intro j u hj
        match j, hj with
        | 0, hj => simp at hj; subst hj; simp [Addr.add]
      case b2 => intro u hu; simp at hu; subst hu; rfl
      case b3 => unfold maxLen; omega
      case b4 => omega
      case b5 => simp; omega
      intro vc wc hvc gc nc
      have hva6 := (HVA.out.alloc (.cells #[.int .i64 (N + FL.length : Nat)] 3)).grown gc (apart_of (fun b hb hv => HD5.out b hv hb))
      have hfa6 := (HFA.out.alloc (fun g hg => (havlt g hg).2) (.cells #[.int .i64 (N + FL.length : Nat)] 3)).grown (fun g hg => by have := (havlt g hg).2; simp; omega) gc (apart_of (fun b hb hv => HD5.out b hv hb))
      have hbx6 := (HBX5.out.alloc (by omega) (.cells #[.int .i64 (N + FL.length : Nat)] 3)).grown gc (by simp; omega) (fun b hb => (HVE5.out.lt b hb).1)
      have hd6 := disj_next (fun b hb hv => HD5.out b hv hb) (fun b hb => (havlt b hb).2) (fun b hb => by rcases nc b hb with h | h; exact .inl h; exact .inr (by first | omega | (simp at h; omega)))
      have HVA6 := Lib.hid hva6
      have HFA6 := Lib.hid hfa6
      have HVC := Lib.hid hvc
      have HBX6 := Lib.hid hbx6
      have HD6 := Lib.hid hd6
      clear hva6 hfa6 hvc gc nc hbx6 hd6
      go_wp2
      go_roundw
      case rel =>
        have hlen : (Ls ++ [L]).length = k + 1 := by rw [List.length_append, HK.out]; rfl
        have hfile : fileL 0 (Ls ++ [L]) = fileL 0 Ls ++ FL := by rw [fileL_snoc, Nat.zero_add, HFN.out, HFLE.out]
        have hfl : (fileL 0 (Ls ++ [L])).length = N + FL.length := by rw [hfile, List.length_append, HFN.out]
        refine ⟨Ls ++ [L], by rw [hlen]; go_num, by omega, Lib.hid ?_, ?_, ?_, ?_, Lib.hid (fun b hb hv => HD6.out b hv hb), HBX6.out⟩
        · rw [hlen]; exact encs_snoc hkG HK.out HE.out (by rw [HP.out]; exact HL.out)
        · rw [hfl, hfile, byteV_append]; exact HVA6.out
        · exact HFA6.out
        · rw [hlen, endsN_snoc, intV_snoc, hfl, Nat.zero_add]; exact HVC.out
      case measure => simp [intOf]; omega
    · have hkn2 : n = k := by omega
      subst hkn2
      have hE := HE.out
      rw [List.take_of_length_le (by rw [HN.out]; exact Nat.le_refl _)] at hE
      have HEE := Lib.hid hE
      obtain ⟨aee, cve, rfl, hcve⟩ := HVE.out.shape
      have hN3 : (N : Int) ≤ 1800000 := by omega
      clear hE HE HFL hkn
      have hmb := mod_bd cut ((N : Int) + 1) (by omega) (by omega)
      obtain ⟨c, hc⟩ : ∃ c : Nat, wrap64 ((IntKind.u64.wrap cut).tmod ((N : Int) + 1)) = (c : Int) := ⟨(wrap64 ((IntKind.u64.wrap cut).tmod ((N : Int) + 1))).toNat, by omega⟩
      rw [hc] at hmb
      have hcN : c ≤ N := by omega
      have HCC := Lib.hid hc
      clear hmb hc
      go_upto_region 16 with fail
      rw [HCC.out]
      have hcc : (c : Int) ≤ cvb := by omega
      go_upto_block 2 with fail
      go_cut [16] (fun s16 wx => ∃ q : Nat, s16 = .int .i64 q ∧ q ≤ n ∧ wr = wx ∧ Hid ((∀ j, j < q → (endsN 0 Ls).getD j 0 ≤ c) ∧ (q < n → c < (endsN 0 Ls).getD q 0)))
      case first =>
        go_wp2
        go_loopw [16] (fun m wx => ∃ q : Nat, m = .int .i64 q ∧ q ≤ n ∧ wr = wx ∧ Hid (∀ j, j < q → (endsN 0 Ls).getD j 0 ≤ c)) (fun m _ => n - (intOf m).toNat)
        case atStart => exact ⟨0, rfl, Nat.zero_le _, by first | rfl | trivial, Lib.hid (fun j h => absurd h (Nat.not_lt_zero _))⟩
        case round =>
          obtain ⟨q, rfl, hq, rfl, HQ⟩ := hrel
          by_cases hqn : q < n
          · obtain ⟨ge, oe, ce, hee, _, hge, _, _, hce⟩ := HVE.out.parts (by omega)
            simp only [Value.slice.injEq, true_and] at hee
            obtain ⟨rfl, rfl⟩ := hee
            have c1 := hce q _ (intV_at _ q (by rw [endsN_len, HK.out]; exact hqn))
            obtain ⟨E, hE⟩ : ∃ E, (endsN 0 Ls).getD q 0 = E := ⟨_, rfl⟩
            rw [hE] at c1
            have HEQ := Lib.hid hE
            have x1 : (0 : Int) ≤ q := by omega
            have x2 : (q : Int) < n := by omega
            clear hce hE
            by_cases hEc : E ≤ c
            · have x3 : (E : Int) ≤ c := by omega
              go_wp2
              go_roundw
              case rel =>
                refine ⟨q + 1, by go_num, by omega, by first | rfl | trivial, Lib.hid (fun j hj => ?_)⟩
                by_cases hjq : j < q
                · exact HQ.out j hjq
                · have : j = q := by omega
                  subst this
                  rw [HEQ.out]; exact hEc
              case measure => simp [intOf]; omega
            · have x3 : decide ((E : Int) ≤ c) = false := by simp; omega
              have HEC := Lib.hid hEc
              clear hEc
              go_wp2
              go_meet
              refine ⟨q, rfl, hq, by first | rfl | trivial, Lib.hid ⟨HQ.out, fun _ => by rw [HEQ.out]; have := HEC.out; omega⟩⟩
          · go_wp2
            go_meet
            refine ⟨q, rfl, hq, by first | rfl | trivial, Lib.hid ⟨HQ.out, fun h => absurd h hqn⟩⟩
      case rest =>
        obtain ⟨q, rfl, hq, rfl, HQ⟩ := hcut
        have HWF := Lib.hid (whole_false c Ls 0 q (by rw [HK.out]; exact hq) HQ.out.1 (by rw [HK.out]; exact HQ.out.2))
        have HWT := Lib.hid (whole_true c Ls 0 q (by rw [HK.out]; exact hq) HQ.out.1 (by rw [HK.out]; exact HQ.out.2))
        have HLB : Hid (∀ r ∈ Ls, 12 ≤ r.length ∧ r.length ≤ 14412 ∧ ∀ x ∈ r, x < 256) := Lib.hid (encs_lt HEE.out HOK.out)
        have HFLT := Lib.hid (file_lt Ls 0 (fun r hr => (HLB.out r hr).2.2))
        have HLIES : Hid (0 < c → ∃ gb ob, abb = some ⟨gb, ob, none⟩ ∧ Lies wr gb ob (byteV (fileL 0 Ls)) ∧ cvb ≤ 9223372036854775807) := Lib.hid (fun h => by
          obtain ⟨gb, ob, cb, h1, _, h3, h4, h5, h6⟩ := HVB.out.parts (by omega)
          simp only [Value.slice.injEq, true_and] at h1
          obtain ⟨rfl, rfl⟩ := h1
          exact ⟨gb, ob, rfl, ⟨h3, h6⟩, by unfold maxLen at h5; omega⟩)
        by_cases hu : c = 0 ∨ spoil = 0
        · have HSC : Hid (ScanC wr (.slice abb c cvb) Ls q) := Lib.hid (by
            rcases HVB.out.2 with ⟨h1, h2⟩ | ⟨gb, ob, cb, h1, _, h3, h4, h5, h6, _⟩
            · simp only [Value.slice.injEq] at h1
              obtain ⟨rfl, _, rfl⟩ := h1
              have hc0 : c = 0 := by omega
              have hq0 : q = 0 := by
                rcases Nat.eq_zero_or_pos q with h | h
                · exact h
                · have h1 := HQ.out.1 0 h
                  have hl : 0 < (endsN 0 Ls).length := by rw [endsN_len, HK.out]; omega
                  have h2 := endsN_gt Ls 0 _ (List.getElem_mem hl)
                  rw [List.getD_eq_getElem?_getD, List.getElem?_eq_getElem hl, Option.getD_some] at h1
                  omega
              rw [hc0, hq0]
              exact scanC_nil wr Ls
            · simp only [Value.slice.injEq, true_and] at h1
              obtain ⟨rfl, rfl⟩ := h1
              exact scanC_of (sp := false) (fun r hr => (HLB.out r hr).2.2) (fun x hx => HFLT.out x (List.mem_of_mem_take hx)) (by rw [List.length_take, HFN.out]; omega) (by omega) (by omega) (by unfold maxLen at h5; omega) (like_take (fileL 0 Ls) c) (by rw [HFN.out]; exact hcN) (lies_take ⟨h3, h6⟩ c) HWF.out (by rw [HK.out]; exact hq))
          have hz : decide (0 < c) = false ∨ (0 < c ∧ ((spoil : Int) != 0) = false) := by
            rcases Nat.eq_zero_or_pos c with h | h
            · exact .inl (by simp; omega)
            · exact .inr ⟨h, by simp; omega⟩
          clear hu
          rcases hz with y1 | ⟨y1, y2⟩
          all_goals
            go_wp2_with fail
            refine (HSC.out).mono ?_
            rintro e wz ⟨vz, tz, rfl, hvz, hbz⟩
            have HWZ := Lib.hid (HNX.out.trans (hbz.mono hnxs))
            obtain ⟨azz, cz, rfl, hcz⟩ := hvz.shape
            have HVZ := Lib.hid hvz
            have hwzs := HWZ.out.size
            have v1 : ((q : Int) != q) = false := by simp
            have hMn : q ≤ n := by omega
            clear hvz hbz HSC
            go_wp2
            go_loopw [19] (fun i wx => ∃ j : Nat, i = .int .i64 j ∧ j ≤ q ∧ Below wz.heap.size wz wx) (fun i _ => q - (intOf i).toNat)
            case atStart => exact ⟨0, rfl, Nat.zero_le _, Below.refl _ _⟩
            case round =>
              obtain ⟨j, rfl, hj, hbw⟩ := hrel
              have HBW := Lib.hid hbw
              have HWX := Lib.hid (HWZ.out.trans (hbw.mono hwzs))
              have hbws := hbw.size
              clear hbw
              by_cases hjM : j < q
              · have hjG : j < G.length := by rw [HN.out]; omega
                have hjL : j < Ls.length := by rw [HK.out]; omega
                obtain ⟨gz, oz, cz2, hze, _, hgz, _, _, hcz2⟩ := HVZ.out.parts (by omega)
                simp only [Value.slice.injEq, true_and] at hze
                obtain ⟨rfl, rfl⟩ := hze
                obtain ⟨gs, os, cs, hev, _, hgs, _, _, hcs⟩ := HVS.out.parts (by rw [HN.out]; omega)
                obtain ⟨go, oo, co, heo, _, hgo, _, _, hco⟩ := HVO.out.parts (by rw [HN.out]; omega)
                simp only [Value.slice.injEq, true_and] at hev heo
                obtain ⟨rfl, rfl⟩ := hev
                obtain ⟨rfl, rfl⟩ := heo
                have c1 := hcs j (.int .i64 G[j].seq) (by simp [hjG])
                have c2 := hco j G[j].val (by simp [hjG])
                have c3 := hcz2 j (strV Ls[j]) (by rw [List.getElem?_map, List.getElem?_take, if_pos hjM, List.getElem?_eq_getElem hjL]; rfl)
                have hpok := HOK.out _ (List.getElem_mem hjG)
                have hel := HLB.out _ (List.getElem_mem hjL)
                have hen := HEE.out.2 j hjG hjL
                obtain ⟨pq, pops, pg, po, pc, hp⟩ : ∃ a b c d e, G[j] = GR.mk a b c d e := ⟨_, _, _, _, _, rfl⟩
                rw [hp] at c1 c2 hpok hen
                simp only [GR.val] at c1 c2
                obtain ⟨hgood, ho12, hops⟩ := hpok
                simp only at hgood ho12 hops hen
                obtain ⟨L, hL⟩ : ∃ L, Ls[j] = L := ⟨_, rfl⟩
                rw [hL] at c3 hel hen
                obtain ⟨Sx, hS1, hS2, hS3⟩ := str_bytes L hel.2.2
                rw [hS1] at c3
                have d1 : wr.cell? ⟨gs, os + j, none⟩ = some (.int .i64 pq) := by rw [HWX.out.cell (by exact hgs)]; exact c1
                have d2 : wr.cell? ⟨go, oo + j, none⟩ = some (.slice (some ⟨pg, po, none⟩) pops.length pc) := by rw [HWX.out.cell (by exact hgo)]; exact c2
                have d3 : wr.cell? ⟨gz, oz + j, none⟩ = some (.string Sx) := by rw [HBW.out.cell (by exact hgz)]; exact c3
                obtain ⟨W5, c5, hrun, hc51, hc52, hrd, hb5⟩ := conv_str wr Sx (by unfold maxLen; omega)
                rw [hS2] at hrun hc51
                rw [hS3] at hrd
                have HDEC := Lib.hid (decode_ok pq wr.heap.size 0 c5 pops L hgood hen hc51 (by unfold maxLen at hc52; omega) W5 hrd)
                have HWX5 := Lib.hid (HWX.out.trans (hb5.mono (by have := HWX.out.size; omega)))
                have HB5 := Lib.hid hb5
                have e1 : W5.cell? ⟨gs, os + j, none⟩ = some (.int .i64 pq) := by rw [hb5.cell (by exact Nat.lt_of_lt_of_le hgs HWX.out.size)]; exact d1
                have e2 : W5.cell? ⟨go, oo + j, none⟩ = some (.slice (some ⟨pg, po, none⟩) pops.length pc) := by rw [hb5.cell (by exact Nat.lt_of_lt_of_le hgo HWX.out.size)]; exact d2
                have hgs5 : gs < W5.heap.size := Nat.lt_of_lt_of_le hgs HWX5.out.size
                have hgo5 : go < W5.heap.size := Nat.lt_of_lt_of_le hgo HWX5.out.size
                have HGD := Lib.hid hgood
                have HOPS := Lib.hid hops
                have q0 : (0 : Int) ≤ j := by omega
                have q1 : (j : Int) < n := by omega
                have q2 : (j : Int) < q := by omega
                have q3 : ((pq : Int) != pq) = false := by simp
                clear hcs hco hcz2 c1 c2 c3 hen hel hp hgood ho12 hops hL hS1 hS2 hS3 hrd hb5 d1 d2
                go_wp2_with fail
                refine (HDEC.out).mono ?_
                rintro e w6 ⟨vd, rfl, hvd, hb6⟩
                have f1 : w6.cell? ⟨gs, os + j, none⟩ = some (.int .i64 pq) := by rw [hb6.cell (by exact hgs5)]; exact e1
                have f2 : w6.cell? ⟨go, oo + j, none⟩ = some (.slice (some ⟨pg, po, none⟩) pops.length pc) := by rw [hb6.cell (by exact hgo5)]; exact e2
                obtain ⟨gd, od, cd, rfl, _, hgd, _, _, hcd⟩ := hvd.parts HGD.out.1
                have HW6 := Lib.hid (HWX5.out.trans (hb6.mono HWX5.out.size))
                have HWB6 := Lib.hid (HBW.out.trans ((HB5.out.trans (hb6.mono HB5.out.size)).mono hbws))
                have HOPC := Lib.hid (ops_ok gd od cd pg po pc pops (by have := HGD.out.2.1; omega) w6 (opsAt_of hgd hcd) (HOPS.out.below (HB2.out.trans (HW6.out.mono hb2s)) HOPS.out.1))
                clear e1 e2 hvd hcd hb6
                generalize pops.length = pn at *
                go_wp2_with (go_at_call 10; refine (HOPC.out).mono ?_; rintro e w7 ⟨rfl, hb7⟩)
                go_roundw
                case rel => exact ⟨j + 1, by go_num, by omega, HWB6.out.trans (hb7.mono HWB6.out.size)⟩
                case measure => simp [intOf]; omega
              · go_wp2
                go_ret
                exact ⟨rfl, HB1.out.trans ((HB2.out.trans (HWX.out.mono hb2s)).mono hb1s)⟩
        · have hcp : 0 < c := by omega
          have hsp0 : ((spoil : Int) != 0) = true := by simp; omega
          obtain ⟨gb, ob, rfl, hlb, hcvb2⟩ := HLIES.out hcp
          have hlb1 := hlb.1
          obtain ⟨x, hx⟩ : ∃ x, at' (fileL 0 Ls) (c - 1) = x := ⟨_, rfl⟩
          have HX := Lib.hid hx
          have hx8 : x < 256 := by rw [← hx]; exact at_lt _ HFLT.out _
          have d1 : wr.cell? ⟨gb, ob + (c - 1), none⟩ = some (.int .u8 x) := by rw [← hx]; exact cell_at hlb (c - 1) (by rw [HFN.out]; omega)
          have d2 : wr.frozen? ⟨gb, ob + (c - 1), none⟩ = false := HFB.out gb rfl _
          have d3 := xor8 x spoil hx8 (by omega)
          have HXX : Hid (x ^^^ spoil ≠ x) := Lib.hid (xor_other x spoil (by omega))
          have hxl : x ^^^ spoil < 256 := Nat.xor_lt_two_pow (n := 8) hx8 (by omega)
          obtain ⟨y, hy⟩ : ∃ y, x ^^^ spoil = y := ⟨_, rfl⟩
          rw [hy] at d3 HXX hxl
          have HSP : Hid (∀ M, whole c true 0 Ls = M → M ≤ n → ScanC (wr.setCell ⟨gb, ob + (c - 1), none⟩ (.int .u8 (y : Nat))) (.slice (some ⟨gb, ob, none⟩) c cvb) Ls M) := Lib.hid (fun M hM hMn =>
            scanC_of (sp := true) (fun r hr => (HLB.out r hr).2.2) (fun z hz => by
              rcases List.mem_append.1 hz with h | h
              · exact HFLT.out z (List.mem_of_mem_take h)
              · simp at h; rw [h]; exact hxl) (by rw [List.length_append, List.length_take, HFN.out]; simp; omega) (by omega) (by omega) hcvb2 (like_spoil (fileL 0 Ls) c y hcp (by rw [HFN.out]; exact hcN) (by rw [HX.out]; exact HXX.out)) (by rw [HFN.out]; exact hcN) (lies_set hlb c y hcp (by rw [HFN.out]; exact hcN)) hM (by rw [HK.out]; exact hMn))
          have hbS := HNX.out.grown (grown_setCell wr gb (ob + (c - 1)) (.int .u8 (y : Nat))) hnxs (fun b hb => by
            simp at hb; subst hb; exact (HVB.out.lt gb rfl).1)
          have HBS := Lib.hid hbS
          have z1 : ((ob + (c - 1) : Nat) : Int) = (ob : Int) + ((c : Int) - 1) := by omega
          have z2 : (0 : Int) ≤ (c : Int) - 1 := by omega
          have z3 : ((c : Int) - 1).toNat = c - 1 := by omega
          have Z1 := Lib.hid z1
          clear hx hy hlb hbS z1 hu
          go_upto_region 22 with fail
          have gss := grown_setCell wr gb (ob + (c - 1)) (.int .u8 (y : Nat))
          obtain ⟨wS, hwS⟩ : ∃ W, wr.setCell ⟨gb, ob + (c - 1), none⟩ (.int .u8 (y : Nat)) = W := ⟨_, rfl⟩
          rw [hwS] at HSP HBS gss ⊢
          have HGS := Lib.hid gss
          have hbSs := HBS.out.size
          clear gss hwS d1 d2 d3 z2 z3
          rcases Nat.eq_zero_or_pos q with hq0 | hq0
          · have HSC := Lib.hid (HSP.out q (HWT.out.2 (fun h => by omega)) hq)
            have y3 : decide (0 < q) = false := by simp; omega
            clear hq0
            go_wp2_with fail
            refine (HSC.out).mono ?_
            rintro e wz ⟨vz, tz, rfl, hvz, hbz⟩
            have HWZ := Lib.hid (HBS.out.trans (hbz.mono hbSs))
            obtain ⟨azz, cz, rfl, hcz⟩ := hvz.shape
            have HVZ := Lib.hid hvz
            have hwzs := HWZ.out.size
            have v1 : ((q : Int) != q) = false := by simp
            have hMn : q ≤ n := by omega
            clear hvz hbz HSC
            go_wp2
            go_loopw [19] (fun i wx => ∃ j : Nat, i = .int .i64 j ∧ j ≤ q ∧ Below wz.heap.size wz wx) (fun i _ => q - (intOf i).toNat)
            case atStart => exact ⟨0, rfl, Nat.zero_le _, Below.refl _ _⟩
            case round =>
              obtain ⟨j, rfl, hj, hbw⟩ := hrel
              have HBW := Lib.hid hbw
              have HWX := Lib.hid (HWZ.out.trans (hbw.mono hwzs))
              have hbws := hbw.size
              clear hbw
              by_cases hjM : j < q
              · have hjG : j < G.length := by rw [HN.out]; omega
                have hjL : j < Ls.length := by rw [HK.out]; omega
                obtain ⟨gz, oz, cz2, hze, _, hgz, _, _, hcz2⟩ := HVZ.out.parts (by omega)
                simp only [Value.slice.injEq, true_and] at hze
                obtain ⟨rfl, rfl⟩ := hze
                obtain ⟨gs, os, cs, hev, _, hgs, _, _, hcs⟩ := HVS.out.parts (by rw [HN.out]; omega)
                obtain ⟨go, oo, co, heo, _, hgo, _, _, hco⟩ := HVO.out.parts (by rw [HN.out]; omega)
                simp only [Value.slice.injEq, true_and] at hev heo
                obtain ⟨rfl, rfl⟩ := hev
                obtain ⟨rfl, rfl⟩ := heo
                have c1 := hcs j (.int .i64 G[j].seq) (by simp [hjG])
                have c2 := hco j G[j].val (by simp [hjG])
                have c3 := hcz2 j (strV Ls[j]) (by rw [List.getElem?_map, List.getElem?_take, if_pos hjM, List.getElem?_eq_getElem hjL]; rfl)
                have hpok := HOK.out _ (List.getElem_mem hjG)
                have hel := HLB.out _ (List.getElem_mem hjL)
                have hen := HEE.out.2 j hjG hjL
                obtain ⟨pq, pops, pg, po, pc, hp⟩ : ∃ a b c d e, G[j] = GR.mk a b c d e := ⟨_, _, _, _, _, rfl⟩
                rw [hp] at c1 c2 hpok hen
                simp only [GR.val] at c1 c2
                obtain ⟨hgood, ho12, hops⟩ := hpok
                simp only at hgood ho12 hops hen
                obtain ⟨L, hL⟩ : ∃ L, Ls[j] = L := ⟨_, rfl⟩
                rw [hL] at c3 hel hen
                obtain ⟨Sx, hS1, hS2, hS3⟩ := str_bytes L hel.2.2
                rw [hS1] at c3
                have d1 : wr.cell? ⟨gs, os + j, none⟩ = some (.int .i64 pq) := by rw [HWX.out.cell (by exact hgs)]; exact c1
                have d2 : wr.cell? ⟨go, oo + j, none⟩ = some (.slice (some ⟨pg, po, none⟩) pops.length pc) := by rw [HWX.out.cell (by exact hgo)]; exact c2
                have d3 : wr.cell? ⟨gz, oz + j, none⟩ = some (.string Sx) := by rw [HBW.out.cell (by exact hgz)]; exact c3
                obtain ⟨W5, c5, hrun, hc51, hc52, hrd, hb5⟩ := conv_str wr Sx (by unfold maxLen; omega)
                rw [hS2] at hrun hc51
                rw [hS3] at hrd
                have HDEC := Lib.hid (decode_ok pq wr.heap.size 0 c5 pops L hgood hen hc51 (by unfold maxLen at hc52; omega) W5 hrd)
                have HWX5 := Lib.hid (HWX.out.trans (hb5.mono (by have := HWX.out.size; omega)))
                have HB5 := Lib.hid hb5
                have e1 : W5.cell? ⟨gs, os + j, none⟩ = some (.int .i64 pq) := by rw [hb5.cell (by exact Nat.lt_of_lt_of_le hgs HWX.out.size)]; exact d1
                have e2 : W5.cell? ⟨go, oo + j, none⟩ = some (.slice (some ⟨pg, po, none⟩) pops.length pc) := by rw [hb5.cell (by exact Nat.lt_of_lt_of_le hgo HWX.out.size)]; exact d2
                have hgs5 : gs < W5.heap.size := Nat.lt_of_lt_of_le hgs HWX5.out.size
                have hgo5 : go < W5.heap.size := Nat.lt_of_lt_of_le hgo HWX5.out.size
                have HGD := Lib.hid hgood
                have HOPS := Lib.hid hops
                have q0 : (0 : Int) ≤ j := by omega
                have q1 : (j : Int) < n := by omega
                have q2 : (j : Int) < q := by omega
                have q3 : ((pq : Int) != pq) = false := by simp
                clear hcs hco hcz2 c1 c2 c3 hen hel hp hgood ho12 hops hL hS1 hS2 hS3 hrd hb5 d1 d2
                go_wp2_with fail
                refine (HDEC.out).mono ?_
                rintro e w6 ⟨vd, rfl, hvd, hb6⟩
                have f1 : w6.cell? ⟨gs, os + j, none⟩ = some (.int .i64 pq) := by rw [hb6.cell (by exact hgs5)]; exact e1
                have f2 : w6.cell? ⟨go, oo + j, none⟩ = some (.slice (some ⟨pg, po, none⟩) pops.length pc) := by rw [hb6.cell (by exact hgo5)]; exact e2
                obtain ⟨gd, od, cd, rfl, _, hgd, _, _, hcd⟩ := hvd.parts HGD.out.1
                have HW6 := Lib.hid (HWX5.out.trans (hb6.mono HWX5.out.size))
                have HWB6 := Lib.hid (HBW.out.trans ((HB5.out.trans (hb6.mono HB5.out.size)).mono hbws))
                have HOPC := Lib.hid (ops_ok gd od cd pg po pc pops (by have := HGD.out.2.1; omega) w6 (opsAt_of hgd hcd) (HOPS.out.below (HB2.out.trans (HW6.out.mono hb2s)) HOPS.out.1))
                clear e1 e2 hvd hcd hb6
                generalize pops.length = pn at *
                go_wp2_with (go_at_call 10; refine (HOPC.out).mono ?_; rintro e w7 ⟨rfl, hb7⟩)
                go_roundw
                case rel => exact ⟨j + 1, by go_num, by omega, HWB6.out.trans (hb7.mono HWB6.out.size)⟩
                case measure => simp [intOf]; omega
              · go_wp2
                go_ret
                exact ⟨rfl, HB1.out.trans ((HB2.out.trans (HWX.out.mono hb2s)).mono hb1s)⟩
          · obtain ⟨ge, oe, ce, hee, _, hge, _, _, hce⟩ := HVE.out.parts (by omega)
            simp only [Value.slice.injEq, true_and] at hee
            obtain ⟨rfl, rfl⟩ := hee
            have c1 := hce (q - 1) _ (intV_at _ (q - 1) (by rw [endsN_len, HK.out]; omega))
            obtain ⟨E, hE⟩ : ∃ E, (endsN 0 Ls).getD (q - 1) 0 = E := ⟨_, rfl⟩
            rw [hE] at c1
            have c2 : wS.cell? ⟨ge, oe + (q - 1), none⟩ = some (.int .i64 (E : Nat)) := by
              rw [HGS.out.cell_far _ (by exact hge) (fun h => HD.out gb rfl (by simp at h; simp [Value.ownBlock, h]))]; exact c1
            have HEQ := Lib.hid hE
            have u1 : (0 : Int) ≤ (q : Int) - 1 := by omega
            have u2 : (q : Int) - 1 < n := by omega
            have u3 : ((q : Int) - 1).toNat = q - 1 := by omega
            clear hce hE c1
            by_cases hEc : E = c
            · have u4 : ((E : Int) == c) = true := by simp; omega
              have HSC := Lib.hid (HSP.out (q - 1) (HWT.out.1 ⟨hq0, by rw [HEQ.out]; exact hEc⟩) (by omega))
              have hq1 : q - 1 ≤ n := by omega
              have u5 : ((q : Int) - 1) = ((q - 1 : Nat) : Int) := by omega
              have U5 := Lib.hid u5
              clear hEc u5
              go_upto_region 24 with fail
              rw [U5.out]
              clear u1 u2 u3 U5
              generalize q - 1 = M at *
              go_wp2_with fail
              refine (HSC.out).mono ?_
              rintro e wz ⟨vz, tz, rfl, hvz, hbz⟩
              have HWZ := Lib.hid (HBS.out.trans (hbz.mono hbSs))
              obtain ⟨azz, cz, rfl, hcz⟩ := hvz.shape
              have HVZ := Lib.hid hvz
              have hwzs := HWZ.out.size
              have v1 : ((M : Int) != M) = false := by simp
              have hMn : M ≤ n := by omega
              clear hvz hbz HSC
              go_wp2
              go_loopw [19] (fun i wx => ∃ j : Nat, i = .int .i64 j ∧ j ≤ M ∧ Below wz.heap.size wz wx) (fun i _ => M - (intOf i).toNat)
              case atStart => exact ⟨0, rfl, Nat.zero_le _, Below.refl _ _⟩
              case round =>
                obtain ⟨j, rfl, hj, hbw⟩ := hrel
                have HBW := Lib.hid hbw
                have HWX := Lib.hid (HWZ.out.trans (hbw.mono hwzs))
                have hbws := hbw.size
                clear hbw
                by_cases hjM : j < M
                · have hjG : j < G.length := by rw [HN.out]; omega
                  have hjL : j < Ls.length := by rw [HK.out]; omega
                  obtain ⟨gz, oz, cz2, hze, _, hgz, _, _, hcz2⟩ := HVZ.out.parts (by omega)
                  simp only [Value.slice.injEq, true_and] at hze
                  obtain ⟨rfl, rfl⟩ := hze
                  obtain ⟨gs, os, cs, hev, _, hgs, _, _, hcs⟩ := HVS.out.parts (by rw [HN.out]; omega)
                  obtain ⟨go, oo, co, heo, _, hgo, _, _, hco⟩ := HVO.out.parts (by rw [HN.out]; omega)
                  simp only [Value.slice.injEq, true_and] at hev heo
                  obtain ⟨rfl, rfl⟩ := hev
                  obtain ⟨rfl, rfl⟩ := heo
                  have c1 := hcs j (.int .i64 G[j].seq) (by simp [hjG])
                  have c2 := hco j G[j].val (by simp [hjG])
                  have c3 := hcz2 j (strV Ls[j]) (by rw [List.getElem?_map, List.getElem?_take, if_pos hjM, List.getElem?_eq_getElem hjL]; rfl)
                  have hpok := HOK.out _ (List.getElem_mem hjG)
                  have hel := HLB.out _ (List.getElem_mem hjL)
                  have hen := HEE.out.2 j hjG hjL
                  obtain ⟨pq, pops, pg, po, pc, hp⟩ : ∃ a b c d e, G[j] = GR.mk a b c d e := ⟨_, _, _, _, _, rfl⟩
                  rw [hp] at c1 c2 hpok hen
                  simp only [GR.val] at c1 c2
                  obtain ⟨hgood, ho12, hops⟩ := hpok
                  simp only at hgood ho12 hops hen
                  obtain ⟨L, hL⟩ : ∃ L, Ls[j] = L := ⟨_, rfl⟩
                  rw [hL] at c3 hel hen
                  obtain ⟨Sx, hS1, hS2, hS3⟩ := str_bytes L hel.2.2
                  rw [hS1] at c3
                  have d1 : wr.cell? ⟨gs, os + j, none⟩ = some (.int .i64 pq) := by rw [HWX.out.cell (by exact hgs)]; exact c1
                  have d2 : wr.cell? ⟨go, oo + j, none⟩ = some (.slice (some ⟨pg, po, none⟩) pops.length pc) := by rw [HWX.out.cell (by exact hgo)]; exact c2
                  have d3 : wr.cell? ⟨gz, oz + j, none⟩ = some (.string Sx) := by rw [HBW.out.cell (by exact hgz)]; exact c3
                  obtain ⟨W5, c5, hrun, hc51, hc52, hrd, hb5⟩ := conv_str wr Sx (by unfold maxLen; omega)
                  rw [hS2] at hrun hc51
                  rw [hS3] at hrd
                  have HDEC := Lib.hid (decode_ok pq wr.heap.size 0 c5 pops L hgood hen hc51 (by unfold maxLen at hc52; omega) W5 hrd)
                  have HWX5 := Lib.hid (HWX.out.trans (hb5.mono (by have := HWX.out.size; omega)))
                  have HB5 := Lib.hid hb5
                  have e1 : W5.cell? ⟨gs, os + j, none⟩ = some (.int .i64 pq) := by rw [hb5.cell (by exact Nat.lt_of_lt_of_le hgs HWX.out.size)]; exact d1
                  have e2 : W5.cell? ⟨go, oo + j, none⟩ = some (.slice (some ⟨pg, po, none⟩) pops.length pc) := by rw [hb5.cell (by exact Nat.lt_of_lt_of_le hgo HWX.out.size)]; exact d2
                  have hgs5 : gs < W5.heap.size := Nat.lt_of_lt_of_le hgs HWX5.out.size
                  have hgo5 : go < W5.heap.size := Nat.lt_of_lt_of_le hgo HWX5.out.size
                  have HGD := Lib.hid hgood
                  have HOPS := Lib.hid hops
                  have q0 : (0 : Int) ≤ j := by omega
                  have q1 : (j : Int) < n := by omega
                  have q2 : (j : Int) < M := by omega
                  have q3 : ((pq : Int) != pq) = false := by simp
                  clear hcs hco hcz2 c1 c2 c3 hen hel hp hgood ho12 hops hL hS1 hS2 hS3 hrd hb5 d1 d2
                  go_wp2_with fail
                  refine (HDEC.out).mono ?_
                  rintro e w6 ⟨vd, rfl, hvd, hb6⟩
                  have f1 : w6.cell? ⟨gs, os + j, none⟩ = some (.int .i64 pq) := by rw [hb6.cell (by exact hgs5)]; exact e1
                  have f2 : w6.cell? ⟨go, oo + j, none⟩ = some (.slice (some ⟨pg, po, none⟩) pops.length pc) := by rw [hb6.cell (by exact hgo5)]; exact e2
                  obtain ⟨gd, od, cd, rfl, _, hgd, _, _, hcd⟩ := hvd.parts HGD.out.1
                  have HW6 := Lib.hid (HWX5.out.trans (hb6.mono HWX5.out.size))
                  have HWB6 := Lib.hid (HBW.out.trans ((HB5.out.trans (hb6.mono HB5.out.size)).mono hbws))
                  have HOPC := Lib.hid (ops_ok gd od cd pg po pc pops (by have := HGD.out.2.1; omega) w6 (opsAt_of hgd hcd) (HOPS.out.below (HB2.out.trans (HW6.out.mono hb2s)) HOPS.out.1))
                  clear e1 e2 hvd hcd hb6
                  generalize pops.length = pn at *
                  go_wp2_with (go_at_call 10; refine (HOPC.out).mono ?_; rintro e w7 ⟨rfl, hb7⟩)
                  go_roundw
                  case rel => exact ⟨j + 1, by go_num, by omega, HWB6.out.trans (hb7.mono HWB6.out.size)⟩
                  case measure => simp [intOf]; omega
                · go_wp2
                  go_ret
                  exact ⟨rfl, HB1.out.trans ((HB2.out.trans (HWX.out.mono hb2s)).mono hb1s)⟩
            · have u4 : ((E : Int) == c) = false := by simp; omega
              have HSC := Lib.hid (HSP.out q (HWT.out.2 (fun h => hEc (by rw [← HEQ.out]; exact h.2))) hq)
              clear hEc
              go_wp2_with fail
              refine (HSC.out).mono ?_
              rintro e wz ⟨vz, tz, rfl, hvz, hbz⟩
              have HWZ := Lib.hid (HBS.out.trans (hbz.mono hbSs))
              obtain ⟨azz, cz, rfl, hcz⟩ := hvz.shape
              have HVZ := Lib.hid hvz
              have hwzs := HWZ.out.size
              have v1 : ((q : Int) != q) = false := by simp
              have hMn : q ≤ n := by omega
              clear hvz hbz HSC
              go_wp2
              go_loopw [19] (fun i wx => ∃ j : Nat, i = .int .i64 j ∧ j ≤ q ∧ Below wz.heap.size wz wx) (fun i _ => q - (intOf i).toNat)
              case atStart => exact ⟨0, rfl, Nat.zero_le _, Below.refl _ _⟩
              case round =>
                obtain ⟨j, rfl, hj, hbw⟩ := hrel
                have HBW := Lib.hid hbw
                have HWX := Lib.hid (HWZ.out.trans (hbw.mono hwzs))
                have hbws := hbw.size
                clear hbw
                by_cases hjM : j < q
                · have hjG : j < G.length := by rw [HN.out]; omega
                  have hjL : j < Ls.length := by rw [HK.out]; omega
                  obtain ⟨gz, oz, cz2, hze, _, hgz, _, _, hcz2⟩ := HVZ.out.parts (by omega)
                  simp only [Value.slice.injEq, true_and] at hze
                  obtain ⟨rfl, rfl⟩ := hze
                  obtain ⟨gs, os, cs, hev, _, hgs, _, _, hcs⟩ := HVS.out.parts (by rw [HN.out]; omega)
                  obtain ⟨go, oo, co, heo, _, hgo, _, _, hco⟩ := HVO.out.parts (by rw [HN.out]; omega)
                  simp only [Value.slice.injEq, true_and] at hev heo
                  obtain ⟨rfl, rfl⟩ := hev
                  obtain ⟨rfl, rfl⟩ := heo
                  have c1 := hcs j (.int .i64 G[j].seq) (by simp [hjG])
                  have c2 := hco j G[j].val (by simp [hjG])
                  have c3 := hcz2 j (strV Ls[j]) (by rw [List.getElem?_map, List.getElem?_take, if_pos hjM, List.getElem?_eq_getElem hjL]; rfl)
                  have hpok := HOK.out _ (List.getElem_mem hjG)
                  have hel := HLB.out _ (List.getElem_mem hjL)
                  have hen := HEE.out.2 j hjG hjL
                  obtain ⟨pq, pops, pg, po, pc, hp⟩ : ∃ a b c d e, G[j] = GR.mk a b c d e := ⟨_, _, _, _, _, rfl⟩
                  rw [hp] at c1 c2 hpok hen
                  simp only [GR.val] at c1 c2
                  obtain ⟨hgood, ho12, hops⟩ := hpok
                  simp only at hgood ho12 hops hen
                  obtain ⟨L, hL⟩ : ∃ L, Ls[j] = L := ⟨_, rfl⟩
                  rw [hL] at c3 hel hen
                  obtain ⟨Sx, hS1, hS2, hS3⟩ := str_bytes L hel.2.2
                  rw [hS1] at c3
                  have d1 : wr.cell? ⟨gs, os + j, none⟩ = some (.int .i64 pq) := by rw [HWX.out.cell (by exact hgs)]; exact c1
                  have d2 : wr.cell? ⟨go, oo + j, none⟩ = some (.slice (some ⟨pg, po, none⟩) pops.length pc) := by rw [HWX.out.cell (by exact hgo)]; exact c2
                  have d3 : wr.cell? ⟨gz, oz + j, none⟩ = some (.string Sx) := by rw [HBW.out.cell (by exact hgz)]; exact c3
                  obtain ⟨W5, c5, hrun, hc51, hc52, hrd, hb5⟩ := conv_str wr Sx (by unfold maxLen; omega)
                  rw [hS2] at hrun hc51
                  rw [hS3] at hrd
                  have HDEC := Lib.hid (decode_ok pq wr.heap.size 0 c5 pops L hgood hen hc51 (by unfold maxLen at hc52; omega) W5 hrd)
                  have HWX5 := Lib.hid (HWX.out.trans (hb5.mono (by have := HWX.out.size; omega)))
                  have HB5 := Lib.hid hb5
                  have e1 : W5.cell? ⟨gs, os + j, none⟩ = some (.int .i64 pq) := by rw [hb5.cell (by exact Nat.lt_of_lt_of_le hgs HWX.out.size)]; exact d1
                  have e2 : W5.cell? ⟨go, oo + j, none⟩ = some (.slice (some ⟨pg, po, none⟩) pops.length pc) := by rw [hb5.cell (by exact Nat.lt_of_lt_of_le hgo HWX.out.size)]; exact d2
                  have hgs5 : gs < W5.heap.size := Nat.lt_of_lt_of_le hgs HWX5.out.size
                  have hgo5 : go < W5.heap.size := Nat.lt_of_lt_of_le hgo HWX5.out.size
                  have HGD := Lib.hid hgood
                  have HOPS := Lib.hid hops
                  have q0 : (0 : Int) ≤ j := by omega
                  have q1 : (j : Int) < n := by omega
                  have q2 : (j : Int) < q := by omega
                  have q3 : ((pq : Int) != pq) = false := by simp
                  clear hcs hco hcz2 c1 c2 c3 hen hel hp hgood ho12 hops hL hS1 hS2 hS3 hrd hb5 d1 d2
                  go_wp2_with fail
                  refine (HDEC.out).mono ?_
                  rintro e w6 ⟨vd, rfl, hvd, hb6⟩
                  have f1 : w6.cell? ⟨gs, os + j, none⟩ = some (.int .i64 pq) := by rw [hb6.cell (by exact hgs5)]; exact e1
                  have f2 : w6.cell? ⟨go, oo + j, none⟩ = some (.slice (some ⟨pg, po, none⟩) pops.length pc) := by rw [hb6.cell (by exact hgo5)]; exact e2
                  obtain ⟨gd, od, cd, rfl, _, hgd, _, _, hcd⟩ := hvd.parts HGD.out.1
                  have HW6 := Lib.hid (HWX5.out.trans (hb6.mono HWX5.out.size))
                  have HWB6 := Lib.hid (HBW.out.trans ((HB5.out.trans (hb6.mono HB5.out.size)).mono hbws))
                  have HOPC := Lib.hid (ops_ok gd od cd pg po pc pops (by have := HGD.out.2.1; omega) w6 (opsAt_of hgd hcd) (HOPS.out.below (HB2.out.trans (HW6.out.mono hb2s)) HOPS.out.1))
                  clear e1 e2 hvd hcd hb6
                  generalize pops.length = pn at *
                  go_wp2_with (go_at_call 10; refine (HOPC.out).mono ?_; rintro e w7 ⟨rfl, hb7⟩)
                  go_roundw
                  case rel => exact ⟨j + 1, by go_num, by omega, HWB6.out.trans (hb7.mono HWB6.out.size)⟩
                  case measure => simp [intOf]; omega
                · go_wp2
                  go_ret
                  exact ⟨rfl, HB1.out.trans ((HB2.out.trans (HWX.out.mono hb2s)).mono hb1s)⟩
end Go.Proofs.Ytcgbellmclhlpaa
