/-
  Merge: contracts of container/heap's down, up, Init, Fix, Pop at runs.
-/
import Derived.Test.YtcgkpgjjifggcaaN3
import Derived.Deep.RegionWith
import Derived.Deep.LoopGhost
namespace Go.Proofs.Ytcgkpgjjifggcaa
set_option linter.unusedVariables false
set_option linter.unusedSimpArgs false
open Go.RowKit Sl

def hI (M : Nat) : Value := .iface 64 (.pointer (some ⟨M, 0, none⟩))
theorem meth_fact (name : String) (f : FuncId) (b : Bool) (hi : (Try.prog.info? 64).map (fun i => (i.methods.find? (·.name == name)).map (fun m => (m.path, m.func))) = some (some (#[], some (f, b)))) :
    ∃ i m, Try.prog.info? 64 = some i ∧ i.methods.find? (·.name == name) = some m ∧ m.path = #[] ∧ m.func = some (f, b) := by
  cases h : Try.prog.info? 64 with
  | none => rw [h] at hi; cases hi
  | some i =>
    rw [h] at hi
    have h2 : (i.methods.find? (·.name == name)).map (fun m => (m.path, m.func)) = some (#[], some (f, b)) := Option.some.inj hi
    cases h3 : i.methods.find? (·.name == name) with
    | none => rw [h3] at h2; cases h2
    | some m =>
      rw [h3] at h2
      obtain ⟨h5, h6⟩ := Prod.mk.inj (Option.some.inj h2)
      exact ⟨i, m, rfl, h3, h5, h6⟩
theorem meth_val (fuel : Nat) (name : String) (f : FuncId) (M : Nat) (a : Option Addr) (n c : Nat) (w : World) (hi : (Try.prog.info? 64).map (fun i => (i.methods.find? (·.name == name)).map (fun m => (m.path, m.func))) = some (some (#[], some (f, false))))
    (hc : w.cell? ⟨M, 0, none⟩ = some (.slice a n c)) : (method (fuel + 1) 64 (.pointer (some ⟨M, 0, none⟩)) name).run Try.prog w = .ok (f, .slice a n c) w := by
  obtain ⟨i, m, h1, h3, h5, h6⟩ := meth_fact name f false hi
  have h7 : Try.prog.underlying 64 = some (.pointer 58) := Try.underlying64
  have hl : (loadVar 58 ⟨M, 0, none⟩).run Try.prog w = .ok (.slice a n c) w := by
    simp [go_sem, hc]
  unfold method
  simp only [Sem.run_bind, typeInfo, run_program, Result.andThen_ok, h1, h3, h5, h6]
  simp only [Sem.run_pure, Result.andThen_ok, h3]
  have hw : ∀ s u, (Builtin.ssaWrapNilChk_ #[64] 64 #[.pointer (some ⟨M, 0, none⟩), strVal s, strVal u]).run Try.prog w = .ok (.pointer (some ⟨M, 0, none⟩)) w := fun s u => rfl
  simp [h5, h6, follow, receiverAt, run_underlying h7, Place.get, hw, asAddr, hl]
theorem meth_ptr (fuel : Nat) (name : String) (f : FuncId) (M : Nat) (w : World) (hi : (Try.prog.info? 64).map (fun i => (i.methods.find? (·.name == name)).map (fun m => (m.path, m.func))) = some (some (#[], some (f, true)))) :
    (method (fuel + 1) 64 (.pointer (some ⟨M, 0, none⟩)) name).run Try.prog w = .ok (f, .pointer (some ⟨M, 0, none⟩)) w := by
  obtain ⟨i, m, h1, h3, h5, h6⟩ := meth_fact name f true hi
  have h7 : Try.prog.underlying 64 = some (.pointer 58) := Try.underlying64
  unfold method
  simp only [Sem.run_bind, typeInfo, run_program, Result.andThen_ok, h1, h3, h5, h6]
  simp only [Sem.run_pure, Result.andThen_ok, h3]
  simp [h5, h6, follow, receiverAt, run_underlying h7, Place.get]
theorem meth_Len (M : Nat) (a : Option Addr) (n c : Nat) (w : World) (hc : w.cell? ⟨M, 0, none⟩ = some (.slice a n c)) : (method 206 64 (.pointer (some ⟨M, 0, none⟩)) "Len").run Try.prog w = .ok (68, .slice a n c) w := meth_val 205 "Len" 68 M a n c w (by kernel_rfl) hc
theorem meth_Less (M : Nat) (a : Option Addr) (n c : Nat) (w : World) (hc : w.cell? ⟨M, 0, none⟩ = some (.slice a n c)) : (method 206 64 (.pointer (some ⟨M, 0, none⟩)) "Less").run Try.prog w = .ok (69, .slice a n c) w := meth_val 205 "Less" 69 M a n c w (by kernel_rfl) hc
theorem meth_Swap (M : Nat) (a : Option Addr) (n c : Nat) (w : World) (hc : w.cell? ⟨M, 0, none⟩ = some (.slice a n c)) : (method 206 64 (.pointer (some ⟨M, 0, none⟩)) "Swap").run Try.prog w = .ok (70, .slice a n c) w := meth_val 205 "Swap" 70 M a n c w (by kernel_rfl) hc
theorem meth_Pop (M : Nat) (w : World) : (method 206 64 (.pointer (some ⟨M, 0, none⟩)) "Pop").run Try.prog w = .ok (71, .pointer (some ⟨M, 0, none⟩)) w := meth_ptr 205 "Pop" 71 M w (by kernel_rfl)

/-- The merger's heap: its head in block M, its runs in block g. -/
def Own (M g : Nat) (b : Nat) : Prop := b = M ∨ b = g
def OwnE (M g E : Nat) (b : Nat) : Prop := Own M g b ∨ E ≤ b
structure Hp (w : World) (M g cap E : Nat) (H : List RunR) : Prop where
  top : w.cell? ⟨M, 0, none⟩ = some (.slice (some ⟨g, 0, none⟩) H.length cap)
  topf : w.frozen? ⟨M, 0, none⟩ = false
  ne : M ≠ g
  els : Els w g (OwnE M g E) H
  le : H.length ≤ cap
  max : cap ≤ maxLen
theorem Hp.lt {w : World} {M g cap E : Nat} {H : List RunR} (h : Hp w M g cap E H) : M < w.heap.size := cell_lt h.top
theorem Hp.below {w w' : World} {M g cap E : Nat} {H : List RunR} (h : Hp w M g cap E H) (hb : Below w.heap.size w w') : Hp w' M g cap E H :=
  ⟨by rw [hb.cell (by exact h.lt)]; exact h.top, by rw [hb.frozen (p := ⟨M, 0, none⟩) (by exact h.lt)]; exact h.topf, h.ne, h.els.below hb, h.le, h.max⟩
/-- The merger's memory lies below E: what stands above may turn. -/
theorem Hp.low {w w' : World} {M g cap E : Nat} {H : List RunR} (h : Hp w M g cap E H) (hM : M < E) (hg : g < E) (hb : Below E w w') : Hp w' M g cap E H := by
  have hm : Mod (OwnE M g E) w w' := ⟨hb.os, hb.tape, hb.output, hb.size, fun k _ hs => hb.block k (by
    by_cases hk : k < E
    · exact hk
    · exact absurd (.inr (by omega)) hs)⟩
  refine ⟨by rw [hb.cell (by exact hM)]; exact h.top, by rw [hb.frozen (p := ⟨M, 0, none⟩) (by exact hM)]; exact h.topf, h.ne, ⟨Nat.lt_of_lt_of_le h.els.lt hb.size, fun o => by rw [hb.frozen (p := ⟨g, o, none⟩) (by exact hg)]; exact h.els.free o, fun k hk => ?_⟩, h.le, h.max⟩
  obtain ⟨v, h1, h2, h3⟩ := h.els.el k hk
  exact ⟨v, by rw [hb.cell (by exact hg)]; exact h1, by rw [hb.cell (by exact hg)]; exact h2, h3.mod hm⟩
theorem less_int (a b : Int) (g cap i j : Nat) (S : Nat → Prop) (H : List RunR) (n : Nat) (w : World) (ha : a = i) (hb : b = j) (hn : H.length = n) (hE : Els w g S H) (hcap : n ≤ cap) (hcap2 : cap ≤ maxLen) (hi : i < H.length) (hj : j < H.length) (h1 : H[i].1 ≠ []) (h2 : H[j].1 ≠ []) (r : Bool) (hr : runLt H[i] H[j] = r) :
    Calls Try.prog 69 #[.slice (some ⟨g, 0, none⟩) n cap, .int .i64 a, .int .i64 b] w fun e w' => e = .returned (.bool r) ∧ Below w.heap.size w w' := by
  subst ha hb hn hr
  exact less_at g cap i j S H w hE hcap hcap2 hi hj h1 h2
theorem swap_int (a b : Int) (M g cap E i j : Nat) (H : List RunR) (n : Nat) (w : World) (ha : a = i) (hb : b = j) (hn : H.length = n) (hp : Hp w M g cap E H) (hij : i ≤ j) (hj : j < H.length) :
    Calls Try.prog 70 #[.slice (some ⟨g, 0, none⟩) n cap, .int .i64 a, .int .i64 b] w fun e w' => e = .returned (.tuple #[]) ∧ Hp w' M g cap E (Pl.sw H i j) ∧ Mod (· = g) w w' := by
  subst ha hb hn
  refine (swap_at g cap i j (OwnE M g E) H w (.inl (.inr rfl)) hp.els hp.le hp.max hij hj).mono ?_
  rintro e w' ⟨rfl, hE, hm⟩
  have hl := Pl.sw_len H i j
  exact ⟨rfl, ⟨by rw [hm.cell M 0 hp.lt hp.ne, hl]; exact hp.top, by rw [hm.frozen M 0 hp.lt hp.ne]; exact hp.topf, hp.ne, hE, by rw [hl]; exact hp.le, hp.max⟩, hm⟩
/-- The runs before n have cells. -/
def Full (n : Nat) (H : List RunR) : Prop := ∀ k r, k < n → H[k]? = some r → r.1 ≠ []
theorem Full.sw {n : Nat} {H : List RunR} (h : Full n H) (i j : Nat) (hi : i < n) (hj : j < n) (hn : n ≤ H.length) : Full n (Pl.sw H i j) := by
  intro k r hk hr
  by_cases h1 : k = j
  · subst h1; rw [Pl.sw_right H i k (by omega) (by omega)] at hr; exact h i r hi hr
  · by_cases h2 : k = i
    · subst h2; rw [Pl.sw_left H k j (by omega) (by omega)] at hr; exact h j r hj hr
    · rw [Pl.sw_other H i j k h2 h1] at hr; exact h k r hk hr
theorem Full.at {n : Nat} {H : List RunR} (h : Full n H) (k : Nat) (hk : k < n) (hl : k < H.length) : H[k].1 ≠ [] := h k _ hk (by simp [hl])

set_option maxRecDepth 100000 in
set_option maxHeartbeats 6400000 in
theorem down_ok (M g cap E i0 n : Nat) (H : List RunR) (w : World) (hp : Hp w M g cap E H) (hn : n ≤ H.length) (hi0 : i0 < n ∨ n = 0 ∧ i0 = 0) (hH : Pl.HInv runLt i0 i0 n H) (hF : Full n H) (hbig : H.length ≤ 1000000) :
    Calls Try.prog 40 #[hI M, .int .i64 i0, .int .i64 n] w fun e w' => ∃ b H', e = .returned (.bool b) ∧ Hp w' M g cap E H' ∧ H'.Perm H ∧ Pl.HeapFrom runLt i0 n H' ∧ Full n H' ∧ (∀ k, n ≤ k → H'[k]? = H[k]?) ∧ Mod (· = g) w w' := by
  obtain ⟨N, hN⟩ : ∃ N, H.length = N := ⟨_, rfl⟩
  have HN := Lib.hid hN
  have HP := Lib.hid hp
  have HH := Lib.hid hH
  have HF := Lib.hid hF
  rw [hN] at hn hbig
  clear hN hp hH hF
  unfold hI
  go_enter Try.func40, Try.ntmps40
  go_wp2
  go_loopw [7, 8, 9, 10] (fun i j1 j j2 wr => ∃ (x : Nat) (K : List RunR), i = .int .i64 x ∧ i0 ≤ x ∧ (x < n ∨ n = 0 ∧ x = 0) ∧ Hid (K.length = N) ∧ Hid (Hp wr M g cap E K) ∧ Hid (K.Perm H) ∧ Hid (Pl.HInv runLt i0 x n K) ∧ Hid (Full n K) ∧ Hid (∀ k, n ≤ k → K[k]? = H[k]?) ∧ Hid (Mod (· = g) w wr))
    (fun i _ _ _ _ => n - (intOf i).toNat)
  case atStart => exact ⟨i0, H, rfl, Nat.le_refl _, hi0, HN, HP, Lib.hid (List.Perm.refl _), HH, HF, Lib.hid (fun k _ => rfl), Lib.hid (Mod.refl _ _)⟩
  case round =>
    obtain ⟨x, K, rfl, hx0, hxn, HKN, HKP, HPE, HIV, HFU, HTA, HMO⟩ := hrel
    by_cases h1 : n ≤ 2 * x + 1
    · have y1 : (n : Int) ≤ 2 * (x : Int) + 1 := by omega
      go_wp2
      go_ret
      exact ⟨_, K, rfl, HKP.out, HPE.out, Pl.hinv_leaf runLt i0 x n K HIV.out h1, HFU.out, HTA.out, HMO.out⟩
    · have y1 : decide ((n : Int) ≤ 2 * (x : Int) + 1) = false := by simp; omega
      have hm := meth_Less M _ _ _ wr HKP.out.top
      rw [HKN.out] at hm
      have hkl : K.length = N := HKN.out
      by_cases h2 : 2 * x + 2 < n
      · have y2 : 2 * (x : Int) + 1 + 1 < n := by omega
        obtain ⟨b, hb⟩ : ∃ b, runLt (K[2 * x + 2]'(by omega)) (K[2 * x + 1]'(by omega)) = b := ⟨_, rfl⟩
        have HB := Lib.hid hb
        go_wp2_with fail
        refine (less_int _ _ g cap (2 * x + 2) (2 * x + 1) (OwnE M g E) K N _ (by omega) (by omega) HKN.out HKP.out.els (by have := HKP.out.le; omega) HKP.out.max (by omega) (by omega) (HFU.out.at _ (by omega) (by omega)) (HFU.out.at _ (by omega) (by omega)) b HB.out).mono ?_
        rintro e w1 ⟨rfl, hb1⟩
        have HP1 := Lib.hid (HKP.out.below hb1)
        have HM1 := Lib.hid (HMO.out.trans (Mod.of_below hb1 (Nat.le_refl _)))
        clear hm hb1 hb
        cases b with
        | true =>
          have HKID := Lib.hid (Pl.kid_right runLt runLt_weak x n K runLt_irr h2 K[2 * x + 2] K[2 * x + 1] (by simp) (by simp) HB.out)
          obtain ⟨c, hc⟩ : ∃ c, runLt (K[2 * x + 2]'(by omega)) K[x] = c := ⟨_, rfl⟩
          have HC := Lib.hid hc
          have hm2 := meth_Less M _ _ _ w1 HP1.out.top
          rw [HKN.out] at hm2
          go_wp2_with fail
          refine (less_int _ _ g cap (2 * x + 2) x (OwnE M g E) K N _ (by omega) (by omega) HKN.out HP1.out.els (by have := HP1.out.le; omega) HP1.out.max (by omega) (by omega) (HFU.out.at _ (by omega) (by omega)) (HFU.out.at _ (by omega) (by omega)) c HC.out).mono ?_
          rintro e wv ⟨rfl, hbv⟩
          have HPV := Lib.hid (HP1.out.below hbv)
          have HMV := Lib.hid (HM1.out.trans (Mod.of_below hbv (Nat.le_refl _)))
          clear hm2 hbv hc
          cases c with
          | false =>
            go_wp2
            go_ret
            exact ⟨_, K, rfl, HPV.out, HPE.out, Pl.hinv_done runLt runLt_weak i0 x (2 * x + 2) n K HIV.out HKID.out _ _ (by simp) (by simp) HC.out, HFU.out, HTA.out, HMV.out⟩
          | true =>
            have hm3 := meth_Swap M _ _ _ wv HPV.out.top
            rw [HKN.out] at hm3
            go_wp2_with fail
            refine (swap_int _ _ M g cap E x (2 * x + 2) K N _ (by omega) (by omega) HKN.out HPV.out (by omega) (by omega)).mono ?_
            rintro e wz ⟨rfl, hpz, hmz⟩
            have HPZ := Lib.hid hpz
            have HMZ := Lib.hid (HMV.out.trans hmz)
            clear hm3 hpz hmz
            go_wp2
            go_roundw
            case rel =>
              exact ⟨2 * x + 2, Pl.sw K x (2 * x + 2), by go_num, by omega, .inl (by omega), Lib.hid (by rw [Pl.sw_len]; exact HKN.out), HPZ, Lib.hid ((Pl.sw_perm K x (2 * x + 2)).trans HPE.out),
                Lib.hid (Pl.hinv_step runLt runLt_weak i0 x (2 * x + 2) n K (by omega) (by omega) hx0 HIV.out HKID.out _ _ (by simp) (by simp) HC.out), Lib.hid (HFU.out.sw x (2 * x + 2) (by omega) (by omega) (by omega)),
                Lib.hid (fun k hk => by rw [Pl.sw_other K x (2 * x + 2) k (by omega) (by omega)]; exact HTA.out k hk), HMZ⟩
            case measure => simp [intOf]; omega
        | false =>
          have HKID := Lib.hid (Pl.kid_left runLt x n K runLt_irr (by omega) (fun a b' _ ha hb' => by
            rw [List.getElem?_eq_getElem (by omega)] at ha hb'
            cases ha; cases hb'
            exact HB.out))
          obtain ⟨c, hc⟩ : ∃ c, runLt (K[2 * x + 1]'(by omega)) K[x] = c := ⟨_, rfl⟩
          have HC := Lib.hid hc
          have hm2 := meth_Less M _ _ _ w1 HP1.out.top
          rw [HKN.out] at hm2
          go_wp2_with fail
          refine (less_int _ _ g cap (2 * x + 1) x (OwnE M g E) K N _ (by omega) (by omega) HKN.out HP1.out.els (by have := HP1.out.le; omega) HP1.out.max (by omega) (by omega) (HFU.out.at _ (by omega) (by omega)) (HFU.out.at _ (by omega) (by omega)) c HC.out).mono ?_
          rintro e wv ⟨rfl, hbv⟩
          have HPV := Lib.hid (HP1.out.below hbv)
          have HMV := Lib.hid (HM1.out.trans (Mod.of_below hbv (Nat.le_refl _)))
          clear hm2 hbv hc
          cases c with
          | false =>
            go_wp2
            go_ret
            exact ⟨_, K, rfl, HPV.out, HPE.out, Pl.hinv_done runLt runLt_weak i0 x (2 * x + 1) n K HIV.out HKID.out _ _ (by simp) (by simp) HC.out, HFU.out, HTA.out, HMV.out⟩
          | true =>
            have hm3 := meth_Swap M _ _ _ wv HPV.out.top
            rw [HKN.out] at hm3
            go_wp2_with fail
            refine (swap_int _ _ M g cap E x (2 * x + 1) K N _ (by omega) (by omega) HKN.out HPV.out (by omega) (by omega)).mono ?_
            rintro e wz ⟨rfl, hpz, hmz⟩
            have HPZ := Lib.hid hpz
            have HMZ := Lib.hid (HMV.out.trans hmz)
            clear hm3 hpz hmz
            go_wp2
            go_roundw
            case rel =>
              exact ⟨2 * x + 1, Pl.sw K x (2 * x + 1), by go_num, by omega, .inl (by omega), Lib.hid (by rw [Pl.sw_len]; exact HKN.out), HPZ, Lib.hid ((Pl.sw_perm K x (2 * x + 1)).trans HPE.out),
                Lib.hid (Pl.hinv_step runLt runLt_weak i0 x (2 * x + 1) n K (by omega) (by omega) hx0 HIV.out HKID.out _ _ (by simp) (by simp) HC.out), Lib.hid (HFU.out.sw x (2 * x + 1) (by omega) (by omega) (by omega)),
                Lib.hid (fun k hk => by rw [Pl.sw_other K x (2 * x + 1) k (by omega) (by omega)]; exact HTA.out k hk), HMZ⟩
            case measure => simp [intOf]; omega
      · have y2 : decide (2 * (x : Int) + 1 + 1 < n) = false := by simp; omega
        have HKID := Lib.hid (Pl.kid_left runLt x n K runLt_irr (by omega) (fun a b' h _ _ => absurd h h2))
        clear hm
        obtain ⟨c, hc⟩ : ∃ c, runLt (K[2 * x + 1]'(by omega)) K[x] = c := ⟨_, rfl⟩
        have HC := Lib.hid hc
        have hm2 := meth_Less M _ _ _ wr HKP.out.top
        rw [HKN.out] at hm2
        go_wp2_with fail
        refine (less_int _ _ g cap (2 * x + 1) x (OwnE M g E) K N _ (by omega) (by omega) HKN.out HKP.out.els (by have := HKP.out.le; omega) HKP.out.max (by omega) (by omega) (HFU.out.at _ (by omega) (by omega)) (HFU.out.at _ (by omega) (by omega)) c HC.out).mono ?_
        rintro e wv ⟨rfl, hbv⟩
        have HPV := Lib.hid (HKP.out.below hbv)
        have HMV := Lib.hid (HMO.out.trans (Mod.of_below hbv (Nat.le_refl _)))
        clear hm2 hbv hc
        cases c with
        | false =>
          go_wp2
          go_ret
          exact ⟨_, K, rfl, HPV.out, HPE.out, Pl.hinv_done runLt runLt_weak i0 x (2 * x + 1) n K HIV.out HKID.out _ _ (by simp) (by simp) HC.out, HFU.out, HTA.out, HMV.out⟩
        | true =>
          have hm3 := meth_Swap M _ _ _ wv HPV.out.top
          rw [HKN.out] at hm3
          go_wp2_with fail
          refine (swap_int _ _ M g cap E x (2 * x + 1) K N _ (by omega) (by omega) HKN.out HPV.out (by omega) (by omega)).mono ?_
          rintro e wz ⟨rfl, hpz, hmz⟩
          have HPZ := Lib.hid hpz
          have HMZ := Lib.hid (HMV.out.trans hmz)
          clear hm3 hpz hmz
          go_wp2
          go_roundw
          case rel =>
            exact ⟨2 * x + 1, Pl.sw K x (2 * x + 1), by go_num, by omega, .inl (by omega), Lib.hid (by rw [Pl.sw_len]; exact HKN.out), HPZ, Lib.hid ((Pl.sw_perm K x (2 * x + 1)).trans HPE.out),
              Lib.hid (Pl.hinv_step runLt runLt_weak i0 x (2 * x + 1) n K (by omega) (by omega) hx0 HIV.out HKID.out _ _ (by simp) (by simp) HC.out), Lib.hid (HFU.out.sw x (2 * x + 1) (by omega) (by omega) (by omega)),
              Lib.hid (fun k hk => by rw [Pl.sw_other K x (2 * x + 1) k (by omega) (by omega)]; exact HTA.out k hk), HMZ⟩
          case measure => simp [intOf]; omega
end Go.Proofs.Ytcgkpgjjifggcaa
