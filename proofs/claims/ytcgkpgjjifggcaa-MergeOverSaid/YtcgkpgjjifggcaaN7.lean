/-
  Merge: contract of the merger's take.
-/
import Derived.Test.YtcgkpgjjifggcaaN6
namespace Go.Proofs.Ytcgkpgjjifggcaa
set_option linter.unusedVariables false
set_option linter.unusedSimpArgs false
open Go.RowKit Sl

theorem Hp.head {w w' : World} {M g cap E : Nat} {r r' : RunR} {H : List RunR} (h : Hp w M g cap E (r :: H)) (hm : Mod (· = g) w w') (hc : ∀ o, o ≠ 0 → w'.cell? ⟨g, o, none⟩ = w.cell? ⟨g, o, none⟩)
    (hf : ∀ o, w'.frozen? ⟨g, o, none⟩ = w.frozen? ⟨g, o, none⟩) (v' : Value) (h0 : w'.cell? ⟨g, 0, none⟩ = some v') (hv : RunV w (OwnE M g E) v' r'.1) (h2 : r'.2 = r.2) : Hp w' M g cap E (r' :: H) := by
  have hmO : Mod (OwnE M g E) w w' := hm.mono (fun k hk => .inl (.inr hk))
  refine ⟨by rw [hm.cell M 0 h.lt h.ne]; exact h.top, by rw [hm.frozen M 0 h.lt h.ne]; exact h.topf, h.ne, ⟨Nat.lt_of_lt_of_le h.els.lt hm.size, fun o => by rw [hf]; exact h.els.free o, fun k hk => ?_⟩, h.le, h.max⟩
  cases k with
  | zero =>
    obtain ⟨v, a, b, c⟩ := h.els.el 0 (by simp)
    exact ⟨v', h0, by rw [hc _ (by omega)]; simpa [h2] using b, hv.mod hmO⟩
  | succ k =>
    obtain ⟨v, a, b, c⟩ := h.els.el (k + 1) (by simpa using hk)
    exact ⟨v, by rw [hc _ (by omega)]; exact a, by rw [hc _ (by omega)]; simpa using b, by simpa using c.mod hmO⟩

theorem fix_lit (M g cap E : Nat) (H : List RunR) (w : World) (hp : Hp w M g cap E H) (hpos : 0 < H.length) (hH : Pl.HInv runLt 0 0 H.length H) (hF : Full H.length H) (hbig : H.length ≤ 1000000) :
    Calls Try.prog 42 #[.iface 64 (.pointer (some ⟨M, 0, none⟩)), .int .i64 0] w fun e w' => e = .returned (.tuple #[]) ∧ ∃ H', Hp w' M g cap E H' ∧ H'.Perm H ∧ Pl.HeapFrom runLt 0 H.length H' ∧ Full H.length H' ∧ Mod (· = g) w w' := fix_ok M g cap E H w hp hpos hH hF hbig
theorem pop_lit (M g cap E N : Nat) (H : List RunR) (w : World) (hp : Hp w M g cap E H) (hN : H.length = N + 1) (hH : Pl.HInv runLt 0 0 (N + 1) H) (hF : ∀ k r, 0 < k → H[k]? = some r → r.1 ≠ []) (hbig : H.length ≤ 1000000) :
    Calls Try.prog 41 #[.iface 64 (.pointer (some ⟨M, 0, none⟩))] w fun e w' => (∃ v, e = .returned v) ∧ ∃ H', Hp w' M g cap E H' ∧ H'.length = N ∧ (H'.Perm H.tail) ∧ Pl.HeapFrom runLt 0 N H' ∧ Full N H' ∧ Mod (Own M g) w w' := heapPop_ok M g cap E N H w hp hN hH hF hbig
theorem Mod.fresh {S : Nat → Prop} {w w1 : World} (h : Mod S w w1) (k o : Nat) (hk : w.heap.size ≤ k) (v : Value) : Mod S w (w1.setCell ⟨k, o, none⟩ v) := by
  have hm := mod_setCell w1 k o v
  exact ⟨hm.os.trans h.os, hm.tape.trans h.tape, hm.output.trans h.output, Nat.le_trans h.size hm.size, fun j hj hs => (hm.block j (Nat.lt_of_lt_of_le hj h.size) (by omega)).trans (h.block j hj hs)⟩
def CellR.value (c : CellR) : Value := .agg #[.string c.ver.key, .int .i64 c.ver.seq, .int .i64 c.ver.kind, .string c.val]
theorem Hp.headw {w : World} {M g cap E i : Nat} {c : CellR} {l : List CellR} {H : List RunR} (h : Hp w M g cap E ((c :: l, i) :: H)) (X Y : Obj) (v' : Value) (hv : RunV w (OwnE M g E) v' l) :
    Hp (((w.setCell ⟨g, 0, none⟩ v').alloc X).alloc Y) M g cap E ((l, i) :: H) ∧ Mod (· = g) w (((w.setCell ⟨g, 0, none⟩ v').alloc X).alloc Y) := by
  have hb : Below w.heap.size (w.setCell ⟨g, 0, none⟩ v') (((w.setCell ⟨g, 0, none⟩ v').alloc X).alloc Y) := ((Below.refl _ _).alloc (by simp) _).alloc (by simp) _
  have hm : Mod (· = g) w (((w.setCell ⟨g, 0, none⟩ v').alloc X).alloc Y) := (mod_setCell w g 0 v').trans (Mod.of_below hb (by simp))
  obtain ⟨v, a, _⟩ := h.els.el 0 (by simp)
  have hgl := h.els.lt
  refine ⟨Hp.head (r' := (l, i)) h hm (fun o ho => ?_) (fun o => ?_) v' ?_ hv rfl, hm⟩
  · rw [hb.cell (p := ⟨g, o, none⟩) (by exact hgl)]
    exact World.cell?_setCells_out g [v'] 0 w _ (fun _ _ => .inr (by show 0 + 1 ≤ o; omega))
  · rw [hb.frozen (p := ⟨g, o, none⟩) (by exact hgl)]
    show (w.setCells g 0 [v']).frozen? _ = _
    rw [World.frozen?_setCells]
  · rw [hb.cell (p := ⟨g, 0, none⟩) (by exact hgl)]
    exact World.cell?_setCell_same _ _ _ a

set_option maxHeartbeats 1600000 in
theorem take_more (M g cap E : Nat) (c : CellR) (l : List CellR) (i : Nat) (H : List RunR) (w : World) (hME : M < E) (hgE : g < E) (hEw : E ≤ w.heap.size) (hp : Hp w M g cap E ((c :: l, i) :: H)) (hheap : Pl.HeapFrom runLt 0 (H.length + 1) ((c :: l, i) :: H))
    (hF : Full (H.length + 1) ((c :: l, i) :: H)) (hl : l ≠ []) (hbig : H.length + 1 ≤ 1000000) :
    Calls Try.prog 31 #[.pointer (some ⟨M, 0, none⟩)] w fun e w' => e = .returned c.value ∧ ∃ H', Hp w' M g cap E H' ∧ H'.Perm ((l, i) :: H) ∧ Pl.HeapFrom runLt 0 (H.length + 1) H' ∧ Full (H.length + 1) H' ∧ Mod (Own M g) w w' := by
  obtain ⟨v, a, b, ao, cc, hv, hcap1, hcap2, hr⟩ := hp.els.el 0 (by simp)
  rcases hr with hr | ⟨bb, o, rfl, hb, hcs⟩
  · simp at hr
  obtain ⟨x1, x2, x3, x4⟩ := hcs.2 0 (by simp)
  have hbl := hcs.1
  have ht := hp.top
  have hfg := hp.els.free 0
  have hMl := hp.lt
  have hgl := hp.els.lt
  have hne := hp.ne
  have hcle := hp.le
  have hmax := hp.max
  simp only [List.getElem_cons_zero, Nat.zero_mul, Nat.add_zero, List.length_cons] at x1 x2 x3 x4 hv a b hcap1 ht hcle
  subst hv
  have hl1 : 0 < l.length := List.length_pos_iff.2 hl
  have hbM : bb ≠ M := fun e => hb (.inl (.inl e))
  have hbg : bb ≠ g := fun e => hb (.inl (.inr e))
  have HFX : Hid (∀ X Y, Calls Try.prog 42 #[.iface 64 (.pointer (some ⟨M, 0, none⟩)), .int .i64 0] (((w.setCell ⟨g, 0, none⟩ (.slice (some ⟨bb, o + 4, none⟩) l.length (cc - 1))).alloc X).alloc Y) fun e w' => e = .returned (.tuple #[]) ∧
      ∃ H', Hp w' M g cap E H' ∧ H'.Perm ((l, i) :: H) ∧ Pl.HeapFrom runLt 0 (H.length + 1) H' ∧ Full (H.length + 1) H' ∧ Mod (Own M g) w (((w.setCell ⟨g, 0, none⟩ (.slice (some ⟨bb, o + 4, none⟩) l.length (cc - 1))).alloc X).alloc Y) ∧ Mod (Own M g) (((w.setCell ⟨g, 0, none⟩ (.slice (some ⟨bb, o + 4, none⟩) l.length (cc - 1))).alloc X).alloc Y) w') := Lib.hid (fun X Y => by
    obtain ⟨h1, h2⟩ := hp.headw X Y (.slice (some ⟨bb, o + 4, none⟩) l.length (cc - 1)) ⟨_, _, rfl, by omega, by omega, .inr ⟨bb, o + 4, rfl, hb, hcs.tail⟩⟩
    refine (fix_lit M g cap E ((l, i) :: H) _ h1 (by simp) (Pl.hinv_root runLt _ _ _ _ (Nat.le_refl _) hheap (fun k h1 h2 => by cases k with | zero => omega | succ k => rfl)) (fun k r hk hr => ?_) (by simpa using hbig)).mono ?_
    · cases k with
      | zero => simp at hr; subst hr; exact hl
      | succ k => exact hF (k + 1) r hk hr
    · rintro e w' ⟨rfl, H', a1, a2, a3, a4, a5⟩
      exact ⟨rfl, H', a1, a2, a3, a4, h2.mono (fun k hk => .inr hk), a5.mono (fun k hk => .inr hk)⟩)
  unfold maxLen at hcap2 hmax
  obtain ⟨n, hn⟩ : ∃ n, H.length + 1 = n := ⟨_, rfl⟩
  obtain ⟨m, hm⟩ : ∃ m, l.length = m := ⟨_, rfl⟩
  rw [hn] at ht hcle
  rw [hm] at a hcap1 hl1 HFX
  have hn0 : 0 < n := by omega
  have e0 : ((m : Int) == 0) = false := by simp; omega
  clear hp hheap hF hcs hn hm hb
  unfold CellR.value
  go_enter Try.func31, Try.ntmps31
  go_wp2_with fail
  refine (HFX.out _ _).mono ?_
  rintro e w1 ⟨rfl, H', hp', hperm, hheap, hfull, hm1, hm2⟩
  have hnn : ∀ k, w.heap.size ≤ k → ¬ Own M g k := fun k hk h => by rcases h with h | h <;> omega
  have c0 : w1.cell? ⟨w.heap.size + 1, 0, none⟩ = some (.string c.ver.key) := (hm2.cell _ 0 (by simp <;> omega) (hnn _ (by omega))).trans (by simp [go_sem])
  have c1 : w1.cell? ⟨w.heap.size + 1, 1, none⟩ = some (.int .i64 c.ver.seq) := (hm2.cell _ 1 (by simp <;> omega) (hnn _ (by omega))).trans (by simp [go_sem])
  have c2 : w1.cell? ⟨w.heap.size + 1, 2, none⟩ = some (.int .i64 c.ver.kind) := (hm2.cell _ 2 (by simp <;> omega) (hnn _ (by omega))).trans (by simp [go_sem])
  have c3 : w1.cell? ⟨w.heap.size + 1, 3, none⟩ = some (.string c.val) := (hm2.cell _ 3 (by simp <;> omega) (hnn _ (by omega))).trans (by simp [go_sem])
  have d0 : w1.cell? ⟨w.heap.size, 0, none⟩ = some (.string ⟨#[]⟩) := (hm2.cell _ 0 (by simp <;> omega) (hnn _ (by omega))).trans (by simp [go_sem])
  have d1 : w1.cell? ⟨w.heap.size, 1, none⟩ = some (.int .i64 0) := (hm2.cell _ 1 (by simp <;> omega) (hnn _ (by omega))).trans (by simp [go_sem])
  have d2 : w1.cell? ⟨w.heap.size, 2, none⟩ = some (.int .i64 0) := (hm2.cell _ 2 (by simp <;> omega) (hnn _ (by omega))).trans (by simp [go_sem])
  have d3 : w1.cell? ⟨w.heap.size, 3, none⟩ = some (.string ⟨#[]⟩) := (hm2.cell _ 3 (by simp <;> omega) (hnn _ (by omega))).trans (by simp [go_sem])
  have f0 : ∀ o, w1.frozen? ⟨w.heap.size, o, none⟩ = false := fun o => (hm2.frozen _ o (by simp <;> omega) (hnn _ (by omega))).trans (by simp [go_sem])
  have HQ := Lib.hid (And.intro hp' (And.intro hperm (And.intro hheap (And.intro hfull (hm1.trans hm2)))))
  clear hp' hperm hheap hfull hm1 hm2 hnn HFX
  go_wp2
  refine bodyPost_ret (v := .agg #[.string c.ver.key, .int .i64 c.ver.seq, .int .i64 c.ver.kind, .string c.val]) (by simp [results, Try.results31, go_sem, d0, d1, d2, d3]) rfl ⟨rfl, ?_⟩
  obtain ⟨q1, q2, q3, q4, q5⟩ := HQ.out
  exact ⟨H', q1.low hME hgE (((((Below.refl E w1).setCell hEw _).setCell hEw _).setCell hEw _).setCell hEw _), q2, q3, q4, (((q5.fresh _ 0 (Nat.le_refl _) _).fresh _ 1 (Nat.le_refl _) _).fresh _ 2 (Nat.le_refl _) _).fresh _ 3 (Nat.le_refl _) _⟩
set_option maxHeartbeats 1600000 in
theorem take_last (M g cap E : Nat) (c : CellR) (i : Nat) (H : List RunR) (w : World) (hME : M < E) (hgE : g < E) (hEw : E ≤ w.heap.size) (hp : Hp w M g cap E (([c], i) :: H)) (hheap : Pl.HeapFrom runLt 0 (H.length + 1) (([c], i) :: H))
    (hF : Full (H.length + 1) (([c], i) :: H)) (hbig : H.length + 1 ≤ 1000000) :
    Calls Try.prog 31 #[.pointer (some ⟨M, 0, none⟩)] w fun e w' => e = .returned c.value ∧ ∃ H', Hp w' M g cap E H' ∧ H'.Perm H ∧ Pl.HeapFrom runLt 0 H.length H' ∧ Full H.length H' ∧ Mod (Own M g) w w' := by
  obtain ⟨v, a, b, ao, cc, hv, hcap1, hcap2, hr⟩ := hp.els.el 0 (by simp)
  rcases hr with hr | ⟨bb, o, rfl, hb, hcs⟩
  · simp at hr
  obtain ⟨x1, x2, x3, x4⟩ := hcs.2 0 (by simp)
  have hbl := hcs.1
  have ht := hp.top
  have hfg := hp.els.free 0
  have hMl := hp.lt
  have hgl := hp.els.lt
  have hne := hp.ne
  have hcle := hp.le
  have hmax := hp.max
  simp only [List.getElem_cons_zero, Nat.zero_mul, Nat.add_zero, List.length_cons, List.length_nil, Nat.zero_add] at x1 x2 x3 x4 hv a b hcap1 ht hcle
  subst hv
  have hbM : bb ≠ M := fun e => hb (.inl (.inl e))
  have hbg : bb ≠ g := fun e => hb (.inl (.inr e))
  have HFX : Hid (∀ ao cp X Y, cp ≤ maxLen → Calls Try.prog 41 #[.iface 64 (.pointer (some ⟨M, 0, none⟩))] (((w.setCell ⟨g, 0, none⟩ (.slice ao 0 cp)).alloc X).alloc Y) fun e w' => (∃ v, e = .returned v) ∧
      ∃ H', Hp w' M g cap E H' ∧ H'.Perm H ∧ Pl.HeapFrom runLt 0 H.length H' ∧ Full H.length H' ∧ Mod (Own M g) w (((w.setCell ⟨g, 0, none⟩ (.slice ao 0 cp)).alloc X).alloc Y) ∧ Mod (Own M g) (((w.setCell ⟨g, 0, none⟩ (.slice ao 0 cp)).alloc X).alloc Y) w') := Lib.hid (fun ao cp X Y hcp => by
    obtain ⟨h1, h2⟩ := hp.headw X Y (.slice ao 0 cp) (l := []) ⟨_, _, rfl, Nat.zero_le _, hcp, .inl rfl⟩
    refine (pop_lit M g cap E H.length (([], i) :: H) _ h1 (by simp) (Pl.hinv_root runLt _ _ _ _ (Nat.le_refl _) hheap (fun k h1 h2 => by cases k with | zero => omega | succ k => rfl)) (fun k r hk hr => ?_) (by simpa using hbig)).mono ?_
    · cases k with
      | zero => omega
      | succ k => exact hF (k + 1) r (by have := (List.getElem?_eq_some_iff.1 hr).1; simpa using this) hr
    · rintro e w' ⟨hv, H', a1, a0, a2, a3, a4, a5⟩
      exact ⟨hv, H', a1, a2, a3, a4, h2.mono (fun k hk => .inr hk), a5⟩)
  unfold maxLen at hcap2 hmax
  obtain ⟨n, hn⟩ : ∃ n, H.length + 1 = n := ⟨_, rfl⟩
  rw [hn] at ht hcle
  have hn0 : 0 < n := by omega
  clear hp hheap hF hcs hn hb
  unfold CellR.value
  by_cases hcc : cc = 1
  · subst hcc
    go_enter Try.func31, Try.ntmps31
    go_wp2_with fail
    refine (HFX.out _ _ _ _ (by unfold maxLen; omega)).mono ?_
    rintro e w1 ⟨⟨v, rfl⟩, H', hp', hperm, hheap, hfull, hm1, hm2⟩
    have hnn : ∀ k, w.heap.size ≤ k → ¬ Own M g k := fun k hk h => by rcases h with h | h <;> omega
    have c0 : w1.cell? ⟨w.heap.size + 1, 0, none⟩ = some (.string c.ver.key) := (hm2.cell _ 0 (by simp <;> omega) (hnn _ (by omega))).trans (by simp [go_sem])
    have c1 : w1.cell? ⟨w.heap.size + 1, 1, none⟩ = some (.int .i64 c.ver.seq) := (hm2.cell _ 1 (by simp <;> omega) (hnn _ (by omega))).trans (by simp [go_sem])
    have c2 : w1.cell? ⟨w.heap.size + 1, 2, none⟩ = some (.int .i64 c.ver.kind) := (hm2.cell _ 2 (by simp <;> omega) (hnn _ (by omega))).trans (by simp [go_sem])
    have c3 : w1.cell? ⟨w.heap.size + 1, 3, none⟩ = some (.string c.val) := (hm2.cell _ 3 (by simp <;> omega) (hnn _ (by omega))).trans (by simp [go_sem])
    have d0 : w1.cell? ⟨w.heap.size, 0, none⟩ = some (.string ⟨#[]⟩) := (hm2.cell _ 0 (by simp <;> omega) (hnn _ (by omega))).trans (by simp [go_sem])
    have d1 : w1.cell? ⟨w.heap.size, 1, none⟩ = some (.int .i64 0) := (hm2.cell _ 1 (by simp <;> omega) (hnn _ (by omega))).trans (by simp [go_sem])
    have d2 : w1.cell? ⟨w.heap.size, 2, none⟩ = some (.int .i64 0) := (hm2.cell _ 2 (by simp <;> omega) (hnn _ (by omega))).trans (by simp [go_sem])
    have d3 : w1.cell? ⟨w.heap.size, 3, none⟩ = some (.string ⟨#[]⟩) := (hm2.cell _ 3 (by simp <;> omega) (hnn _ (by omega))).trans (by simp [go_sem])
    have f0 : ∀ o, w1.frozen? ⟨w.heap.size, o, none⟩ = false := fun o => (hm2.frozen _ o (by simp <;> omega) (hnn _ (by omega))).trans (by simp [go_sem])
    have HQ := Lib.hid (And.intro hp' (And.intro hperm (And.intro hheap (And.intro hfull (hm1.trans hm2)))))
    clear hp' hperm hheap hfull hm1 hm2 hnn HFX
    go_wp2
    refine bodyPost_ret (v := .agg #[.string c.ver.key, .int .i64 c.ver.seq, .int .i64 c.ver.kind, .string c.val]) (by simp [results, Try.results31, go_sem, d0, d1, d2, d3]) rfl ⟨rfl, ?_⟩
    obtain ⟨q1, q2, q3, q4, q5⟩ := HQ.out
    exact ⟨H', q1.low hME hgE (((((Below.refl E w1).setCell hEw _).setCell hEw _).setCell hEw _).setCell hEw _), q2, q3, q4, (((q5.fresh _ 0 (Nat.le_refl _) _).fresh _ 1 (Nat.le_refl _) _).fresh _ 2 (Nat.le_refl _) _).fresh _ 3 (Nat.le_refl _) _⟩
  · have hcc2 : 1 < cc := by omega
    go_enter Try.func31, Try.ntmps31
    go_wp2_with fail
    refine (HFX.out _ _ _ _ (by unfold maxLen; omega)).mono ?_
    rintro e w1 ⟨⟨v, rfl⟩, H', hp', hperm, hheap, hfull, hm1, hm2⟩
    have hnn : ∀ k, w.heap.size ≤ k → ¬ Own M g k := fun k hk h => by rcases h with h | h <;> omega
    have c0 : w1.cell? ⟨w.heap.size + 1, 0, none⟩ = some (.string c.ver.key) := (hm2.cell _ 0 (by simp <;> omega) (hnn _ (by omega))).trans (by simp [go_sem])
    have c1 : w1.cell? ⟨w.heap.size + 1, 1, none⟩ = some (.int .i64 c.ver.seq) := (hm2.cell _ 1 (by simp <;> omega) (hnn _ (by omega))).trans (by simp [go_sem])
    have c2 : w1.cell? ⟨w.heap.size + 1, 2, none⟩ = some (.int .i64 c.ver.kind) := (hm2.cell _ 2 (by simp <;> omega) (hnn _ (by omega))).trans (by simp [go_sem])
    have c3 : w1.cell? ⟨w.heap.size + 1, 3, none⟩ = some (.string c.val) := (hm2.cell _ 3 (by simp <;> omega) (hnn _ (by omega))).trans (by simp [go_sem])
    have d0 : w1.cell? ⟨w.heap.size, 0, none⟩ = some (.string ⟨#[]⟩) := (hm2.cell _ 0 (by simp <;> omega) (hnn _ (by omega))).trans (by simp [go_sem])
    have d1 : w1.cell? ⟨w.heap.size, 1, none⟩ = some (.int .i64 0) := (hm2.cell _ 1 (by simp <;> omega) (hnn _ (by omega))).trans (by simp [go_sem])
    have d2 : w1.cell? ⟨w.heap.size, 2, none⟩ = some (.int .i64 0) := (hm2.cell _ 2 (by simp <;> omega) (hnn _ (by omega))).trans (by simp [go_sem])
    have d3 : w1.cell? ⟨w.heap.size, 3, none⟩ = some (.string ⟨#[]⟩) := (hm2.cell _ 3 (by simp <;> omega) (hnn _ (by omega))).trans (by simp [go_sem])
    have f0 : ∀ o, w1.frozen? ⟨w.heap.size, o, none⟩ = false := fun o => (hm2.frozen _ o (by simp <;> omega) (hnn _ (by omega))).trans (by simp [go_sem])
    have HQ := Lib.hid (And.intro hp' (And.intro hperm (And.intro hheap (And.intro hfull (hm1.trans hm2)))))
    clear hp' hperm hheap hfull hm1 hm2 hnn HFX
    go_wp2
    refine bodyPost_ret (v := .agg #[.string c.ver.key, .int .i64 c.ver.seq, .int .i64 c.ver.kind, .string c.val]) (by simp [results, Try.results31, go_sem, d0, d1, d2, d3]) rfl ⟨rfl, ?_⟩
    obtain ⟨q1, q2, q3, q4, q5⟩ := HQ.out
    exact ⟨H', q1.low hME hgE (((((Below.refl E w1).setCell hEw _).setCell hEw _).setCell hEw _).setCell hEw _), q2, q3, q4, (((q5.fresh _ 0 (Nat.le_refl _) _).fresh _ 1 (Nat.le_refl _) _).fresh _ 2 (Nat.le_refl _) _).fresh _ 3 (Nat.le_refl _) _⟩
end Go.Proofs.Ytcgkpgjjifggcaa
