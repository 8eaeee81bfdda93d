/-
  Merge: lists of lists in memory; runs gathered in a slice of the call's own; heap's Init of none.
-/
import Derived.Test.YtcgkpgjjifggcaaN13
namespace Go.Proofs.Ytcgkpgjjifggcaa
set_option linter.unusedVariables false
set_option linter.unusedSimpArgs false
open Go.RowKit Sl

def one (v : Value) : List Value := [v]
/-- A slice of slices of cells. -/
def LV (w : World) (S : Nat → Prop) (v : Value) (L : List (List CellR)) : Prop :=
  ∃ vs : List Value, vs.length = L.length ∧ SlV one w S v vs ∧ ∀ (k : Nat) (x : Value) (l : List CellR), vs[k]? = some x → L[k]? = some l → CV w S x l
theorem LV.mod {S : Nat → Prop} {w w' : World} {v : Value} {L : List (List CellR)} (h : LV w S v L) (hm : Mod S w w') : LV w' S v L := by
  obtain ⟨vs, h1, h2, h3⟩ := h
  exact ⟨vs, h1, h2.mod hm, fun k x l a b => (h3 k x l a b).mod hm⟩
theorem LV.below {S : Nat → Prop} {w w' : World} {v : Value} {L : List (List CellR)} (h : LV w S v L) (hb : Below w.heap.size w w') : LV w' S v L := h.mod (Mod.of_below hb (Nat.le_refl _))
theorem LV.len {w : World} {S : Nat → Prop} {ao : Option Addr} {n cap : Nat} {L : List (List CellR)} (h : LV w S (.slice ao n cap) L) : L.length = n ∧ n ≤ cap ∧ cap ≤ maxLen := by
  obtain ⟨vs, h1, h2, h3⟩ := h
  have := h2.len
  exact ⟨by rw [← h1]; exact this.1, this.2⟩
theorem LV.shape {w : World} {S : Nat → Prop} {v : Value} {L : List (List CellR)} (h : LV w S v L) : ∃ ao cap, v = .slice ao L.length cap := by
  obtain ⟨vs, h1, h2, h3⟩ := h
  rw [← h1]; exact h2.shape
theorem LV.of {w : World} {S : Nat → Prop} {ao : Option Addr} {n cap : Nat} {L : List (List CellR)} (h : LV w S (.slice ao n cap) L) (hne : 0 < n) :
    ∃ b o, ao = some ⟨b, o, none⟩ ∧ ¬ S b ∧ b < w.heap.size ∧ ∀ k l, L[k]? = some l → ∃ al cl, w.cell? ⟨b, o + k, none⟩ = some (.slice al l.length cl) ∧ CV w S (.slice al l.length cl) l := by
  obtain ⟨vs, h1, h2, h3⟩ := h
  have hl := h2.len.1
  obtain ⟨b, o, cap', e1, e2, e3, e4, e5, e6⟩ := SlV.at (size := 1) (fun _ => rfl) h2 (fun e => by rw [e] at hl; simp at hl; omega)
  simp only [Value.slice.injEq] at e1
  refine ⟨b, o, e1.1, e4, e5, fun k l hk => ?_⟩
  have hkl := (List.getElem?_eq_some_iff.1 hk).1
  have hkv : k < vs.length := by omega
  have hx := h3 k vs[k] l (by simp [hkv]) hk
  obtain ⟨al, cl, hv⟩ := hx.shape
  refine ⟨al, cl, ?_, hv ▸ hx⟩
  have := e6 k hkv 0 vs[k] (by decide) rfl
  rw [hv] at this
  simpa using this

/-- Runs of the first lists. -/
theorem runsOf_succ (L : List (List CellR)) (k : Nat) (l : List CellR) (h : L[k]? = some l) : Pl.runsOf (L.take (k + 1)) = Pl.runsOf (L.take k) ++ (if l = [] then [] else [(l, k)]) := by
  obtain ⟨h1, rfl⟩ := List.getElem?_eq_some_iff.1 h
  unfold Pl.runsOf
  rw [List.take_succ_eq_append_getElem h1, List.zipIdx_append, List.filter_append]
  congr 1
  have : (L.take k).length = k := by simp; omega
  rw [this]
  by_cases hl : L[k] = []
  · rw [if_pos hl, hl]; rfl
  · rw [if_neg hl]
    cases hh : L[k] with
    | nil => exact absurd hh hl
    | cons c m => simp [List.zipIdx, List.filter]

def runE (p : Value × RunR) : List Value := [p.1, .int .i64 (p.2.2 : Nat)]
theorem runE_len (p : Value × RunR) : (runE p).length = 2 := rfl
/-- Runs gathered behind a head at M. -/
structure Gath (w wr : World) (M : Nat) (vh : Value) (P : List (Value × RunR)) : Prop where
  top : wr.cell? ⟨M, 0, none⟩ = some vh
  topf : wr.frozen? ⟨M, 0, none⟩ = false
  own : wr.ownsRow (M + 1) 62 2 vh P.length (flat runE P)
  runs : ∀ p ∈ P, RunV wr (fun b => b = M ∨ vh.ownBlock = some b) p.1 p.2.1
  bel : Below w.heap.size w wr
  low : w.heap.size ≤ M
theorem Gath.lt {w wr : World} {M : Nat} {vh : Value} {P : List (Value × RunR)} (h : Gath w wr M vh P) : M < wr.heap.size := cell_lt h.top
theorem ownsRow_below {w w' : World} {base : Nat} {e : TypeId} {size : Nat} {v : Value} {n : Nat} {xs : List Value} (h : w.ownsRow base e size v n xs) (hb : Below w.heap.size w w') : w'.ownsRow base e size v n xs := by
  refine ⟨h.1, ?_⟩
  rcases h.2 with h2 | ⟨g, cap, cur, hv, h3, h4, h5⟩
  · exact .inl h2
  · exact .inr ⟨g, cap, cur, hv, h3, by rw [hb.block g (Array.getElem?_eq_some_iff.1 h4).1]; exact h4, h5⟩
theorem Gath.later {w wr w' : World} {M : Nat} {vh : Value} {P : List (Value × RunR)} (h : Gath w wr M vh P) (hb : Below wr.heap.size wr w') : Gath w w' M vh P :=
  ⟨by rw [hb.cell (p := ⟨M, 0, none⟩) (by exact h.lt)]; exact h.top, by rw [hb.frozen (p := ⟨M, 0, none⟩) (by exact h.lt)]; exact h.topf, ownsRow_below h.own hb, fun p hp => (h.runs p hp).mod (Mod.of_below hb (Nat.le_refl _)), h.bel.trans (hb.mono h.bel.size), h.low⟩

theorem ownsRow_shape {w : World} {base : Nat} {e : TypeId} {size : Nat} {v : Value} {n : Nat} {xs : List Value} (h : w.ownsRow base e size v n xs) : ∃ ao cap, v = .slice ao n cap := by
  rcases h.2 with ⟨rfl, rfl⟩ | ⟨g, cap, cur, hv, _⟩
  · exact ⟨_, _, rfl⟩
  · exact ⟨_, _, hv⟩
theorem step_append_own_at {P : Program} (w : World) {ops : Array Oper} {o : Oper} {a : Act} {K : Act → World → Prop} {Q : Exit → Act → World → Prop} {E : Prop} (hgd : o.guard = none) (d : Option Tmp) (hd : o.dst = d) (s x : Operand) (t : TypeId)
    (ho : o.op = Op.call { callee := Callee.builtin Builtin.append, args := #[s, x], argTypes := #[t, t] })
    (base : Nat) (e : TypeId) (i : TypeInfo) (z : Value) (size bytes : Nat) (ht : P.underlying t = some (.slice e)) (hi : P.info? e = some i) (hz : i.zero = some z) (hsize : i.size = size) (hby : i.bytes = bytes) (hzs : z.cells.size = size) (hsz : 0 < size)
    (v : Value) (n : Nat) (xs : List Value) (hs : a.eval s = v) (h : w.ownsRow base e size v n xs)
    (ad : Addr) (m c : Nat) (news : List Value) (hx : a.eval x = .slice (some ad) m c) (hl : news.length = m * size) (hnews : ∀ j u, news[j]? = some u → w.cell? (ad.add j) = some u) (h1 : ∀ u ∈ news, u.oneCell' = true)
    (h63 : n + m ≤ maxLen) (hbytes : (n + m) * bytes ≤ 140737488355328) (hbase : base ≤ w.heap.size)
    (hK : ∀ a3 c3 w', w'.ownsRow base e size (.slice a3 (n + m) c3) (n + m) (xs ++ news) → w.grownBy w' v.ownBlock → ((Value.slice a3 (n + m) c3).ownBlock = v.ownBlock ∨ (Value.slice a3 (n + m) c3).ownBlock = some w.heap.size) → K (a.put d (.slice a3 (n + m) c3)) w') :
    if Region.wanted o (yielded ops a.tmps) = true then Oper.wp P o a w K Q else E := by
  subst hd
  have hw : Region.wanted o (yielded ops a.tmps) = true := by simp [Region.wanted, hgd]
  rw [if_pos hw]
  obtain ⟨v', w', hr, h2, h3, _, h4⟩ := run_append_own_at (P := P) w base t o.type e i z size bytes ht hi hz hsize hby hzs hsz v n xs h ad m c news hl hnews h1 h63 hbytes hbase
  obtain ⟨a3, c3, rfl⟩ := ownsRow_shape h2
  unfold Oper.wp execOp
  simp only [ho, resolve, invoke, builtin, Sem.run_bind, Sem.run_pure, Result.andThen_ok, List.map_toArray, List.map_cons, List.map_nil, hs, hx, hr]
  exact hK a3 c3 w' h2 h3 h4

set_option maxHeartbeats 800000 in
theorem init_empty (M : Nat) (a : Option Addr) (c : Nat) (w : World) (h : w.cell? ⟨M, 0, none⟩ = some (.slice a 0 c)) :
    Calls Try.prog 30 #[.iface 64 (.pointer (some ⟨M, 0, none⟩))] w fun e w' => e = .returned (.tuple #[]) ∧ w = w' := by
  have hm := meth_Len M _ _ _ w h
  clear h
  go_enter Try.func30, Try.ntmps30
  go_wp2_with (go_at_call 68; refine (len_ok _ _ _ _).mono ?_; rintro e w' ⟨rfl, rfl⟩)
  clear hm
  refine wp_loop_rounds 1 ?_
  rw [rounds_succ]
  go_wp2
  go_end0
  exact ⟨rfl, rfl⟩
theorem init_lit (M g cap E : Nat) (H : List RunR) (w : World) (hp : Hp w M g cap E H) (hpos : 0 < H.length) (hF : Full H.length H) (hbig : H.length ≤ 1000000) :
    Calls Try.prog 30 #[.iface 64 (.pointer (some ⟨M, 0, none⟩))] w fun e w' => e = .returned (.tuple #[]) ∧ ∃ H', Hp w' M g cap E H' ∧ H'.Perm H ∧ Pl.HeapFrom runLt 0 H.length H' ∧ Full H.length H' ∧ Mod (· = g) w w' := init_ok M g cap E H w hp hpos hF hbig

/-- The heap made of what was gathered. -/
theorem gath_init (w wr : World) (M : Nat) (vh : Value) (P : List (Value × RunR)) (L : List (List CellR)) (h : Gath w wr M vh P) (hL : P.map Prod.snd = Pl.runsOf L) (hs : ∀ l ∈ L, Pl.Srt CellR.ver verLt l) (hbig : L.length ≤ 1000) :
    Calls Try.prog 30 #[.iface 64 (.pointer (some ⟨M, 0, none⟩))] wr fun e w' => e = .returned (.tuple #[]) ∧ ∃ E T, Mg w' M w.heap.size E T ∧ Pl.RowOf CellR.ver verLt T (Pl.runsOf L) ∧ Below w.heap.size w w' := by
  obtain ⟨T, hT⟩ := Pl.rowOf_exists CellR.ver verLt verLt_ord (Pl.runsOf L) (Pl.runsOf_srt CellR.ver verLt L hs) (Pl.runsOf_apart L)
  have hlen : P.length = (Pl.runsOf L).length := by rw [← hL]; simp
  have hle : (Pl.runsOf L).length ≤ 1000 := by
    exact Nat.le_trans (List.length_filter_le _ _) (by rw [List.length_zipIdx]; exact hbig)
  have hML := h.lt
  have hlow := h.low
  rcases h.own.2 with ⟨hv, hn⟩ | ⟨g, cap, cur, hv, hB, hh, hcl, hcm, hcs, htk⟩
  · subst hv
    refine (init_empty M none 0 wr h.top).mono ?_
    rintro e w' ⟨rfl, rfl⟩
    have hr : Pl.runsOf L = [] := List.length_eq_zero_iff.1 (by omega)
    have hT0 : T = [] := by
      have := hT.2.length_eq
      rw [hr] at this
      exact List.length_eq_zero_iff.1 (by simpa [Pl.cellsOf] using this)
    subst hT0
    exact ⟨rfl, wr.heap.size, [], ⟨h.low, hML, Nat.le_refl _, h.topf, .inl ⟨rfl, h.top⟩⟩, hT, h.bel⟩
  · subst hv
    have hgl : g < wr.heap.size := (Array.getElem?_eq_some_iff.1 hh).1
    have hp : Hp wr M g cap wr.heap.size (P.map Prod.snd) := by
      refine ⟨by rw [List.length_map]; exact h.top, h.topf, by omega, ⟨hgl, fun o => h.own.frozenAt o, fun k hk => ?_⟩, by rw [List.length_map]; exact hcl, hcm⟩
      have hkP : k < P.length := by simpa using hk
      have q : ∀ t u, t < 2 → (runE P[k])[t]? = some u → wr.cell? ⟨g, k * 2 + t, none⟩ = some u := fun t u ht hu => by
        rw [h.own.cellAt (k * 2 + t) (by omega), flat_get runE 2 runE_len P k hkP t ht]; exact hu
      refine ⟨P[k].1, q 0 _ (by decide) rfl, by simpa using q 1 _ (by decide) rfl, ?_⟩
      obtain ⟨ao, cp, a1, a2, a3, a4⟩ := h.runs P[k] (List.getElem_mem hkP)
      simp only [List.getElem_map]
      refine ⟨ao, cp, a1, a2, a3, ?_⟩
      rcases a4 with a4 | ⟨b, o, a5, a6, a7⟩
      · exact .inl a4
      · refine .inr ⟨b, o, a5, ?_, a7⟩
        rintro ((e | e) | e)
        · exact a6 (.inl e)
        · exact a6 (.inr (by rw [e]; rfl))
        · have := a7.1; omega
    rw [hL] at hp
    have hF : Full (Pl.runsOf L).length (Pl.runsOf L) := fun k r _ hr e => by
      have h2 := (List.mem_filter.1 (List.mem_of_getElem? hr)).2
      rw [e] at h2
      simp at h2
    by_cases h0 : (Pl.runsOf L).length = 0
    · have hr : Pl.runsOf L = [] := List.length_eq_zero_iff.1 h0
      have hT0 : T = [] := by
        have := hT.2.length_eq
        rw [hr] at this
        exact List.length_eq_zero_iff.1 (by simpa [Pl.cellsOf] using this)
      subst hT0
      refine (init_empty M (some ⟨g, 0, none⟩) cap wr (by have := hp.top; rw [h0] at this; exact this)).mono ?_
      rintro e w' ⟨rfl, rfl⟩
      exact ⟨rfl, wr.heap.size, [], ⟨h.low, hML, Nat.le_refl _, h.topf, .inr ⟨g, cap, _, by omega, hgl, hp, fun k a b h1 => by omega, hF, hT, Pl.runsOf_srt CellR.ver verLt L hs, by omega⟩⟩, hT, h.bel⟩
    · refine (init_lit M g cap wr.heap.size _ wr hp (by omega) hF (by omega)).mono ?_
      rintro e w' ⟨rfl, H', p1, p2, p3, p4, p5⟩
      have hl := p2.length_eq
      exact ⟨rfl, wr.heap.size, T, ⟨h.low, hML, p5.size, p1.topf, .inr ⟨g, cap, H', by omega, hgl, p1, by rw [hl]; exact p3, by rw [hl]; exact p4, Pl.rowOf_perm _ _ hT p2.symm, fun r hr => Pl.runsOf_srt CellR.ver verLt L hs r (p2.mem_iff.1 hr), by omega⟩⟩, hT,
        h.bel.trans (p5.below (fun k hk => by omega) h.bel.size)⟩
theorem RunV.lim {w : World} {S T : Nat → Prop} {v : Value} {l : List CellR} (h : RunV w S v l) (hT : ∀ b, b < w.heap.size → ¬ S b → ¬ T b) : RunV w T v l := by
  obtain ⟨ao, cap, h1, h2, h3, h4⟩ := h
  refine ⟨ao, cap, h1, h2, h3, ?_⟩
  rcases h4 with h4 | ⟨b, o, h5, h6, h7⟩
  · exact .inl h4
  · exact .inr ⟨b, o, h5, hT b h7.1 h6, h7⟩
theorem Mod.of_grown {w w' : World} {row : Option Nat} (h : w.grownBy w' row) : Mod (fun b => row = some b) w w' := ⟨h.os, h.tape, h.output, h.size, fun k hk hs => h.block k hk (fun e => hs e.symm)⟩
theorem ownsRow_mod {S : Nat → Prop} {w w' : World} {base : Nat} {e : TypeId} {size : Nat} {v : Value} {n : Nat} {xs : List Value} (h : w.ownsRow base e size v n xs) (hm : Mod S w w') (hS : ∀ k, v.ownBlock = some k → ¬ S k) : w'.ownsRow base e size v n xs := by
  refine ⟨h.1, ?_⟩
  rcases h.2 with h2 | ⟨g, cap, cur, hv, h3, h4, h5⟩
  · exact .inl h2
  · exact .inr ⟨g, cap, cur, hv, h3, by rw [hm.block g (Array.getElem?_eq_some_iff.1 h4).1 (hS g (by rw [hv]; rfl))]; exact h4, h5⟩
theorem gath_push {w w1 w2 wa : World} {M : Nat} {vh va : Value} {P : List (Value × RunR)} {l : List CellR} {k : Nat} {v2 : Value} {X : Obj} (h : Gath w w1 M vh P) (hb2 : Below w1.heap.size w1 w2) (hr : RunV w2 (fun b => b < w1.heap.size) v2 l)
    (ho : wa.ownsRow (M + 1) 62 2 va (P.length + 1) (flat runE P ++ runE (v2, (l, k)))) (hg : (w2.alloc X).grownBy wa vh.ownBlock) (hn : va.ownBlock = vh.ownBlock ∨ va.ownBlock = some (w2.alloc X).heap.size) :
    Gath w (wa.setCell ⟨M, 0, none⟩ va) M va (P ++ [(v2, (l, k))]) := by
  have hlt := h.lt
  have hov := h.own.lt
  have hov2 := ho.lt
  have hs2 := hb2.size
  have hsz : (w2.alloc X).heap.size = w2.heap.size + 1 := by simp
  rw [hsz] at hn
  have hne : ∀ k, vh.ownBlock = some k → k ≠ M ∧ k < w1.heap.size := fun k hk => ⟨by have := (hov k hk).1; omega, (hov k hk).2⟩
  have hm1 : Mod (fun b => vh.ownBlock = some b) w2 wa := (Mod.of_below ((Below.refl _ _).alloc (Nat.le_refl _) X) (Nat.le_refl _)).trans (Mod.of_grown hg)
  have hm2 : Mod (fun b => b = M ∨ vh.ownBlock = some b) w2 (wa.setCell ⟨M, 0, none⟩ va) := (hm1.mono (fun k hk => .inr hk)).trans ((mod_setCell wa M 0 va).mono (fun k hk => .inl hk))
  have hm3 : Mod (fun b => b = M ∨ vh.ownBlock = some b) w1 (wa.setCell ⟨M, 0, none⟩ va) := (Mod.of_below hb2 (Nat.le_refl _)).trans hm2
  have hMv : ¬ vh.ownBlock = some M := fun e => (hne M e).1 rfl
  have htop : wa.cell? ⟨M, 0, none⟩ = some vh := by rw [hm1.cell M 0 (by omega) hMv, hb2.cell (p := ⟨M, 0, none⟩) (by exact hlt)]; exact h.top
  have htf : wa.frozen? ⟨M, 0, none⟩ = false := by rw [hm1.frozen M 0 (by omega) hMv, hb2.frozen (p := ⟨M, 0, none⟩) (by exact hlt)]; exact h.topf
  refine ⟨World.cell?_setCell_same _ _ _ htop, ?_, ?_, ?_, ?_, h.low⟩
  · show (wa.setCells M 0 [va]).frozen? _ = _
    rw [World.frozen?_setCells]; exact htf
  · rw [List.length_append, flat_app]
    have := ownsRow_mod ho (mod_setCell wa M 0 va) (fun k hk e => by have := (hov2 k hk).1; omega)
    simpa [flat] using this
  · intro p hp
    rcases List.mem_append.1 hp with hp | hp
    · have h1 := (h.runs p hp).lim (T := fun b => (b = M ∨ vh.ownBlock = some b) ∨ (b = M ∨ va.ownBlock = some b)) (fun b hb hs ht => by
        rcases ht with ht | ht | ht
        · exact hs ht
        · exact hs (.inl ht)
        · rcases hn with hn | hn
          · exact hs (.inr (by rw [← hn]; exact ht))
          · rw [hn] at ht; simp at ht; omega)
      have h2 := h1.mod (hm3.mono (fun k hk => .inl hk))
      exact h2.lim (fun b _ hs ht => hs (.inr ht))
    · simp at hp
      subst hp
      have h1 := hr.lim (T := fun b => b < w1.heap.size ∨ (b = M ∨ va.ownBlock = some b)) (fun b hb hs ht => by
        rcases ht with ht | ht | ht
        · exact hs ht
        · subst ht; exact hs hlt
        · rcases hn with hn | hn
          · exact hs (hne b (by rw [← hn]; exact ht)).2
          · rw [hn] at ht; simp at ht; omega)
      have h2 := h1.mod (hm2.mono (fun k hk => .inl (by rcases hk with hk | hk; subst hk; exact hlt; exact (hne k hk).2)))
      exact h2.lim (fun b _ hs ht => hs (.inr ht))
  · refine h.bel.trans (hm3.below (fun k hk => ?_) h.bel.size)
    rcases hk with hk | hk
    · rw [hk]; exact h.low
    · have := (hov k hk).1; have := h.low; omega
end Go.Proofs.Ytcgkpgjjifggcaa
