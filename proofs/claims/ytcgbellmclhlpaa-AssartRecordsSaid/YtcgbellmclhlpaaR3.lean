/-
  Records: contract of frame's piece.
-/
import Derived.Test.YtcgbellmclhlpaaR2
import Derived.Test.YtcgbellmclhlpaaG2
namespace Go.Proofs.Ytcgbellmclhlpaa
set_option linter.unusedVariables false
set_option linter.unusedSimpArgs false
open Go.RowKit Vi Sl

theorem byteV_append (l m : List Nat) : byteV (l ++ m) = byteV l ++ byteV m := by simp [byteV]
theorem byteV_one (l : List Nat) : ∀ u ∈ byteV l, u.oneCell' = true := by
  intro u hu
  simp only [byteV, List.mem_map] at hu
  obtain ⟨x, _, rfl⟩ := hu
  rfl
theorem lies_of_reads {w : World} {g off : Nat} {l : List Nat} (h : ReadsB w g off l) : Lies w g off (byteV l) :=
  ⟨h.1, fun j u hj => by
    obtain ⟨hjl, hju⟩ := List.getElem?_eq_some_iff.1 hj
    have hjl' : j < l.length := by simpa [byteV] using hjl
    rw [h.2 j hjl', ← hju]
    simp [byteV, hjl']⟩
theorem reads_of_lies {w : World} {g off : Nat} {l : List Nat} (h : Lies w g off (byteV l)) : ReadsB w g off l :=
  ⟨h.1, fun j hj => h.2 j _ (by simp [byteV, hj])⟩

/-- A piece. -/
def pieceL (k : Nat) (l : List Nat) : List Nat := fixL (sumN k l) 4 ++ fixL l.length 2 ++ [k] ++ l
theorem pieceL_len (k : Nat) (l : List Nat) : (pieceL k l).length = 7 + l.length := by simp [pieceL, fixL_len]; omega

set_option maxHeartbeats 1600000 in
theorem piece_ok (base k n gs os cs : Nat) (L l : List Nat) (v : Value) (w : World) (hk : k < 256) (hv : Has w base 1 v n (byteV L)) (hn : n ≤ 4611686018427387904)
    (hl : l.length ≤ 121) (hlb : ∀ x ∈ l, x < 256) (hcs : l.length ≤ cs) (hcs2 : cs ≤ 9223372036854775807) (hs : Lies w gs os (byteV l)) (hgs : gs < base) (hbase : base ≤ w.heap.size) (hnb : n ≤ 70368744177664) :
    Calls Try.prog 18 #[v, .int .u8 k, .slice (some ⟨gs, os, none⟩) l.length cs] w fun e w' => ∃ v', e = .returned v' ∧ Has w' base 1 v' (n + (7 + l.length)) (byteV (L ++ pieceL k l)) ∧ Below base w w' := by
  obtain ⟨i0, hi, hz0, hz1, hz2⟩ := info_parts Try.infoByte
  have HS := Lib.hid (sum_ok k l hk (.slice (some ⟨gs, os, none⟩) l.length cs) w ⟨hlb, _, cs, rfl, hcs, hcs2, .inr ⟨gs, os, rfl, reads_of_lies hs⟩⟩)
  have hsl := sumN_lt k l
  have HF4 := Lib.hid (fixed_ok (sumN k l) 4 (by omega) (by decide) (fun _ => by omega))
  have HF2 := Lib.hid (fixed_ok l.length 2 (by omega) (by decide) (fun _ => by omega))
  have HP : Hid (byteV (L ++ pieceL k l) = byteV L ++ (byteV (fixL (sumN k l) 4) ++ (byteV (fixL l.length 2) ++ (byteV [k] ++ byteV l)))) := Lib.hid (by simp only [pieceL, byteV_append, List.append_assoc])
  rw [HP.out]
  clear HP hlb
  generalize sumN k l = S at *
  have hS2 : (S : Int) ≤ 4294967295 := by omega
  obtain ⟨m, hm⟩ : ∃ m, l.length = m := ⟨_, rfl⟩
  have HM := Lib.hid hm
  rw [hm] at hl hcs HS HF2 ⊢
  have hvg := hv.lt
  have HV := Lib.hid hv
  have HSR := Lib.hid hs
  clear hv hs hm hsl
  go_enter Try.func18, Try.ntmps18
  go_wp2_with fail
  refine (HS.out).mono ?_
  rintro e w1 ⟨rfl, b1⟩
  go_wp2_with fail
  refine (HF4.out _).mono ?_
  rintro e w2 ⟨v4, rfl, o4, b2⟩
  obtain ⟨g4, c4, rfl, hB4, hle4, hm4, r4⟩ := o4.parts (by rw [fixL_len]; decide)
  rw [fixL_len] at hle4 ⊢
  have L4 := Lib.hid (lies_of_reads r4)
  clear r4 o4
  go_wp2_with fail
  refine (HF2.out _).mono ?_
  rintro e w3 ⟨v2, rfl, o2, b3⟩
  obtain ⟨g2, c2, rfl, hB2, hle2, hm2, r2⟩ := o2.parts (by rw [fixL_len]; decide)
  rw [fixL_len] at hle2 ⊢
  have L2 := Lib.hid (lies_of_reads r2)
  clear r2 o2
  have bb : Below w.heap.size w w3 := below_trans (below_trans b1 b2) b3
  have hz := bb.size
  have hz1' := b1.size
  have hz2' := b2.size
  have hz3' := b3.size
  have hv3 := HV.out.below bb (fun g hg => (hvg g hg).2)
  have hs3 := HSR.out.below bb (Nat.lt_of_lt_of_le hgs hbase)
  have h43 := L4.out.below b3 L4.out.1
  have hg4 := L4.out.1
  have hg2 := L2.out.1
  have hs3b := hs3.1
  have n4 : v.ownBlock ≠ some g4 := fun h => by have := (hvg g4 h).2; omega
  have n2 : v.ownBlock ≠ some g2 := fun h => by have := (hvg g2 h).2; omega
  have ns : v.ownBlock ≠ some gs := fun h => by have := (hvg gs h).1; omega
  have hbase3 : base ≤ w3.heap.size := by omega
  have HB3 := Lib.hid (bb.mono hbase)
  have HV3 := Lib.hid hv3
  have H43 := Lib.hid h43
  have HS3 := Lib.hid hs3
  clear b1 b2 b3 bb hv3 h43 hs3 hz hz1' hz2' hz3'
  go_wp2_with (first
    | (at_builtin; refine wpList_append_at _ rfl (.tmp 26) (.tmp 27) 27 rfl base 5 i0 (.int .u8 0) 1 1 Try.underlying27 hi hz0 hz1 hz2 rfl (by decide) v n (byteV L) rfl HV3.out ⟨g4, 0, none⟩ 4 c4 (byteV (fixL S 4)) rfl ?p1 ?p2 ?p3 ?p4 ?p5 ?p6 ?_))
  case p1 => rw [byteV_len, fixL_len]
  case p2 => exact H43.out.add
  case p3 => exact byteV_one _
  case p4 => unfold maxLen; omega
  case p5 => omega
  case p6 => exact hbase3
  intro va wa ha ga na
  have h2a := (L2.out).grown ga n2
  have hsa := (HS3.out).grown ga ns
  have na2 : va.ownBlock ≠ some g2 := fun h => by rcases na g2 h with h' | h'; exact n2 h'; omega
  have nas : va.ownBlock ≠ some gs := fun h => by rcases na gs h with h' | h'; exact ns h'; omega
  have hba := (HB3.out).grown ga hbase3 (fun g hg => (hvg g hg).1)
  have hsza := ga.size
  have hva := ha.lt
  have HA := Lib.hid ha
  have H2A := Lib.hid h2a
  have HSA := Lib.hid hsa
  have HBA := Lib.hid hba
  clear ha ga na h2a hsa hba
  go_wp2_with (first
    | (at_builtin; refine wpList_append_at _ rfl (.tmp 28) (.tmp 29) 27 rfl base 5 i0 (.int .u8 0) 1 1 Try.underlying27 hi hz0 hz1 hz2 rfl (by decide) va (n + 4) _ rfl HA.out ⟨g2, 0, none⟩ 2 c2 (byteV (fixL m 2)) rfl ?q1 ?q2 ?q3 ?q4 ?q5 ?q6 ?_))
  case q1 => rw [byteV_len, fixL_len]
  case q2 => exact H2A.out.add
  case q3 => exact byteV_one _
  case q4 => unfold maxLen; omega
  case q5 => omega
  case q6 => omega
  intro vb wb hb gb nb
  have hsb := (HSA.out).grown gb nas
  have nbs : vb.ownBlock ≠ some gs := fun h => by rcases nb gs h with h' | h'; exact nas h'; omega
  have hbb := (HBA.out).grown gb (by omega) (fun g hg => (hva g hg).1)
  have hszb := gb.size
  have hvb := hb.lt
  have HB := Lib.hid hb
  have HSB := Lib.hid hsb
  have HBB := Lib.hid hbb
  clear hb gb nb hsb hbb
  go_wp2_with (first
    | (at_builtin; refine wpList_append_at _ rfl (.tmp 30) (.tmp 32) 27 rfl base 5 i0 (.int .u8 0) 1 1 Try.underlying27 hi hz0 hz1 hz2 rfl (by decide) vb (n + 4 + 2) _ rfl (HB.out.alloc _) ⟨wb.heap.size, 0, none⟩ 1 1 (byteV [k]) rfl ?r1 ?r2 ?r3 ?r4 ?r5 ?r6 ?_))
  case r1 => rfl
  case r2 =>
    intro j u hj
    match j, hj with
    | 0, hj => simp [byteV] at hj; subst hj; simp [Addr.add]
  case r3 => exact byteV_one _
  case r4 => unfold maxLen; omega
  case r5 => omega
  case r6 => simp; omega
  intro vc wc hc gc nc
  have hsc := (HSB.out.alloc _).grown gc nbs
  have ncs : vc.ownBlock ≠ some gs := fun h => by
    rcases nc gs h with h' | h'
    · exact nbs h'
    · omega
  have hbc := ((HBB.out).alloc (by omega) _).grown gc (by simp; omega) (fun g hg => (hvb g hg).1)
  have hszc := gc.size
  simp at hszc
  have hvc := hc.lt
  have HC := Lib.hid hc
  have HSC := Lib.hid hsc
  have HBC := Lib.hid hbc
  clear hc gc nc hsc hbc
  go_wp2_with (first
    | (at_builtin; refine wpList_append_at _ rfl (.tmp 33) (.tmp 34) 27 rfl base 5 i0 (.int .u8 0) 1 1 Try.underlying27 hi hz0 hz1 hz2 rfl (by decide) vc (n + 4 + 2 + 1) _ rfl HC.out ⟨gs, os, none⟩ m cs (byteV l) rfl ?s1 ?s2 ?s3 ?s4 ?s5 ?s6 ?_))
  case s1 => rw [byteV_len, HM.out]; omega
  case s2 => exact HSC.out.add
  case s3 => exact byteV_one _
  case s4 => unfold maxLen; omega
  case s5 => omega
  case s6 => omega
  intro vd wd hd gd nd
  have hbd := (HBC.out).grown gd (by omega) (fun g hg => (hvc g hg).1)
  have HD := Lib.hid hd
  clear hd gd nd
  go_wp2
  go_ret
  refine ⟨_, rfl, ?_, hbd⟩
  have := HD.out
  rw [show n + 4 + 2 + 1 + m = n + (7 + m) by omega] at this
  exact this
end Go.Proofs.Ytcgbellmclhlpaa
