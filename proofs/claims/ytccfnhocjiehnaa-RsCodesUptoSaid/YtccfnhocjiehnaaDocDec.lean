/- The document's Decode. -/
import Derived.Test.YtccfnhocjiehnaaDocData
import Derived.Test.YtccfnhocjiehnaaDecode
import Derived.Test.YtccfnhocjiehnaaSame
namespace Go.Proofs.Ytccfnhocjiehnaa
open Go.RowKit
set_option linter.unusedVariables false
set_option linter.unusedSimpArgs false

theorem pres_pos {L : Nat → Nat} {s : Nat} (h : 0 < (presTo L s).length) : 1 ≤ maxL L s := by
  obtain ⟨j, hj⟩ := List.exists_mem_of_length_pos h
  unfold presTo at hj
  rw [List.mem_filter, List.mem_range] at hj
  have h1 := maxL_le L hj.1
  have h2 := hj.2
  simp [noneB] at h2
  omega
/-- What the document's code makes of the shards that are there. -/
def DocD (L : Nat → Nat) (G : Nat → Nat → Gf.E) (k s : Nat) (D : Nat → Nat → Gf.E) : Prop :=
  ∃ A' O', gjTo k (rowsF (unitCau k) fun j => (rowN L k s j : Int)) k = some (A', O') ∧ D = timesF O' (fun a => G (rowN L k s a)) k
/-- What Decode tells. -/
def DecP (L : Nat → Nat) (G : Nat → Nat → Gf.E) (k m s : Nat) (z : Int) (w : World) (e : Ending) (w' : World) : Prop :=
  ((alikeB s (k + m) L = false ∨ z < 0 ∨ ((k * maxL L s : Nat) : Int) < z) ∧ e = .returned (.tuple #[.slice none 0 0, .int .i64 1]) ∧ Below w.heap.size w w') ∨
  ((alikeB s (k + m) L = true ∧ 0 ≤ z ∧ z ≤ ((k * maxL L s : Nat) : Int)) ∧ (((presTo L s).length < k ∧ e = .returned (.tuple #[.slice none 0 0, .int .i64 16]) ∧ Below w.heap.size w w') ∨
    (k ≤ (presTo L s).length ∧ ∃ A c D, e = .returned (.tuple #[.slice A z.toNat c, .int .i64 0]) ∧ DocD L G k s D ∧ RdB w' A z.toNat (conF (maxL L s) D) ∧ Below w.heap.size w w')))

set_option maxRecDepth 100000 in
set_option maxHeartbeats 8000000 in
theorem docdec_c (b k m s : Nat) (A : Option Addr) (c : Nat) (z : Int) (L : Nat → Nat) (G : Nat → Nat → Gf.E) (w : World) (hc : DocR w b k m) (hk : 1 ≤ k) (hkm : k + m ≤ 255) (ha : RdM w A s L G) (hs : s ≤ 1048576) (hl : ∀ i, i < s → L i ≤ 1048576) (hz : -9223372036854775808 ≤ z ∧ z ≤ 9223372036854775807) :
    Calls Try.prog 23 #[.pointer (some ⟨b, 0, none⟩), .int .i64 z, .slice A s c] w fun e w' => DecP L G k m s z w e w' := by
  have HTH := Lib.hid (there_c b k m s A c L G w hc hkm ha hs hl)
  have HC := Lib.hid hc
  have HA := Lib.hid ha
  have HL := Lib.hid hl
  have k1 : (1 : Int) ≤ (k : Int) := by omega
  obtain ⟨hz1, hz2⟩ := hz
  clear hc ha hl
  go_enter Try.func23, Try.ntmps23
  go_wp2_with (fail)
  refine HTH.out.mono ?_
  rintro e w1 (⟨hf, rfl, hb1⟩ | ⟨ht, A', c', rfl, hcc, hF, hb1⟩)
  · have HF := Lib.hid hf
    have HB1 := Lib.hid hb1
    clear hf hb1 HTH
    go_wp2_with (fail)
    go_ret2
    exact .inl ⟨.inl HF.out, rfl, HB1.out⟩
  · have HT := Lib.hid ht
    have HB1 := Lib.hid hb1
    have HFF := Lib.hid hF
    have c1 := (HC.out.below hb1).1
    have hal := of_decide_eq_true ht
    have hsk : s = k + m := hal.1
    obtain ⟨q, hq⟩ : ∃ q, q = maxL L s := ⟨_, rfl⟩
    have hlq : ∀ i, i < s → L i = 0 ∨ L i = q := fun i hi => by rw [hq]; exact hal.2 i hi
    have hq2 : q ≤ 1048576 := by
      rcases maxL_is L s with h0 | ⟨j, hj, he⟩
      · omega
      · have := HL.out j hj; omega
    obtain ⟨P, hP⟩ : ∃ P, P = k * q := ⟨_, rfl⟩
    have hmul : (k : Int) * (q : Int) = (P : Int) := by rw [hP, Int.natCast_mul]
    have hP2 : P ≤ 267386880 := by
      have h1 : k * q ≤ 255 * q := Nat.mul_le_mul_right _ (by omega)
      omega
    have HPP := Lib.hid hP
    have HQ := Lib.hid hq
    have HLQ := Lib.hid hlq
    have HSK := Lib.hid hsk
    obtain ⟨l9, hl9⟩ : ∃ l9, l9 = (presTo L s).length := ⟨_, rfl⟩
    have HL9 := Lib.hid hl9
    rw [← hq, ← hl9]
    clear ht hb1 hF hal hsk hlq hq hP HTH
    have l255 : l9 ≤ 255 := by
      have h1 := presTo_len L s
      have := HSK.out
      omega
    clear hl9
    by_cases z0 : z < 0
    · go_wp2_with (fail)
      go_ret2
      exact .inl ⟨.inr (.inl z0), rfl, HB1.out⟩
    · have z0' : 0 ≤ z := by omega
      clear z0
      by_cases z1 : (P : Int) < z
      · go_wp2_with (fail)
        go_ret2
        exact .inl ⟨.inr (.inr (by rw [← HQ.out, ← HPP.out]; exact z1)), rfl, HB1.out⟩
      · have z1' : z ≤ (P : Int) := by omega
        have HOK := Lib.hid (show alikeB s (k + m) L = true ∧ 0 ≤ z ∧ z ≤ ((k * maxL L s : Nat) : Int) from ⟨HT.out, z0', by rw [← HQ.out, ← HPP.out]; exact z1'⟩)
        clear z1
        by_cases hfew : l9 < k
        · have d1 : (l9 : Int) < (k : Int) := by omega
          go_wp2_with (fail)
          go_ret2
          exact .inr ⟨HOK.out, .inl ⟨by rw [← HL9.out]; exact hfew, rfl, HB1.out⟩⟩
        · have d1 : (k : Int) ≤ (l9 : Int) := by omega
          have hq1 : 1 ≤ q := by rw [HQ.out]; exact pres_pos (by rw [← HL9.out]; omega)
          have hda := docdata_c b k m s A c q L G A' c' w1 HSK.out (HC.out.below HB1.out) hk (by have := HSK.out; omega) (HA.out.below HB1.out) HLQ.out hq1 hq2 HFF.out (by rw [← HL9.out]; omega)
          rw [← HL9.out] at hda
          have HDA := Lib.hid hda
          have HKL := Lib.hid (show k ≤ (presTo L s).length by rw [← HL9.out]; omega)
          clear hda hfew
          go_wp2_with (fail)
          refine HDA.out.mono ?_
          rintro e w2 ⟨v, As, cs, w1', AA, O', rfl, hg, hbb, hC⟩
          obtain ⟨Ad, cd, rfl, hcd, hR⟩ := hC.rd
          obtain ⟨D, hD⟩ : ∃ D, D = timesF O' (fun a => G (rowN L k s a)) k := ⟨_, rfl⟩
          rw [← hD] at hR
          have HDD := Lib.hid (show DocD L G k s D from ⟨AA, O', hg, hD⟩)
          have HR := Lib.hid hR
          have HB2 := Lib.hid (below_then HB1.out HB1.out.size (below_then hbb hbb.size hC.below))
          have c1 := (HC.out.below HB2.out).1
          have HST : Hid (w2.ownsRow w2.heap.size 5 1 (.slice none 0 0) 0 (newsB 0 (conF q D)) ∧ Below w2.heap.size w2 w2) := Lib.hid ⟨World.ownsRow_nil _ _ _ _, Below.refl _ _⟩
          clear hg hbb hC hR hD HDA
          go_wp2_with (fail)
          clear c1
          go_loopg [12, 13] k (fun kq v12 v13 wr => ∃ (i p : Nat) (A12 : Option Addr) (c12 : Nat), i + kq = k ∧ Hid (p = i * q) ∧ v13 = .int .i64 (i : Int) ∧ v12 = .slice A12 p c12 ∧ Hid (wr.ownsRow w2.heap.size 5 1 (.slice A12 p c12) p (newsB p (conF q D)) ∧ Below w2.heap.size w2 wr))
          case atStart => exact ⟨0, 0, none, 0, by omega, Lib.hid (by simp), rfl, rfl, HST⟩
          case round =>
            clear HST
            obtain ⟨i, p, A12, c12, hi0, HPI, rfl, rfl, HI⟩ := hrel
            have c1 := (HC.out.below (below_then HB2.out HB2.out.size HI.out.2)).1
            by_cases hik : i < k
            · have i1 : (i : Int) < (k : Int) := by omega
              have i0 : (0 : Int) ≤ (i : Int) := by omega
              obtain ⟨Dr, Dc, hr, hrow⟩ := HR.out.below HI.out.2
              obtain ⟨ad, rfl, f1⟩ := hr.at_ hik
              have HROW := Lib.hid (show RdB wr (Dr i) q (D i) from (hrow i hik).2)
              have r1 : p + q ≤ 267386880 := by
                have h3 : (i + 1) * q ≤ k * q := Nat.mul_le_mul_right _ hik
                have h4 := HPP.out
                have h5 := HPI.out
                rw [Nat.succ_mul] at h3
                omega
              have HJ2 : Hid (p + q = (i + 1) * q) := Lib.hid (by rw [Nat.succ_mul, ← HPI.out])
              clear hr hrow
              go_wp2_with (at_builtin; refine wpList_append_row rfl (.tmp 56) (.tmp 60) rfl w2.heap.size (.slice A12 p c12) p (newsB p (conF q D)) (by rfl) HI.out.1 (Dr i) q (Dc i) (D i) (by rfl) HROW.out (by omega) (by omega) HI.out.2.size ?_; intro v1 w4 hown1 hgrow1; have HS := Lib.hid (concatq_step HPI.out HI.out.1 HI.out.2 hown1 hgrow1); clear hown1 hgrow1)
              obtain ⟨A13, c13, hv, _⟩ := own_form HS.out.1
              subst hv
              go_roundg (k - (i + 1))
              case measure => omega
              case rel => exact ⟨i + 1, p + q, A13, c13, by omega, HJ2, by go_num, rfl, HS⟩
            · obtain rfl : k = i := by omega
              obtain rfl : p = P := by rw [HPI.out, HPP.out]
              obtain ⟨A', c', hv, hcc2⟩ := own_form HI.out.1
              injection hv with hvA _ hvc
              subst hvA hvc
              obtain ⟨zn, hzn⟩ : ∃ zn : Nat, z = (zn : Int) := ⟨z.toNat, by omega⟩
              subst hzn
              have hall := RdF.of_own HI.out.1 (f := fun t => vb (conF q D t)) (fun t ht => newsB_at ht)
              have HALL := Lib.hid (show RdB wr A12 zn (conF q D) from fun h0 => by
                obtain ⟨ad, e, h⟩ := hall (by omega)
                exact ⟨ad, e, fun t ht => h t (by omega)⟩)
              have hzc : (zn : Int) ≤ (c12 : Int) := by omega
              clear hall hcc2
              go_wp2_with (fail)
              go_ret2
              exact .inr ⟨HOK.out, .inr ⟨HKL.out, _, _, D, rfl, HDD.out, by rw [← HQ.out, Int.toNat_natCast]; exact HALL.out, below_then HB2.out HB2.out.size HI.out.2⟩⟩

theorem pres_full {L : Nat → Nat} {s : Nat} (h : ¬ (presTo L s).length < s) : ∀ i, i < s → 0 < L i := fun i hi => Decidable.byContradiction fun h0 => by
  have h1 := pres_count L s
  have h2 : 0 < ((List.range s).filter (noneB L)).length := List.length_pos_of_mem (a := i) (by
    rw [List.mem_filter, List.mem_range]
    exact ⟨hi, decide_eq_true (show L i = 0 by omega)⟩)
  omega
/-- What Check tells. -/
def ChkP (L : Nat → Nat) (G : Nat → Nat → Gf.E) (k m s : Nat) (w : World) (e : Ending) (w' : World) : Prop :=
  ((alikeB s (k + m) L = false ∨ (presTo L s).length < s) ∧ e = .returned (.tuple #[.bool false, .int .i64 1]) ∧ Below w.heap.size w w') ∨
  (alikeB s (k + m) L = true ∧ ¬ (presTo L s).length < s ∧ e = .returned (.tuple #[.bool (sameB m m (fun _ => maxL L s) (fun _ => maxL L s) (timesF (cauE k) G k) (fun i => G (k + i))), .int .i64 0]) ∧ Below w.heap.size w w')

set_option maxRecDepth 100000 in
set_option maxHeartbeats 8000000 in
theorem doccheck_c (b k m s : Nat) (A : Option Addr) (c : Nat) (L : Nat → Nat) (G : Nat → Nat → Gf.E) (w : World) (hc : DocR w b k m) (hk : 1 ≤ k) (hkm : k + m ≤ 255) (ha : RdM w A s L G) (hs : s ≤ 1048576) (hl : ∀ i, i < s → L i ≤ 1048576) (hsc : s ≤ c) :
    Calls Try.prog 25 #[.pointer (some ⟨b, 0, none⟩), .slice A s c] w fun e w' => ChkP L G k m s w e w' := by
  have HTH := Lib.hid (there_c b k m s A c L G w hc hkm ha hs hl)
  have HC := Lib.hid hc
  have HA := Lib.hid ha
  have HL := Lib.hid hl
  have k1 : (1 : Int) ≤ (k : Int) := by omega
  clear hc ha hl
  go_enter Try.func25, Try.ntmps25
  go_wp2_with (fail)
  refine HTH.out.mono ?_
  rintro e w1 (⟨hf, rfl, hb1⟩ | ⟨ht, A', c', rfl, hcc, hF, hb1⟩)
  · have HF := Lib.hid hf
    have HB1 := Lib.hid hb1
    clear hf hb1 HTH
    go_wp2_with (fail)
    go_ret2
    exact .inl ⟨.inl HF.out, rfl, HB1.out⟩
  · have HT := Lib.hid ht
    have HB1 := Lib.hid hb1
    have c1 := (HC.out.below hb1).1
    have c2 := (HC.out.below hb1).2
    have hal := of_decide_eq_true ht
    have hsk : s = k + m := hal.1
    obtain ⟨q, hq⟩ : ∃ q, q = maxL L s := ⟨_, rfl⟩
    have hlq : ∀ i, i < s → L i = 0 ∨ L i = q := fun i hi => by rw [hq]; exact hal.2 i hi
    have hq2 : q ≤ 1048576 := by
      rcases maxL_is L s with h0 | ⟨j, hj, he⟩
      · omega
      · have := HL.out j hj; omega
    have HQ := Lib.hid hq
    have HSK := Lib.hid hsk
    have s255 : s ≤ 255 := by omega
    have ks : (k : Int) ≤ (c : Int) := by omega
    obtain ⟨l9, hl9⟩ : ∃ l9, l9 = (presTo L s).length := ⟨_, rfl⟩
    have HL9 := Lib.hid hl9
    rw [← hq, ← hl9]
    clear ht hb1 hF hal hq HTH
    have l255 : l9 ≤ s := by rw [hl9]; exact presTo_len L s
    by_cases hfew : l9 < s
    · have d1 : (l9 : Int) < (s : Int) := by omega
      clear hl9 hsk
      go_wp2_with (fail)
      go_ret2
      exact .inl ⟨.inr (by rw [← HL9.out]; exact hfew), rfl, HB1.out⟩
    · have d1 : (s : Int) ≤ (l9 : Int) := by omega
      have hfull := pres_full (L := L) (s := s) (by rw [← hl9]; exact hfew)
      have hLq : ∀ i, i < s → L i = q := fun i hi => by
        rcases hlq i hi with h | h
        · have := hfull i hi; omega
        · exact h
      have hq1 : 1 ≤ q := by have := hfull 0 (by omega); have := hLq 0 (by omega); omega
      have HNF := Lib.hid (show ¬ (presTo L s).length < s by rw [← hl9]; exact hfew)
      have HAQ := Lib.hid (show RdM w A (k + m) (fun _ => q) G by rw [← hsk]; exact HA.out.len hLq)
      clear hfull hlq hfew hl9 hsk hLq
      have HAK := Lib.hid (HAQ.out.take (show k ≤ k + m by omega))
      by_cases hm : m = 0
      · subst hm
        have HPZ := Lib.hid (docpar_zero b k (.slice A k c) w1 (HC.out.below HB1.out))
        go_wp2_with (fail)
        refine HPZ.out.mono ?_
        rintro e w2 ⟨rfl, rfl⟩
        go_wp2_with (fail)
        go_loopg [10] 0 (fun kq v10 wr => v10 = .int .i64 0 ∧ w1 = wr)
        case atStart => exact ⟨rfl, rfl⟩
        case round =>
          obtain ⟨rfl, rfl⟩ := hrel
          go_wp2_with (fail)
          go_ret2
          exact .inr ⟨HT.out, HNF.out, by rw [sameB_true ⟨rfl, fun i hi => absurd hi (Nat.not_lt_zero _)⟩]; rfl, HB1.out⟩
      · have m1 : (1 : Int) ≤ (m : Int) := by omega
        have HPY := Lib.hid (docpar_new b k m A c q G w1 (HC.out.below HB1.out) hk (by omega) hkm (HAK.out.below HB1.out) hq1 hq2)
        go_wp2_with (fail)
        refine HPY.out.mono ?_
        rintro e w2 ⟨v, rfl, g, cap, bs, rfl, hcap, hM⟩
        have HM := Lib.hid hM.1
        have HB2 := Lib.hid (below_then HB1.out HB1.out.size hM.2.2.2.2)
        have c1 := (HC.out.below HB2.out).1
        have c2 := (HC.out.below HB2.out).2
        clear hM HPY
        go_wp2_with (fail)
        clear c1 c2
        go_loopg [10] m (fun kq v10 wr => ∃ j : Nat, j + kq = m ∧ v10 = .int .i64 (j : Int) ∧ Hid (∀ i, i < j → ∀ x, x < q → timesF (cauE k) G k i x = G (k + i) x) ∧ Hid (Drew w2 wr))
        case atStart => exact ⟨0, by omega, rfl, Lib.hid (fun i hi => absurd hi (Nat.not_lt_zero _)), Lib.hid (Drew.refl _)⟩
        case round =>
          obtain ⟨j, hj0, rfl, HJ, HD⟩ := hrel
          have hbw := below_then HB2.out HB2.out.size HD.out.below
          have c1 := (HC.out.below hbw).1
          have c2 := (HC.out.below hbw).2
          by_cases hlt : j < m
          · have j1 : (j : Int) < (m : Int) := by omega
            have j0 : (0 : Int) ≤ (j : Int) := by omega
            obtain ⟨csM, hm1, hm2⟩ := HM.out.below HD.out.below
            have f1 := hm1.cell hlt
            obtain ⟨Ar, Cr, hr, hrow⟩ := HAQ.out.below hbw
            obtain ⟨p, hp⟩ : ∃ p, p = k + j := ⟨_, rfl⟩
            have hps : p < k + m := by omega
            obtain ⟨ad, rfl, f2⟩ := hr.at_ hps
            have hpj : (k : Int) + (j : Int) = (p : Int) := by omega
            have p1 : (p : Int) < (s : Int) := by have := HSK.out; omega
            have p0 : (0 : Int) ≤ (p : Int) := by omega
            have hcv : ∀ nq, (convert 22 9 (.slice (some ⟨bs j, 0, none⟩) q (csM j))).run Try.prog (wr.drewN nq) = .ok (.string (strE q (timesF (cauE k) G k j))) (wr.drewN nq) := fun nq => run_conv_bytes Try.underlying22 Try.underlying5 Try.underlying9 (RdF.drewN (hm2 j hlt).2.rd nq)
            have hcv2 : ∀ nq, (convert 22 9 (.slice (Ar p) q (Cr p))).run Try.prog (wr.drewN nq) = .ok (.string (strE q (G p))) (wr.drewN nq) := fun nq => run_conv_bytes Try.underlying22 Try.underlying5 Try.underlying9 (RdF.drewN (hrow p hps).2 nq)
            have HP := Lib.hid hp
            clear hm1 hm2 hr hrow hbw hp
            by_cases he : (strE q (timesF (cauE k) G k j)).data.toList = (strE q (G p)).data.toList
            · have HE := Lib.hid (strE_inj he)
              have e1 : ((strE q (timesF (cauE k) G k j)).toList == (strE q (G p)).toList) = true := by
                rw [beq_iff_eq, ByteArray.toList_eq, ByteArray.toList_eq]; exact he
              have HJ2 : Hid (∀ i, i < j + 1 → ∀ x, x < q → timesF (cauE k) G k i x = G (k + i) x) := Lib.hid (fun i hi x hx => by
                rcases Nat.lt_succ_iff_lt_or_eq.1 hi with h | h
                · exact HJ.out i h x hx
                · rw [h, ← HP.out]; exact HE.out.2 x hx)
              clear he HJ
              go_wp2_with (fail)
              go_quiet (fail)
              have HD2 := Lib.hid (HD.out.step nq)
              clear hcv hcv2 e1
              go_wp2_with (fail)
              go_roundg (m - (j + 1))
              case measure => omega
              case rel => exact ⟨j + 1, by omega, by go_num, HJ2, HD2⟩
            · have e1 : ((strE q (timesF (cauE k) G k j)).toList == (strE q (G p)).toList) = false := by
                rw [beq_eq_false_iff_ne, ne_eq, ByteArray.toList_eq, ByteArray.toList_eq]; exact he
              have HF := Lib.hid (show sameB m m (fun _ => q) (fun _ => q) (timesF (cauE k) G k) (fun i => G (k + i)) = false from decide_eq_false (fun h => he (by
                have := (h.2 j hlt).2
                rw [strE_congr (g := G p) (fun x hx => by rw [HP.out]; exact this x hx)])))
              clear he HJ
              go_wp2_with (fail)
              go_quiet (fail)
              have HD2 := Lib.hid (HD.out.step nq)
              clear hcv hcv2 e1
              go_wp2_with (fail)
              go_ret2
              exact .inr ⟨HT.out, HNF.out, by rw [← HQ.out, HF.out]; rfl, below_then HB2.out HB2.out.size HD2.out.below⟩
          · obtain rfl : m = j := by omega
            clear hbw
            go_wp2_with (fail)
            go_ret2
            exact .inr ⟨HT.out, HNF.out, by rw [sameB_true ⟨rfl, fun i hi => ⟨rfl, fun x hx => HJ.out i hi x (by rw [HQ.out]; exact hx)⟩⟩]; rfl, below_then HB2.out HB2.out.size HD.out.below⟩
end Go.Proofs.Ytccfnhocjiehnaa
