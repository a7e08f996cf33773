/- The document's Encode, Parity. -/
import Derived.Test.YtccfnhocjiehnaaDocPar
import Derived.Test.YtccfnhocjiehnaaEncode
namespace Go.Proofs.Ytccfnhocjiehnaa
open Go.RowKit
set_option linter.unusedVariables false
set_option linter.unusedSimpArgs false

theorem docpar_new (b k m : Nat) (A : Option Addr) (c q : Nat) (G : Nat → Nat → Gf.E) (w : World) (hc : DocR w b k m) (hk : 1 ≤ k) (hm : 1 ≤ m) (hkm : k + m ≤ 255) (ha : RdM w A k (fun _ => q) G) (hq : 1 ≤ q) (hq2 : q ≤ 1048576) :
    Calls Try.prog 41 #[.pointer (some ⟨b, 0, none⟩), .slice A k c] w fun e w' => ∃ v, e = .returned v ∧ NewMat w w' v m q (timesF (cauE k) G k) := by
  refine (docpar_yes b k m A c q G w hc hk hm hkm ha hq hq2).mono ?_
  rintro e w' ⟨v, As, cs, w1, rfl, hb, hC⟩
  exact ⟨v, rfl, NewMat.lower (hC.new (m := q) (by omega) (by omega) (fun _ _ => rfl)) hb⟩

set_option maxRecDepth 100000 in
set_option maxHeartbeats 4000000 in
theorem docencode_c (b k m : Nat) (D : Option Addr) (n dc : Nat) (d : Nat → Gf.E) (w : World) (hc : DocR w b k m) (hk : 1 ≤ k) (hkm : k + m ≤ 255) (hd : RdB w D n d) (hn : n ≤ 65536) :
    Calls Try.prog 20 #[.pointer (some ⟨b, 0, none⟩), .slice D n dc] w fun e w' => ∃ v, e = .returned v ∧ NewMat w w' v (k + m) (wide k n) (encF k (wide k n) n d) := by
  obtain ⟨i56, hi, hz0, hz1, hz2⟩ := info_parts info56
  have hq1 := wide_pos k n
  have hq2 : wide k n ≤ 70000 := by
    have h1 := wide_le n hk
    have h2 : 1 * wide k n ≤ k * wide k n := Nat.mul_le_mul_right _ hk
    omega
  have HS := Lib.hid (docsplit_c b k m D n dc d w hc hk (by omega) hd hn)
  have HC := Lib.hid hc
  obtain ⟨q, hq⟩ : ∃ q, q = wide k n := ⟨_, rfl⟩
  rw [← hq] at hq1 hq2 HS
  rw [← hq]
  clear hq hd hc
  go_enter Try.func20, Try.ntmps20
  go_wp2_with (fail)
  refine HS.out.mono ?_
  rintro e w2 ⟨v, As, cs, w1, rfl, hb1, hC⟩
  obtain ⟨A, c, rfl, hac, hR⟩ := hC.rd
  have hb2 := below_then hb1 hb1.size hC.below
  have hc2 := HC.out.below hb2
  have hN := NewMat.lower (hC.new (m := q) (by omega) (by omega) (fun _ _ => rfl)) hb1
  obtain ⟨g, cap, bs, hv, hN⟩ := hN
  injection hv with hA hkk hcc
  subst hA hcc
  by_cases hm : m = 0
  · subst hm
    have HP := Lib.hid (docpar_zero b k (.slice (some ⟨g, 0, none⟩) k c) w2 hc2)
    have HCC := Lib.hid hC
    have HN := Lib.hid (show NewMat w w2 (.slice (some ⟨g, 0, none⟩) k c) k q (splitF q n d) from ⟨g, c, bs, rfl, hN⟩)
    clear hc2 hR hC hb2 hb1 HS HC hN
    go_wp2_with (fail)
    refine HP.out.mono ?_
    rintro e w3 ⟨rfl, rfl⟩
    have hb3 := Below.refl w2.heap.size w2
    have hap := run_append_none' (P := Try.prog) (w := w2) w1.heap.size 0 28 28 22 i56 1 Try.underlying28 hi _ k _ (HCC.out.own.kept (row := none) ⟨hb3.os, hb3.tape, hb3.output, hb3.size, fun i hi _ => hb3.block i hi⟩ (by simp [Value.ownBlock]))
    replace hb3 := Lib.hid hb3
    go_wp2_with (fail)
    go_ret
    exact ⟨_, rfl, (HN.out.over hb3.out).congr (fun i j hi _ => by unfold encF; rw [if_pos (show i < k by omega)])⟩
  · have HP := Lib.hid (docpar_new b k m (some ⟨g, 0, none⟩) c q (splitF q n d) w2 hc2 hk (by omega) hkm hR hq1 (by omega))
    have HCC := Lib.hid hC
    have HB1 := Lib.hid hb1
    clear hc2 hR hC hb2 hb1 HS HC hN
    go_wp2_with (fail)
    refine HP.out.mono ?_
    rintro e w3 ⟨v3, rfl, g3, cap3, bs3, rfl, hcap3, hM⟩
    obtain ⟨⟨cs3, hM1, hM2⟩, hM3, hM4, hM5, hM6⟩ := hM
    have HMM := Lib.hid (show (∀ i, i < m → q ≤ cs3 i ∧ RowAt w3 (bs3 i) 5 q (fun j => vb (timesF (cauE k) (splitF q n d) k i j))) ∧ (∀ i, i < m → w2.heap.size ≤ bs3 i) ∧ (∀ i j, i < m → j < m → bs3 i = bs3 j → i = j) ∧ Below w2.heap.size w2 w3 from ⟨hM2, hM4, hM5, hM6⟩)
    have HO := Lib.hid (HCC.out.own.kept (row := none) (w' := w3) ⟨hM6.os, hM6.tape, hM6.output, hM6.size, fun i hi _ => hM6.block i hi⟩ (by simp [Value.ownBlock]))
    have HNW := Lib.hid (show ∀ j u, (rowVals m q bs3 cs3)[j]? = some u → w3.cell? ((⟨g3, 0, none⟩ : Addr).add j) = some u from fun j u hj => by
      have hl : j < m := by
        have := (List.getElem?_eq_some_iff.1 hj).1
        rwa [rowVals_len] at this
      rw [rowVals_at hl] at hj
      injection hj with hj
      rw [← hj, add_plain]; exact hM1.cell hl)
    have hsz : w1.heap.size ≤ w3.heap.size := by have := HCC.out.below.size; have := hM6.size; omega
    have hx1 : (rowVals m q bs3 cs3).length = m * 1 := by rw [rowVals_len, Nat.mul_one]
    have hx2 : k + m ≤ maxLen := by unfold maxLen; omega
    have hx3 : (k + m) * 24 ≤ 140737488355328 := by omega
    replace hx1 := Lib.hid hx1
    replace hx2 := Lib.hid hx2
    replace hx3 := Lib.hid hx3
    clear hM1 hM2 hM3 hM4 hM5 hM6 HP
    have MORE : Hid (∀ v4 w4, w4.ownsRow w1.heap.size 22 1 v4 (k + m) (((List.range k).map fun i => Value.slice (As i) q (cs i)) ++ rowVals m q bs3 cs3) → w3.grownBy w4 (Value.slice (some ⟨g, 0, none⟩) k c).ownBlock → NewMat w w4 v4 (k + m) q (encF k q n d)) := Lib.hid (fun v4 w4 h1 h2 => by
      have hS := HCC.out.more hk hq1 HMM.out.1 HMM.out.2.1 HMM.out.2.2.1 HMM.out.2.2.2 h1 h2
      exact NewMat.lower hS HB1.out)
    go_wp2_with (first | (at_builtin; refine wpList_append_own _ rfl (.tmp 9) (.tmp 12) 28 rfl w1.heap.size 22 i56 (.slice none 0 0) 1 24 Try.underlying28 hi hz0 hz1 hz2 rfl (by decide) (.slice (some ⟨g, 0, none⟩) k c) k ((List.range k).map fun i => Value.slice (As i) q (cs i)) ?_ ?_ ⟨g3, 0, none⟩ m cap3 (rowVals m q bs3 cs3) ?_ hx1.out ?_ (rowVals_one _ _ _ _) hx2.out hx3.out hsz ?_; rfl; exact HO.out; rfl; exact HNW.out; intro v4 w4 hown4 hgrow4 hz; clear hz; have HS := Lib.hid (MORE.out v4 w4 hown4 hgrow4); clear hown4 hgrow4))
    go_ret
    exact ⟨_, rfl, HS.out⟩

/-- Shards that Parity takes. -/
def parB (s k : Nat) (L : Nat → Nat) : Bool := decide (s = k ∧ 0 < L 0 ∧ ∀ i, i < k → L i = L 0)
set_option maxRecDepth 100000 in
set_option maxHeartbeats 4000000 in
theorem docparity_c (b k m s : Nat) (A : Option Addr) (c : Nat) (L : Nat → Nat) (G : Nat → Nat → Gf.E) (w : World) (hc : DocR w b k m) (hk : 1 ≤ k) (hkm : k + m ≤ 255) (ha : RdM w A s L G) (hs : s ≤ 1048576) (hl : ∀ i, i < s → L i ≤ 1048576) :
    Calls Try.prog 22 #[.pointer (some ⟨b, 0, none⟩), .slice A s c] w fun e w' => (parB s k L = false ∧ e = .returned (.tuple #[.slice none 0 0, .int .i64 1]) ∧ Below w.heap.size w w') ∨
      (parB s k L = true ∧ ((m = 0 ∧ e = .returned (.tuple #[.slice none 0 0, .int .i64 0]) ∧ Below w.heap.size w w') ∨ (1 ≤ m ∧ ∃ v, e = .returned (.tuple #[v, .int .i64 0]) ∧ NewMat w w' v m (L 0) (timesF (cauE k) G k)))) := by
  have c1 := hc.1
  have HC := Lib.hid hc
  have HA := Lib.hid ha
  have HL := Lib.hid hl
  have k1 : (1 : Int) ≤ (k : Int) := by omega
  by_cases hsk : s = k
  · subst hsk
    have c0 : ((s : Int) != (s : Int)) = false := by rw [bne_eq_false_iff_eq]
    obtain ⟨Ar, Cr, hr, _⟩ := ha
    obtain ⟨ad, rfl, f0⟩ := hr.at_ (show 0 < s by omega)
    rw [show ad.add 0 = ad by simp [Addr.add]] at f0
    obtain ⟨q, hq⟩ : ∃ q, q = L 0 := ⟨_, rfl⟩
    rw [← hq] at f0
    have hq2 : q ≤ 1048576 := by rw [hq]; exact hl 0 (by omega)
    have HQ := Lib.hid hq
    rw [← hq]
    clear hr hl hc
    by_cases h0 : q = 0
    · have HP := Lib.hid (show parB s s L = false from decide_eq_false (fun h => by have := h.2.1; omega))
      have d0 : ((q : Nat) : Int) = 0 := by omega
      clear hq
      go_enter Try.func22, Try.ntmps22
      go_wp2_with (fail)
      go_ret2
      exact .inl ⟨HP.out, rfl, Below.refl _ _⟩
    · have d0 : ¬ ((q : Nat) : Int) = 0 := by omega
      have HH0 := Lib.hid h0
      clear hq h0
      go_enter Try.func22, Try.ntmps22
      go_wp2_with (fail)
      go_loopg [6] (s - 1) (fun kq v6 wr => ∃ i : Nat, i + kq = s ∧ 1 ≤ i ∧ v6 = .int .i64 (i : Int) ∧ Hid (∀ j, j < i → L j = L 0) ∧ Hid (Drew w wr))
      case atStart => exact ⟨1, by omega, Nat.le_refl _, rfl, Lib.hid (fun j hj => by rw [show j = 0 by omega]), Lib.hid (Drew.refl _)⟩
      case round =>
        obtain ⟨i, hi0, hi1, rfl, HJ, HD⟩ := hrel
        have c1 := (HC.out.below HD.out.below).1
        by_cases hlt : i < s
        · have i1 : (i : Int) < (s : Int) := by omega
          have i0 : (0 : Int) ≤ (i : Int) := by omega
          have f0 := cell_below HD.out.below f0
          obtain ⟨Ar1, Cr1, hr, _⟩ := HA.out.below HD.out.below
          obtain ⟨a1, ha1, f1⟩ := hr.at_ hlt
          injection ha1 with ha1
          subst ha1
          clear hr
          by_cases he : L i = q
          · have dd : (((L i : Nat) : Int) != (q : Int)) = false := by rw [bne_eq_false_iff_eq]; omega
            have HJ2 : Hid (∀ j, j < i + 1 → L j = L 0) := Lib.hid (fun j hj => by
              rcases Nat.lt_succ_iff_lt_or_eq.1 hj with h | h
              · exact HJ.out j h
              · rw [h, he]; exact HQ.out)
            rw [he] at f1 dd
            clear HJ he
            go_wp2_with (fail)
            go_quiet (fail)
            have HD2 := Lib.hid (HD.out.step nq)
            go_wp2_with (fail)
            go_roundg (s - (i + 1))
            case measure => omega
            case rel => exact ⟨i + 1, by omega, by omega, by go_num, HJ2, HD2⟩
          · have dd : (((L i : Nat) : Int) != (q : Int)) = true := by rw [bne_iff_ne]; omega
            have HP := Lib.hid (show parB s s L = false from decide_eq_false (fun h => he (by rw [h.2.2 i hlt]; exact HQ.out.symm)))
            clear HJ he
            go_wp2_with (fail)
            go_quiet (fail)
            have HD2 := Lib.hid (HD.out.step nq)
            go_wp2_with (fail)
            go_ret2
            exact .inl ⟨HP.out, rfl, HD2.out.below⟩
        · obtain rfl : i = s := by omega
          have HP := Lib.hid (show parB i i L = true from decide_eq_true ⟨rfl, by have := HQ.out; have := HH0.out; omega, HJ.out⟩)
          by_cases hm : m = 0
          · subst hm
            have HPZ := Lib.hid (docpar_zero b i (.slice (some ad) i c) wr (HC.out.below HD.out.below))
            clear HJ
            go_wp2_with (fail)
            refine HPZ.out.mono ?_
            rintro e w2 ⟨rfl, rfl⟩
            go_wp2_with (fail)
            go_ret2
            first | exact .inr ⟨HP.out, .inl ⟨rfl, rfl, HD.out.below⟩⟩ | exact .inr ⟨HP.out, rfl, HD.out.below⟩
          · have HPY := Lib.hid (docpar_new b i m (some ad) c q G wr (HC.out.below HD.out.below) hk (by omega) hkm ((HA.out.below HD.out.below).len (fun j hj => by rw [HJ.out j hj]; exact HQ.out.symm)) (by have := HH0.out; omega) hq2)
            clear HJ
            go_wp2_with (fail)
            refine HPY.out.mono ?_
            rintro e w2 ⟨v, rfl, hN⟩
            have HN := Lib.hid (NewMat.lower hN HD.out.below)
            clear hN
            go_wp2_with (fail)
            go_ret2
            exact .inr ⟨HP.out, .inr ⟨by omega, v, rfl, HN.out⟩⟩
  · have c0 : ((s : Int) != (k : Int)) = true := by rw [bne_iff_ne]; omega
    have HP := Lib.hid (show parB s k L = false from decide_eq_false (fun h => hsk h.1))
    clear hsk ha hc
    go_enter Try.func22, Try.ntmps22
    go_wp2_with (fail)
    go_ret2
    exact .inl ⟨HP.out, rfl, Below.refl _ _⟩
end Go.Proofs.Ytccfnhocjiehnaa
