/- rs.Decode. -/
import Derived.Test.YtccfnhocjiehnaaRepair
import Derived.Test.YtccfnhocjiehnaaConcatQ
namespace Go.Proofs.Ytccfnhocjiehnaa
open Go.RowKit
set_option linter.unusedVariables false
set_option linter.unusedSimpArgs false

set_option maxRecDepth 100000 in
set_option maxHeartbeats 4000000 in
/-- Decode that is asked for too many bytes. -/
theorem decode_no (b k m s : Nat) (A : Option Addr) (c : Nat) (z : Nat) (L : Nat → Nat) (G : Nat → Nat → Gf.E) (w : World) (hc : CodeR w b k m) (hk : 1 ≤ k) (hkm : k + m ≤ 255) (ha : RdM w A s L G) (hs : s ≤ 1048576) (hl : ∀ i, i < s → L i ≤ 1048576) (hz : z ≤ 1073741824) (hzm : alikeB s (k + m) L = true → k * maxL L s < z) :
    Calls Try.prog 14 #[.pointer (some ⟨b, 0, none⟩), .int .i64 z, .slice A s c] w fun e w' => e = .returned (.tuple #[.slice none 0 0, .int .i64 1]) ∧ Below w.heap.size w w' := by
  have hmf := makeFunc_run
  have hb := box2 w (.slice none 0 0) (.int .i64 0) 22 25
  have hT := Two.start w (.slice none 0 0) (.int .i64 0) 22 25
  have HT := Lib.hid hT
  obtain ⟨c1, c2, _⟩ := hc.below hb
  obtain ⟨Ar, Cr, hr, _⟩ := ha.below hb
  have HAL := Lib.hid (fun n => alike_c A s c ((k : Int) + m) L Ar Cr _ (hr.drewN n) (by omega) (fun i hi => by have := hl i hi; omega) (by omega))
  rw [show ((k : Int) + m).toNat = k + m by omega] at HAL
  have e1 : IntKind.i64.wrap ((k : Int) + (m : Int)) = (k : Int) + (m : Int) := by rw [IntKind.wrap_i64]; omega
  obtain ⟨M, hM⟩ : ∃ M, M = maxL L s := ⟨_, rfl⟩
  obtain ⟨P, hP⟩ : ∃ P, P = k * M := ⟨_, rfl⟩
  rw [← hM] at HAL hzm
  rw [← hP] at hzm
  have hmul : (k : Int) * (M : Int) = (P : Int) := by rw [hP, Int.natCast_mul]
  have HZ := Lib.hid hzm
  have z0 : (0 : Int) ≤ (z : Int) := by omega
  clear hc ha hb hr hl hT hzm hM hP
  go_enter_defers Try.func14, Try.ntmps14
  go_wp2_with (fail)
  generalize (w.alloc (.cells #[.slice none 0 0] 22)).alloc (.cells #[.int .i64 0] 25) = W at *
  refine wp_region_still_tail 10 (by kernel_rfl) (by kernel_rfl) ?_
  simp only [List.take_succ_cons, List.take_zero, List.drop_succ_cons, List.drop_zero]
  repeat (first | still_step)
  refine wpStill_nil ?_
  change wpList _ _ _ _ _ W.drew
  go_wp2_with (fail)
  refine (HAL.out 1).mono ?_
  rintro e w' ⟨rfl, ⟨hal, rfl⟩ | ⟨h, rfl⟩⟩
  · have z1 : (P : Int) < (z : Int) := by have := HZ.out hal; omega
    have z2 : (P : Int) ≤ 1073741824 := by omega
    have z3 : (z : Int) ≤ 1073741824 := by omega
    clear hal e1
    go_wp2_with (fail)
    refine (give_c 1 _).mono ?_
    rintro e w'' ⟨rfl, rfl⟩
    go_wp2
    refine two_up (fun _ _ => rfl) (HT.out.over (below_drewN (Below.refl _ _) 1)) (fun W h1 h2 => zero3_c _ _ W h1 h2) (fun W h1 h2 => by simp [results, Try.results14, go_sem, h1, h2]) (fun W hW => ⟨rfl, hW⟩)
  · go_wp2
    refine two_up (fun _ _ => rfl) (HT.out.over (below_drewN (Below.refl _ _) 1)) (fun W h1 h2 => zero3_c _ _ W h1 h2) (fun W h1 h2 => by simp [results, Try.results14, go_sem, h1, h2]) (fun W hW => ⟨rfl, hW⟩)

set_option maxRecDepth 100000 in
set_option maxHeartbeats 8000000 in
theorem decode_yes (b k m s : Nat) (A : Option Addr) (c q z : Nat) (L : Nat → Nat) (G : Nat → Nat → Gf.E) (w : World) (hs : s = k + m) (hc : CodeR w b k m) (hk : 1 ≤ k) (hkm : s ≤ 255) (ha : RdM w A s L G) (hsc : s ≤ c) (hl : ∀ i, i < s → L i = 0 ∨ L i = q) (hq1 : 1 ≤ q) (hq2 : q ≤ 1048576) (hf : alikeB s (k + m) L = true) (hz : z ≤ k * maxL L s) :
    Calls Try.prog 14 #[.pointer (some ⟨b, 0, none⟩), .int .i64 z, .slice A s c] w fun e w' => ((rowsTo L k s).length < k ∧ e = .returned (.tuple #[.slice none 0 0, .int .i64 16]) ∧ Below w.heap.size w w') ∨
      ((rowsTo L k s).length = k ∧ ∃ g, e = .returned (.tuple #[.slice (some ⟨g, 0, none⟩) z z, .int .i64 0]) ∧ w.heap.size ≤ g ∧ ∃ D, WholeD L G k s D ∧ RowAt w' g 5 z (fun i => vb (conF q D i)) ∧ Below w.heap.size w w') := by
  have hmf := makeFunc_run
  have hb := box2 w (.slice none 0 0) (.int .i64 0) 22 25
  have hT := Two.start w (.slice none 0 0) (.int .i64 0) 22 25
  have HT := Lib.hid hT
  have HA := Lib.hid (ha.below hb)
  have HC := Lib.hid (hc.below hb)
  have HL := Lib.hid hl
  obtain ⟨c1, c2, _⟩ := hc.below hb
  obtain ⟨Ar0, Cr0, hr, hrow⟩ := ha.below hb
  have HAL := Lib.hid (fun n => alike_c A s c ((k : Int) + m) L Ar0 Cr0 _ (hr.drewN n) (by omega) (fun i hi => by rcases hl i hi with h | h <;> omega) (by omega))
  rw [show ((k : Int) + m).toNat = k + m by omega, hf] at HAL
  have e1 : IntKind.i64.wrap ((k : Int) + (m : Int)) = (k : Int) + (m : Int) := by rw [IntKind.wrap_i64]; omega
  have hMq : maxL L s ≤ q := by
    rcases maxL_is L s with h0 | ⟨j, hj, he⟩
    · omega
    · rcases hl j hj with h | h <;> omega
  obtain ⟨M, hM⟩ : ∃ M, M = maxL L s := ⟨_, rfl⟩
  obtain ⟨P, hP⟩ : ∃ P, P = k * M := ⟨_, rfl⟩
  rw [← hM] at HAL hz hMq
  rw [← hP] at hz
  have hPq : P ≤ k * q := by rw [hP]; exact Nat.mul_le_mul_left _ hMq
  have hkq : k * q ≤ 1073741824 := by
    have h1 : k * q ≤ 255 * q := Nat.mul_le_mul_right _ (by omega)
    omega
  have hmul : (k : Int) * (M : Int) = (P : Int) := by rw [hP, Int.natCast_mul]
  have z0 : (0 : Int) ≤ (z : Int) := by omega
  have z1 : (z : Int) ≤ (P : Int) := by omega
  have z2 : (P : Int) ≤ 1073741824 := by omega
  have ks : k ≤ s := by omega
  have HS := Lib.hid hs
  have HKQ := Lib.hid hkq
  have HZ : Hid (z ≤ k * q) := Lib.hid (by omega)
  clear hc ha hb hr hl hT hf hrow hs hkq hPq hMq hM hP
  go_enter_defers Try.func14, Try.ntmps14
  go_wp2_with (fail)
  generalize (w.alloc (.cells #[.slice none 0 0] 22)).alloc (.cells #[.int .i64 0] 25) = W at *
  refine wp_region_still_tail 10 (by kernel_rfl) (by kernel_rfl) ?_
  simp only [List.take_succ_cons, List.take_zero, List.drop_succ_cons, List.drop_zero]
  repeat (first | still_step)
  refine wpStill_nil ?_
  change wpList _ _ _ _ _ W.drew
  go_wp2_with (fail)
  refine (HAL.out 1).mono ?_
  rintro e w' ⟨rfl, ⟨_, rfl⟩ | ⟨h, _⟩⟩
  · have hbD : Below W.heap.size W (W.drewN 1) := below_drewN (Below.refl _ _) 1
    have HX := Lib.hid (whole_c b k m s A c q L G (W.drewN 1) HS.out (HC.out.below hbD) (HA.out.below hbD) hk hkm hsc HL.out hq1 hq2)
    clear e1 HAL hbD
    go_wp2_with (fail)
    refine HX.out.mono ?_
    rintro e w1 (⟨hlost, rfl, hb1⟩ | ⟨hlen, A1, cc1, D, rfl, hcc1, hD, hWD, hb1⟩)
    · have HLO := Lib.hid hlost
      have HB1 := Lib.hid (below_then (below_drewN (Below.refl _ _) 1) (Nat.le_refl _) hb1)
      clear hlost hb1
      go_wp2
      refine two_up (fun _ _ => rfl) (HT.out.over HB1.out) (fun W h1 h2 => zero3_c _ _ W h1 h2) (fun W h1 h2 => by simp [results, Try.results14, go_sem, h1, h2]) (fun W hW => .inl ⟨HLO.out, rfl, hW⟩)
    · have HLEN := Lib.hid hlen
      have HWD := Lib.hid hWD
      have HB1 := Lib.hid (show Below W.heap.size W w1 from below_then (below_drewN (Below.refl _ _) 1) (Nat.le_refl _) hb1)
      have HCC := Lib.hid (concatq_c A1 k cc1 q D w1 hD hk hq1 HKQ.out)
      clear hlen hD hWD hb1 HX
      go_wp2_with (fail)
      refine HCC.out.mono ?_
      rintro e w2 ⟨g, cap, rfl, hcap, hrow, hg, hb2⟩
      have HB2 := Lib.hid (below_then HB1.out HB1.out.size hb2)
      have HT2 := Lib.hid (HT.out.over HB2.out)
      have HR2 := Lib.hid hrow
      have p1 := HT2.out.cell1
      have p2 := HT2.out.cell2
      have y1 := HT2.out.frz1
      have y2 := HT2.out.frz2
      have hgw : w.heap.size + 1 < g := by
        have h1 := (Array.getElem?_eq_some_iff.1 HT.out.two).1
        have h2 := HB1.out.size
        omega
      have hz3 : (z : Int) ≤ (cap : Int) := by have := HZ.out; omega
      have HT3 := Lib.hid ((HT2.out.set1 (.slice (some ⟨g, 0, none⟩) z z)).set2 (.int .i64 0))
      have HFIN := Lib.hid (show RowAt ((w2.setCell ⟨w.heap.size, 0, none⟩ (.slice (some ⟨g, 0, none⟩) z z)).setCell ⟨w.heap.size + 1, 0, none⟩ (.int .i64 0)) g 5 z (fun i => vb (conF q D i)) from by
        obtain ⟨cc, hc1, hc2, hc3⟩ := HR2.out
        have hzk := HZ.out
        refine ⟨cc, ?_, by omega, fun i hi => hc3 i (by omega)⟩
        rw [heap_setCell_other _ _ _ _ (by simp; omega), heap_setCell_other _ _ _ _ (by simp; omega)]
        exact hc1)
      clear hrow hb2 HCC
      go_wp2_with (fail)
      refine two_ret HT3.out (fun W h1 h2 => by simp [results, Try.results14, go_sem, h1, h2]) (.inr ⟨HLEN.out, g, rfl, by omega, D, HWD.out, HFIN.out, HT3.out.below⟩)
  · cases h
end Go.Proofs.Ytccfnhocjiehnaa
