/- rs.Check. -/
import Derived.Test.YtccfnhocjiehnaaCheck
namespace Go.Proofs.Ytccfnhocjiehnaa
open Go.RowKit
set_option linter.unusedVariables false
set_option linter.unusedSimpArgs false

theorem par_all (b k m : Nat) (A : Option Addr) (c q : Nat) (G : Nat → Nat → Gf.E) (w : World) (hc : CodeR w b k m) (ha : RdM w A k (fun _ => q) G) (hk : 1 ≤ k) (hk2 : k + m ≤ 255) (hq : 1 ≤ q) (hq2 : q ≤ 1048576) :
    Calls Try.prog 21 #[.pointer (some ⟨b, 0, none⟩), .slice A k c] w fun e w' => ∃ A' c', e = .returned (.tuple #[.slice A' m c', .int .i64 0]) ∧ RdM w' A' m (fun _ => q) (timesF (cauE k) G k) ∧ Below w.heap.size w w' := by
  by_cases hm : m = 0
  · subst hm
    refine (par_zero b k A c q G w hc ha hk (by omega) hq hq2).mono ?_
    rintro e w' ⟨rfl, hb⟩
    exact ⟨none, 0, rfl, ⟨fun _ => none, fun _ => 0, RdF.none_, fun i hi => absurd hi (Nat.not_lt_zero _)⟩, hb⟩
  · refine (par_yes b k m A c q G w hc ha hk (by omega) hk2 hq hq2).mono ?_
    rintro e w' ⟨v, rfl, g, cap, bs, rfl, hcap, hM, _, _, _, hb⟩
    exact ⟨_, cap, rfl, hM.rd, hb⟩
theorem RdM.take {w : World} {A : Option Addr} {n k : Nat} {L : Nat → Nat} {F : Nat → Nat → Gf.E} (h : RdM w A n L F) (hk : k ≤ n) : RdM w A k L F := by
  obtain ⟨Ar, Cr, h1, h2⟩ := h
  refine ⟨Ar, Cr, fun h0 => ?_, fun i hi => h2 i (by omega)⟩
  obtain ⟨ad, e, hc⟩ := h1 (by omega)
  exact ⟨ad, e, fun j hj => hc j (by omega)⟩
theorem RdM.drop {w : World} {A : Option Addr} {n k cap : Nat} {L : Nat → Nat} {F : Nat → Nat → Gf.E} (h : RdM w A n L F) (hk : k ≤ n) (hc : n ≤ cap) : RdM w (if cap = k then A else A.map (·.add k)) (n - k) (fun i => L (k + i)) (fun i => F (k + i)) := by
  obtain ⟨Ar, Cr, h1, h2⟩ := h
  exact ⟨fun i => Ar (k + i), fun i => Cr (k + i), h1.drop hk hc, fun i hi => h2 (k + i) (by omega)⟩

set_option maxRecDepth 100000 in
set_option maxHeartbeats 4000000 in
theorem check_no1 (b k m : Nat) (A : Option Addr) (s c : Nat) (L : Nat → Nat) (G : Nat → Nat → Gf.E) (w : World) (hc : CodeR w b k m) (hkm : k + m ≤ 255) (ha : RdM w A s L G) (hs : s ≤ 1048576) (hl : ∀ i, i < s → L i ≤ 1048576) (hf : alikeB s (k + m) L = false) :
    Calls Try.prog 10 #[.pointer (some ⟨b, 0, none⟩), .slice A s c] w fun e w' => e = .returned (.tuple #[.bool false, .int .i64 1]) ∧ Below w.heap.size w w' := by
  have hmf := makeFunc_run
  have hb := box2 w (.bool false) (.int .i64 0) 4 25
  have hT := Two.start w (.bool false) (.int .i64 0) 4 25
  have HT := Lib.hid hT
  obtain ⟨c1, c2, _⟩ := hc.below hb
  obtain ⟨Ar, Cr, hr, _⟩ := ha.below hb
  have HAL := Lib.hid (fun n => alike_c A s c ((k : Int) + m) L Ar Cr _ (hr.drewN n) (by omega) (fun i hi => by have := hl i hi; omega) (by omega))
  rw [show ((k : Int) + m).toNat = k + m by omega, hf] at HAL
  have e1 : IntKind.i64.wrap ((k : Int) + (m : Int)) = (k : Int) + (m : Int) := by rw [IntKind.wrap_i64]; omega
  clear hc ha hb hr hl hT hf
  go_enter_defers Try.func10, Try.ntmps10
  go_wp2_with (fail)
  generalize (w.alloc (.cells #[.bool false] 4)).alloc (.cells #[.int .i64 0] 25) = W at *
  refine wp_region_still_tail 10 (by kernel_rfl) (by kernel_rfl) ?_
  simp only [List.take_succ_cons, List.take_zero, List.drop_succ_cons, List.drop_zero]
  repeat (first | still_step)
  refine wpStill_nil ?_
  change wpList _ _ _ _ _ W.drew
  go_wp2_with (fail)
  refine (HAL.out 1).mono ?_
  rintro e w' ⟨rfl, ⟨h, _⟩ | ⟨_, rfl⟩⟩
  · cases h
  · go_wp2
    refine two_up (fun _ _ => rfl) (HT.out.over (below_drewN (Below.refl _ _) 1)) (fun W h1 h2 => zero4_c _ _ W h1 h2) (fun W h1 h2 => by simp [results, Try.results10, go_sem, h1, h2]) (fun W hW => ⟨rfl, hW⟩)

set_option maxRecDepth 100000 in
set_option maxHeartbeats 4000000 in
theorem check_no2 (b k m : Nat) (A : Option Addr) (s c : Nat) (L : Nat → Nat) (G : Nat → Nat → Gf.E) (w : World) (hc : CodeR w b k m) (hkm : k + m ≤ 255) (ha : RdM w A s L G) (hs : s ≤ 1048576) (hl : ∀ i, i < s → L i ≤ 1048576) (hf : alikeB s (k + m) L = true) (hm : anyB (noneB L) s = true) :
    Calls Try.prog 10 #[.pointer (some ⟨b, 0, none⟩), .slice A s c] w fun e w' => e = .returned (.tuple #[.bool false, .int .i64 1]) ∧ Below w.heap.size w w' := by
  have hmf := makeFunc_run
  have hb := box2 w (.bool false) (.int .i64 0) 4 25
  have hT := Two.start w (.bool false) (.int .i64 0) 4 25
  have HT := Lib.hid hT
  obtain ⟨c1, c2, _⟩ := hc.below hb
  obtain ⟨Ar, Cr, hr, _⟩ := ha.below hb
  have HAL := Lib.hid (fun n => alike_c A s c ((k : Int) + m) L Ar Cr _ (hr.drewN n) (by omega) (fun i hi => by have := hl i hi; omega) (by omega))
  rw [show ((k : Int) + m).toNat = k + m by omega, hf] at HAL
  have HMI := Lib.hid (fun n => missing_c A s c L Ar Cr _ (hr.drewN n) (by omega) (fun i hi => by have := hl i hi; omega))
  have HMI2 := Lib.hid (fun r (h : IsFirst (noneB L) s r) => show (0 : Int) ≤ r from by
    rcases h with ⟨i, _, _, _, rfl⟩ | ⟨h, rfl⟩
    · omega
    · obtain ⟨i, hi, hp⟩ := of_decide_eq_true hm
      rw [h i hi] at hp
      cases hp)
  have e1 : IntKind.i64.wrap ((k : Int) + (m : Int)) = (k : Int) + (m : Int) := by rw [IntKind.wrap_i64]; omega
  clear hc ha hb hr hl hT hf hm
  go_enter_defers Try.func10, Try.ntmps10
  go_wp2_with (fail)
  generalize (w.alloc (.cells #[.bool false] 4)).alloc (.cells #[.int .i64 0] 25) = W at *
  refine wp_region_still_tail 10 (by kernel_rfl) (by kernel_rfl) ?_
  simp only [List.take_succ_cons, List.take_zero, List.drop_succ_cons, List.drop_zero]
  repeat (first | still_step)
  refine wpStill_nil ?_
  change wpList _ _ _ _ _ W.drew
  go_wp2_with (fail)
  refine (HAL.out 1).mono ?_
  rintro e w' ⟨rfl, ⟨_, rfl⟩ | ⟨h, _⟩⟩
  · go_wp2_with (fail)
    refine (HMI.out 1).mono ?_
    rintro e w' ⟨r, rfl, hF, hd⟩
    have hr0 := HMI2.out r hF
    replace hd := Lib.hid hd
    clear hF
    go_wp2_with (fail)
    refine (give_c 1 _).mono ?_
    rintro e w'' ⟨rfl, rfl⟩
    go_wp2
    refine two_up (fun _ _ => rfl) ((HT.out.over (below_drewN (Below.refl _ _) 1)).over hd.out.below) (fun W h1 h2 => zero4_c _ _ W h1 h2) (fun W h1 h2 => by simp [results, Try.results10, go_sem, h1, h2]) (fun W hW => ⟨rfl, hW⟩)
  · cases h

set_option maxRecDepth 100000 in
set_option maxHeartbeats 4000000 in
theorem check_yes (b k m : Nat) (A : Option Addr) (c q : Nat) (G : Nat → Nat → Gf.E) (w : World) (hc : CodeR w b k m) (hk : 1 ≤ k) (hkm : k + m ≤ 255) (ha : RdM w A (k + m) (fun _ => q) G) (hcap : k + m ≤ c) (hq : 1 ≤ q) (hq2 : q ≤ 1048576) :
    Calls Try.prog 10 #[.pointer (some ⟨b, 0, none⟩), .slice A (k + m) c] w fun e w' => e = .returned (.tuple #[.bool (sameB m m (fun _ => q) (fun _ => q) (timesF (cauE k) G k) (fun i => G (k + i))), .int .i64 0]) ∧ Below w.heap.size w w' := by
  obtain ⟨bq, hbq⟩ : ∃ bq, bq = sameB m m (fun _ => q) (fun _ => q) (timesF (cauE k) G k) (fun i => G (k + i)) := ⟨_, rfl⟩
  rw [← hbq]
  have HBQ := Lib.hid hbq
  clear hbq
  have hmf := makeFunc_run
  have hb := box2 w (.bool false) (.int .i64 0) 4 25
  have hT := Two.start w (.bool false) (.int .i64 0) 4 25
  have HT := Lib.hid hT
  obtain ⟨c1, c2, _⟩ := hc.below hb
  obtain ⟨Ar, Cr, hr, _⟩ := ha.below hb
  have HAL := Lib.hid (fun n => alike_c A (k + m) c ((k : Int) + m) (fun _ => q) Ar Cr _ (hr.drewN n) (by omega) (fun i hi => by omega) (by omega))
  rw [show ((k : Int) + m).toNat = k + m by omega, alike_const (by omega)] at HAL
  have HMI := Lib.hid (fun n => missing_c A (k + m) c (fun _ => q) Ar Cr _ (hr.drewN n) (by omega) (fun i hi => by omega))
  have e1 : IntKind.i64.wrap ((k : Int) + (m : Int)) = (k : Int) + (m : Int) := by rw [IntKind.wrap_i64]; omega
  have HC := Lib.hid (hc.below hb)
  have HA := Lib.hid (ha.below hb)
  have HC1 := Lib.hid c1
  clear hc ha hb hr hT
  go_enter_defers Try.func10, Try.ntmps10
  go_wp2_with (fail)
  generalize (w.alloc (.cells #[.bool false] 4)).alloc (.cells #[.int .i64 0] 25) = W at *
  refine wp_region_still_tail 10 (by kernel_rfl) (by kernel_rfl) ?_
  simp only [List.take_succ_cons, List.take_zero, List.drop_succ_cons, List.drop_zero]
  repeat (first | still_step)
  refine wpStill_nil ?_
  change wpList _ _ _ _ _ W.drew
  go_wp2_with (fail)
  refine (HAL.out 1).mono ?_
  rintro e w' ⟨rfl, ⟨_, rfl⟩ | ⟨h, _⟩⟩
  · go_wp2_with (fail)
    refine (HMI.out 1).mono ?_
    rintro e w' ⟨r, rfl, hF, hd⟩
    obtain rfl := none_const hq hF
    have hb0 : Below W.heap.size W w' := below_then (below_drewN (Below.refl _ _) 1) (Nat.le_refl _) hd.below
    have HB0 := Lib.hid hb0
    have c3 := cell_below hb0 HC1.out
    have HX := Lib.hid (par_all b k m A c q G w' (HC.out.below hb0) ((HA.out.below hb0).take (by omega)) hk hkm hq hq2)
    have k1 : (k : Int) ≤ (c : Int) := by omega
    have k2 : (k : Int) ≤ (k : Int) + (m : Int) := by omega
    clear hF hd hb0 c1 c2 e1
    go_wp2_with (fail)
    refine HX.out.mono ?_
    rintro e w5 ⟨A', c', rfl, hM, hb5⟩
    have c4 := cell_below hb5 c3
    have hb6 := below_then HB0.out HB0.out.size hb5
    have HB6 := Lib.hid hb6
    have hdr := (HA.out.below hb6).drop (k := k) (cap := c) (by omega) hcap
    rw [Nat.add_sub_cancel_left] at hdr
    have HY := Lib.hid (equalfunc_c A' (if c = k then A else A.map (·.add k)) m m c' (c - k) (fun _ => q) (fun _ => q) (timesF (cauE k) G k) (fun i => G (k + i)) w5 hM hdr (by omega) (by omega) (fun _ _ => hq2) (fun _ _ => hq2))
    have HT2 := Lib.hid (HT.out.over hb6)
    clear hM hb5 hb6 c3 hdr
    rw [← HBQ.out] at HY
    by_cases hck : c = k
    · have hck' : ¬ k < c := by omega
      rw [if_pos hck] at HY
      replace hck := Lib.hid hck
      go_wp2_with (fail)
      all_goals refine HY.out.mono ?_
      all_goals rintro e w6 ⟨rfl, hd6⟩
      all_goals have hT5 := HT2.out.over hd6.below
      all_goals have p1 := hT5.cell1
      all_goals have p2 := hT5.cell2
      all_goals have z1 := hT5.frz1
      all_goals have z2 := hT5.frz2
      all_goals have hT3 := Lib.hid ((hT5.set1 (.bool bq)).set2 (.int .i64 0))
      all_goals clear hd6 hT5
      all_goals go_wp2
      all_goals refine two_ret hT3.out (fun W h1 h2 => by simp [results, Try.results10, go_sem, h1, h2]) ⟨rfl, hT3.out.below⟩
    · have hck' : k < c := by omega
      rw [if_neg hck] at HY
      replace hck := Lib.hid hck
      go_wp2_with (fail)
      all_goals refine HY.out.mono ?_
      all_goals rintro e w6 ⟨rfl, hd6⟩
      all_goals have hT5 := HT2.out.over hd6.below
      all_goals have p1 := hT5.cell1
      all_goals have p2 := hT5.cell2
      all_goals have z1 := hT5.frz1
      all_goals have z2 := hT5.frz2
      all_goals have hT3 := Lib.hid ((hT5.set1 (.bool bq)).set2 (.int .i64 0))
      all_goals clear hd6 hT5
      all_goals go_wp2
      all_goals refine two_ret hT3.out (fun W h1 h2 => by simp [results, Try.results10, go_sem, h1, h2]) ⟨rfl, hT3.out.below⟩
  · cases h
end Go.Proofs.Ytccfnhocjiehnaa
