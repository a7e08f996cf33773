/- slices.Grow of nil, slices.Concat of rows of q bytes each. -/
import Derived.Test.YtccfnhocjiehnaaCopy
import Derived.Lib.Walk
import Derived.Lib.SliceRun
import Derived.Lib.AppendZerosOnto
namespace Go.Proofs.Ytccfnhocjiehnaa
open Go.RowKit
set_option linter.unusedVariables false
set_option linter.unusedSimpArgs false

set_option maxRecDepth 100000 in
set_option maxHeartbeats 2000000 in
theorem grow_q (n : Nat) (w : World) (h1 : 1 ≤ n) (h2 : n ≤ 1073741824) : Calls Try.prog 54 #[.slice none 0 0, .int .i64 n] w fun e w' => ∃ v, e = .returned v ∧ w'.ownsRow w.heap.size 5 1 v 0 [] ∧ Below w.heap.size w w' := by
  obtain ⟨i5, hi, hz0, hz1, hz2⟩ := info_parts info5
  have hrz : ∀ ty, (Builtin.append_ #[22, 3] ty #[.slice none 0 0, .int .i64 (n : Int)]).run Try.prog w = .ok (.slice (some ⟨w.heap.size, 0, none⟩) n (grownCap w n 0 5)) (w.drew.alloc (.cells (#[] ++ Builtin.zeroCells (Value.int .u8 0).cells n ++ Builtin.zeroCells (Value.int .u8 0).cells (grownCap w n 0 5 - n)) 5)) := fun ty => by
    have h := Lib.run_append_grow_zeros w 22 3 ty 5 i5 (.int .u8 0) .i64 .i64 Try.underlying22 Try.underlying3 hi hz0 none 0 0 [] (run_firstCells_none w.drew i5.size 0 0 0) n (by omega) (by omega) (by omega) (by omega) (by rw [hz2]; omega)
      (by rw [hz2]; exact growslice_fits (by omega) (by omega))
    simp only [Nat.zero_add] at h
    exact h
  have hGn : n ≤ grownCap w n 0 5 := grownCap_ge w _ _ _
  have hGm := grownCap_le_maxLen w n 0 5 (by unfold maxLen; omega)
  obtain ⟨G, hG⟩ : ∃ G, G = grownCap w n 0 5 := ⟨_, rfl⟩
  rw [← hG] at hrz hGn hGm
  have hG63 : G ≤ 9223372036854775807 := by unfold maxLen at hGm; omega
  clear hG
  have HM := Lib.hid hGm
  have n1 : (0 : Int) < (n : Int) := by omega
  clear hGm
  go_enter Try.func54, Try.ntmps54
  go_wp2_with (at_builtin; refine Lib.wpList_append_run _ rfl _ _ _ _ rfl _ _ rfl rfl _ _ (hrz _) ?_)
  go_ret
  refine ⟨_, rfl, ⟨rfl, .inr ⟨w.heap.size, G, _, rfl, Nat.le_refl _, heap_alloc_new w.drew _, Nat.zero_le _, HM.out, ?_, rfl⟩⟩, ((Below.refl _ _).drew).alloc (Nat.le_refl _) _⟩
  simp [Builtin.zeroCells]
  omega

/-- Rows of q behind one another. -/
def conF (q : Nat) (F : Nat → Nat → Gf.E) (p : Nat) : Gf.E := F (p / q) (p % q)
theorem con_more {q i : Nat} {F : Nat → Nat → Gf.E} : newsB (i * q) (conF q F) ++ newsB q (F i) = newsB ((i + 1) * q) (conF q F) := by
  unfold newsB
  rw [Nat.succ_mul, List.range_add, List.map_append]
  congr 1
  rw [List.map_map]
  refine List.map_congr_left fun j hj => ?_
  rw [List.mem_range] at hj
  show vb _ = vb (conF q F (i * q + j))
  unfold conF
  rw [show i * q + j = j + i * q by omega, Nat.add_mul_div_right _ _ (by omega), Nat.div_eq_of_lt hj, Nat.zero_add, Nat.add_mul_mod_self_right, Nat.mod_eq_of_lt hj]
theorem concatq_step {w wr w4 : World} {v v1 : Value} {i p q : Nat} {F : Nat → Nat → Gf.E} (hp : p = i * q) (hown : wr.ownsRow w.heap.size 5 1 v p (newsB p (conF q F))) (hb : Below w.heap.size w wr) (h : w4.ownsRow w.heap.size 5 1 v1 (p + q) ((newsB p (conF q F)) ++ newsB q (F i))) (hg : wr.grownBy w4 v.ownBlock) :
    w4.ownsRow w.heap.size 5 1 v1 (p + q) (newsB (p + q) (conF q F)) ∧ Below w.heap.size w w4 := by
  subst hp
  refine ⟨?_, hb.grown hg hb.size (own_base hown)⟩
  rw [con_more, Nat.succ_mul] at h
  exact h
set_option maxRecDepth 100000 in
set_option maxHeartbeats 4000000 in
/-- Rows of q bytes, one behind the other. -/
theorem concatq_c (A : Option Addr) (n c q : Nat) (F : Nat → Nat → Gf.E) (w : World) (ha : RdM w A n (fun _ => q) F) (h1 : 1 ≤ n) (hq : 1 ≤ q) (h2 : n * q ≤ 1073741824) :
    Calls Try.prog 39 #[.slice A n c] w fun e w' => ∃ b cap, e = .returned (.slice (some ⟨b, 0, none⟩) (n * q) cap) ∧ n * q ≤ cap ∧ RowAt w' b 5 (n * q) (fun i => vb (conF q F i)) ∧ w.heap.size ≤ b ∧ Below w.heap.size w w' := by
  have HA := Lib.hid ha
  have hn : n ≤ 1073741824 := by
    have : n * 1 ≤ n * q := Nat.mul_le_mul_left _ hq
    omega
  have hq2 : q ≤ 1073741824 := by
    have : 1 * q ≤ n * q := Nat.mul_le_mul_right _ h1
    omega
  have HX := Lib.hid h2
  clear ha h2
  go_enter Try.func39, Try.ntmps39
  go_wp2_with (fail)
  go_loopg [3, 11] n (fun kq v3 v11 wr => ∃ k p : Nat, k + kq = n ∧ Hid (p = k * q) ∧ v11 = .int .i64 (k : Int) ∧ v3 = .int .i64 (p : Int) ∧ Hid (Drew w wr))
  case atStart => exact ⟨0, 0, by omega, Lib.hid (by simp), rfl, rfl, Lib.hid (Drew.refl _)⟩
  case round =>
    obtain ⟨k, p, hk, HP, rfl, rfl, HD⟩ := hrel
    by_cases hlt : k < n
    · obtain ⟨Ar, Cr, hr, hrow⟩ := HA.out.below HD.out.below
      obtain ⟨ad, rfl, hcq⟩ := hr.at_ hlt
      have r0 : (k : Int) < (n : Int) := by omega
      have r00 : (0 : Int) ≤ (k : Int) := by omega
      have r1 : (p : Int) + (q : Int) ≤ 1073741824 := by
        have h3 : (k + 1) * q ≤ n * q := Nat.mul_le_mul_right _ hlt
        have h4 := HX.out
        have h5 := HP.out
        rw [Nat.succ_mul] at h3
        omega
      have r2 : (0 : Int) ≤ (p : Int) := by omega
      have r3 : (0 : Int) ≤ (q : Int) := by omega
      have HP2 : Hid (p + q = (k + 1) * q) := Lib.hid (by rw [Nat.succ_mul, ← HP.out])
      clear hr hrow HP
      go_wp2_with (fail)
      go_roundg (n - (k + 1))
      case measure => omega
      case rel => exact ⟨k + 1, p + q, by omega, HP2, by go_num, by go_num, HD⟩
    · obtain rfl : k = n := by omega
      obtain ⟨nd, rfl⟩ := HD.out
      have p1 : 1 ≤ p := by
        have h3 := Nat.mul_le_mul h1 hq
        have h5 := HP.out
        omega
      have p2 : p ≤ 1073741824 := by
        have h4 := HX.out
        have h5 := HP.out
        omega
      have p3 : (0 : Int) ≤ (p : Int) := by omega
      clear HD
      go_wp2_with (fail)
      refine (grow_q p _ p1 p2).mono ?_
      rintro e w2 ⟨v, rfl, hown, hb⟩
      have HI : Hid (w2.ownsRow w.heap.size 5 1 v 0 (newsB 0 (conF q F)) ∧ Below w.heap.size w w2) := Lib.hid ⟨hown, below_then (below_drewN (Below.refl _ _) nd) (Nat.le_refl _) hb⟩
      clear hown hb
      go_wp2_with (fail)
      go_loopg [6, 27] k (fun kq v6 v27 wq => ∃ i j : Nat, i + kq = k ∧ Hid (j = i * q) ∧ v27 = .int .i64 (i : Int) ∧ Hid (wq.ownsRow w.heap.size 5 1 v6 j (newsB j (conF q F)) ∧ Below w.heap.size w wq))
      case atStart => exact ⟨0, 0, by omega, Lib.hid (by simp), rfl, HI⟩
      case round =>
        clear HI
        obtain ⟨i, j, hi, HJ, rfl, HI⟩ := hrel
        by_cases hlt2 : i < k
        · obtain ⟨Ar, Cr, hr, hrow⟩ := (HA.out.below HI.out.2)
          obtain ⟨ad, rfl, hcq⟩ := hr.at_ hlt2
          have HROW := Lib.hid (show RdB wr (Ar i) q (F i) from (hrow i hlt2).2)
          have r0 : (i : Int) < (k : Int) := by omega
          have r00 : (0 : Int) ≤ (i : Int) := by omega
          have r1 : j + q ≤ 1073741824 := by
            have h3 : (i + 1) * q ≤ k * q := Nat.mul_le_mul_right _ hlt2
            have h4 := HX.out
            have h5 := HJ.out
            rw [Nat.succ_mul] at h3
            omega
          have HJ2 : Hid (j + q = (i + 1) * q) := Lib.hid (by rw [Nat.succ_mul, ← HJ.out])
          clear hr hrow
          go_wp2_with (at_builtin; refine wpList_append_row rfl (.tmp 31) (.tmp 32) rfl w.heap.size _ j (newsB j (conF q F)) rfl HI.out.1 (Ar i) q (Cr i) (F i) rfl HROW.out (by omega) (by omega) HI.out.2.size ?_; intro v1 w4 hown1 hgrow1; have HS := Lib.hid (concatq_step HJ.out HI.out.1 HI.out.2 hown1 hgrow1); clear hown1 hgrow1)
          go_roundg (k - (i + 1))
          case measure => omega
          case rel => exact ⟨i + 1, j + q, by omega, HJ2, by go_num, HS⟩
        · obtain rfl : i = k := by omega
          have ej : j = p := by rw [HJ.out, HP.out]
          subst ej
          obtain ⟨b, cap, hv, hcap, hr, hbb⟩ := RowAt.of_own (f := fun t => vb (conF q F t)) p1 HI.out.1 (fun j hj => newsB_at hj)
          subst hv
          have HR := Lib.hid hr
          have HB := Lib.hid HI.out.2
          clear hr HI
          go_wp2_with (fail)
          go_ret
          exact ⟨b, cap, by rw [← HP.out]; rfl, by rw [← HP.out]; exact hcap, by rw [← HP.out]; exact HR.out, hbb, HB.out⟩
end Go.Proofs.Ytccfnhocjiehnaa
