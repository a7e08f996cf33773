/- slices.Grow of nil, slices.Concat of rows of one byte each. -/
import Derived.Test.YtldndaimgfegnaaCopy
import Derived.Lib.Walk
import Derived.Lib.SliceRun
import Derived.Lib.AppendZerosOnto
namespace Go.Proofs.Ytldndaimgfegnaa
open Go.RowKit
set_option linter.unusedVariables false
set_option linter.unusedSimpArgs false

set_option maxRecDepth 100000 in
set_option maxHeartbeats 2000000 in
theorem grow_c (n : Nat) (w : World) (h1 : 1 ≤ n) (h2 : n ≤ 255) : Calls Try.prog 63 #[.slice none 0 0, .int .i64 n] w fun e w' => ∃ v, e = .returned v ∧ w'.ownsRow w.heap.size 5 1 v 0 [] ∧ Below w.heap.size w w' := by
  obtain ⟨i5, hi, hz0, hz1, hz2⟩ := info_parts info5
  have hrz : ∀ ty, (Builtin.append_ #[56, 3] ty #[.slice none 0 0, .int .i64 (n : Int)]).run Try.prog w = .ok (.slice (some ⟨w.heap.size, 0, none⟩) n (grownCap w n 0 5)) (w.drew.alloc (.cells (#[] ++ Builtin.zeroCells (Value.int .u8 0).cells n ++ Builtin.zeroCells (Value.int .u8 0).cells (grownCap w n 0 5 - n)) 5)) := fun ty => by
    have h := Lib.run_append_grow_zeros w 56 3 ty 5 i5 (.int .u8 0) .i64 .i64 Try.underlying56 Try.underlying3 hi hz0 none 0 0 [] (run_firstCells_none w.drew i5.size 0 0 0) n (by omega) (by omega) (by omega) (by omega) (by rw [hz2]; omega)
      (by rw [hz2]; exact growslice_fits (by omega) (by omega))
    simp only [Nat.zero_add] at h
    exact h
  have hGn : n ≤ grownCap w n 0 5 := grownCap_ge w _ _ _
  have hGm := grownCap_le_maxLen w n 0 5 (by unfold maxLen; omega)
  obtain ⟨G, hG⟩ : ∃ G, G = grownCap w n 0 5 := ⟨_, rfl⟩
  rw [← hG] at hrz hGn hGm
  have hG63 : G ≤ 9223372036854775807 := by unfold maxLen at hGm; omega
  clear hG
  have HM := Lib.hid hGm
  have n1 : (0 : Int) < (n : Int) := by omega
  clear hGm
  go_enter Try.func63, Try.ntmps63
  go_wp2_with (at_builtin; refine Lib.wpList_append_run _ rfl _ _ _ _ rfl _ _ rfl rfl _ _ (hrz _) ?_)
  go_ret
  refine ⟨_, rfl, ⟨rfl, .inr ⟨w.heap.size, G, _, rfl, Nat.le_refl _, heap_alloc_new w.drew _, Nat.zero_le _, HM.out, ?_, rfl⟩⟩, ((Below.refl _ _).drew).alloc (Nat.le_refl _) _⟩
  simp [Builtin.zeroCells]
  omega

theorem concat_step {w wr w4 : World} {v v1 : Value} {i : Nat} {F : Nat → Nat → Gf.E} (hown : wr.ownsRow w.heap.size 5 1 v i (newsB i fun i => F i 0)) (hb : Below w.heap.size w wr) (h : w4.ownsRow w.heap.size 5 1 v1 (i + 1) ((newsB i fun i => F i 0) ++ newsB 1 (F i))) (hg : wr.grownBy w4 v.ownBlock) :
    w4.ownsRow w.heap.size 5 1 v1 (i + 1) (newsB (i + 1) fun i => F i 0) ∧ Below w.heap.size w w4 := by
  refine ⟨?_, hb.grown hg hb.size (own_base hown)⟩
  have e : newsB (i + 1) (fun i => F i 0) = (newsB i fun i => F i 0) ++ newsB 1 (F i) := by
    unfold newsB
    rw [List.range_succ, List.map_append]
    rfl
  rw [e]; exact h
set_option maxRecDepth 100000 in
set_option maxHeartbeats 4000000 in
/-- Rows of one byte, one behind the other. -/
theorem concat1_c (A : Option Addr) (n c : Nat) (F : Nat → Nat → Gf.E) (w : World) (ha : RdM w A n (fun _ => 1) F) (h1 : 1 ≤ n) (h2 : n ≤ 255) :
    Calls Try.prog 59 #[.slice A n c] w fun e w' => ∃ b cap, e = .returned (.slice (some ⟨b, 0, none⟩) n cap) ∧ n ≤ cap ∧ RowAt w' b 5 n (fun i => vb (F i 0)) ∧ Below w.heap.size w w' := by
  have HA := Lib.hid ha
  clear ha
  go_enter Try.func59, Try.ntmps59
  go_wp2_with (fail)
  go_loopg [3, 11] n (fun kq v3 v11 wr => ∃ k : Nat, k + kq = n ∧ v11 = .int .i64 (k : Int) ∧ v3 = .int .i64 (k : Int) ∧ Hid (Drew w wr))
  case atStart => exact ⟨0, by omega, rfl, rfl, Lib.hid (Drew.refl _)⟩
  case round =>
    obtain ⟨k, hk, rfl, rfl, HD⟩ := hrel
    by_cases hlt : k < n
    · obtain ⟨Ar, Cr, hr, hrow⟩ := HA.out.below HD.out.below
      obtain ⟨ad, rfl, hcq⟩ := hr.at_ hlt
      have r0 : (k : Int) < (n : Int) := by omega
      have r00 : (0 : Int) ≤ (k : Int) := by omega
      clear hr hrow
      go_wp2_with (fail)
      go_roundg (n - (k + 1))
      case measure => omega
      case rel => exact ⟨k + 1, by omega, by go_num, by go_num, HD⟩
    · obtain rfl : k = n := by omega
      obtain ⟨q, rfl⟩ := HD.out
      clear HD
      go_wp2_with (fail)
      refine (grow_c k _ h1 h2).mono ?_
      rintro e w2 ⟨v, rfl, hown, hb⟩
      have HI := Lib.hid (show w2.ownsRow w.heap.size 5 1 v 0 (newsB 0 (fun i => F i 0)) ∧ Below w.heap.size w w2 from ⟨hown, below_then (below_drewN (Below.refl _ _) q) (Nat.le_refl _) hb⟩)
      clear hown hb
      go_wp2_with (fail)
      go_loopg [6, 27] k (fun kq v6 v27 wq => ∃ i : Nat, i + kq = k ∧ v27 = .int .i64 (i : Int) ∧ Hid (wq.ownsRow w.heap.size 5 1 v6 i (newsB i (fun i => F i 0)) ∧ Below w.heap.size w wq))
      case atStart => exact ⟨0, by omega, rfl, HI⟩
      case round =>
        clear HI
        obtain ⟨i, hi, rfl, HI⟩ := hrel
        by_cases hlt2 : i < k
        · obtain ⟨Ar, Cr, hr, hrow⟩ := (HA.out.below HI.out.2)
          obtain ⟨ad, rfl, hcq⟩ := hr.at_ hlt2
          have HROW := Lib.hid (show RdB wr (Ar i) 1 (F i) from (hrow i hlt2).2)
          have r0 : (i : Int) < (k : Int) := by omega
          have r00 : (0 : Int) ≤ (i : Int) := by omega
          clear hr hrow
          go_wp2_with (at_builtin; refine wpList_append_row rfl (.tmp 31) (.tmp 32) rfl w.heap.size _ i (newsB i fun i => F i 0) rfl HI.out.1 (Ar i) 1 (Cr i) (F i) rfl HROW.out (by omega) (by omega) HI.out.2.size ?_; intro v1 w4 hown1 hgrow1; have HS := Lib.hid (concat_step HI.out.1 HI.out.2 hown1 hgrow1); clear hown1 hgrow1)
          go_roundg (k - (i + 1))
          case measure => omega
          case rel => exact ⟨i + 1, by omega, by go_num, HS⟩
        · obtain rfl : i = k := by omega
          obtain ⟨b, cap, hv, hcap, hr, _⟩ := RowAt.of_own (f := fun j => vb (F j 0)) h1 HI.out.1 (fun j hj => newsB_at hj)
          subst hv
          have HR := Lib.hid hr
          have HB := Lib.hid HI.out.2
          clear hr HI
          go_wp2_with (fail)
          go_ret
          exact ⟨b, cap, rfl, hcap, HR.out, HB.out⟩
end Go.Proofs.Ytldndaimgfegnaa
