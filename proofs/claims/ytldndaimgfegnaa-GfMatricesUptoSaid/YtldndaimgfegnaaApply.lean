/- gf's Apply. -/
import Derived.Test.YtldndaimgfegnaaConcat
import Derived.Test.YtldndaimgfegnaaInvC
namespace Go.Proofs.Ytldndaimgfegnaa
open Go.RowKit
set_option linter.unusedVariables false
set_option linter.unusedSimpArgs false

def applyF (F : Mt) (x : Nat → Gf.E) (m : Nat) (i : Nat) : Gf.E := sumE m (fun k => Gf.mul (F i k) (x k))
def applyOk (n vn : Nat) (L : Nat → Nat) : Bool := rightB n L && decide (vn = L 0)

set_option maxRecDepth 100000 in
theorem apply1_c (i j : Nat) (V : Option Addr) (vn vc : Nat) (x : Nat → Gf.E) (g0 : Nat) (w : World) (hi : i < vn) (hn : vn ≤ 255) (hv : RdB w V vn x) (h1 : w.cell? ⟨g0, 0, none⟩ = some (.slice V vn vc)) :
    Calls Try.prog 58 (#[.int .i64 i, .int .i64 j] ++ #[.pointer (some ⟨g0, 0, none⟩)]) w fun e w' => e = .returned (vb (x i)) ∧ Drew w w' := by
  obtain ⟨ad, rfl, hc⟩ := hv.at_ hi
  unfold vb at hc
  have a1 : (i : Int) < (vn : Int) := by omega
  have b1 : (0 : Int) ≤ (i : Int) := by omega
  go_enter Try.func58, Try.ntmps58
  go_wp2
  go_ret
  exact ⟨rfl, by repeat (first | exact Drew.refl _ | apply Drew.step)⟩

set_option maxRecDepth 100000 in
set_option maxHeartbeats 4000000 in
theorem apply_no (A V : Option Addr) (n c vn vc : Nat) (L : Nat → Nat) (F : Mt) (w : World) (ha : RdM w A n L F) (hn : n ≤ 4611686018427387904) (hl : ∀ i, i < n → L i ≤ 4611686018427387904) (hvn : vn ≤ 4611686018427387904) (hf : rightB n L = false ∨ (rightB n L = true ∧ vn ≠ L 0)) :
    Calls Try.prog 34 #[.slice A n c, .slice V vn vc] w fun e w' => e = .returned (.tuple #[.slice none 0 0, .int .i64 1]) ∧ Below w.heap.size w w' := by
  obtain ⟨k1, hb⟩ := box1 w (.slice V vn vc) 56 rfl
  have HB := Lib.hid hb
  have HR := Lib.hid (fun x : Over (w.alloc (.cells #[.slice V vn vc] 56)) => gright_c A n c L F x.w1 ((ha.below hb).below x.h) hn hl)
  have j1 := fun x : Over (w.alloc (.cells #[.slice V vn vc] 56)) => x.cell k1
  rcases hf with hf | ⟨hf, hne⟩
  · rw [hf] at HR
    clear ha hl hf hb k1
    go_enter Try.func34, Try.ntmps34
    go_wp2_with (fail)
    refine wp_region_over _ (by kernel_rfl) (by kernel_rfl) (Below.refl _ _) ?_
    repeat (go_big_quiet_step (first | (go_at_call 27; with_reducible exact Over.call _ (HR.out _))))
    refine wpQuiet_nil ?_
    rintro _ ⟨x, rfl⟩
    go_wp2
    go_ret2
    exact ⟨rfl, below_then HB.out HB.out.size x.h⟩
  · obtain ⟨p1, p2, p3, p4, p5⟩ := rightB_pos hf
    obtain ⟨Ar, Cr, hr, _⟩ := ha.below hb
    obtain ⟨ad, rfl, k3⟩ := hr.at_ (show 0 < n by omega)
    rw [show ad.add 0 = ad by simp [Addr.add]] at k3
    have j3 := fun x : Over (w.alloc (.cells #[.slice V vn vc] 56)) => x.cell k3
    have n1 : (0 : Int) < (n : Int) := by omega
    have n2 : ((vn : Int) != ((L 0 : Nat) : Int)) = true := by rw [bne_iff_ne]; omega
    rw [hf] at HR
    clear ha hl hf hb k1 k3 hr p5 hne
    go_enter Try.func34, Try.ntmps34
    go_wp2_with (fail)
    refine wp_region_over _ (by kernel_rfl) (by kernel_rfl) (Below.refl _ _) ?_
    repeat (go_big_quiet_step (first | (go_at_call 27; with_reducible exact Over.call _ (HR.out _))))
    refine wpQuiet_nil ?_
    rintro _ ⟨x, rfl⟩
    go_wp2
    go_ret2
    exact ⟨rfl, below_then HB.out HB.out.size x.h⟩

set_option maxRecDepth 100000 in
set_option maxHeartbeats 4000000 in
theorem apply_yes (A V : Option Addr) (n c vn vc : Nat) (L : Nat → Nat) (F : Mt) (x : Nat → Gf.E) (w : World) (ha : RdM w A n L F) (hv : RdB w V vn x) (hn : n ≤ 4611686018427387904) (hl : ∀ i, i < n → L i ≤ 4611686018427387904) (hf : rightB n L = true) (heq : vn = L 0) :
    Calls Try.prog 34 #[.slice A n c, .slice V vn vc] w fun e w' => ∃ b cap, e = .returned (.tuple #[.slice (some ⟨b, 0, none⟩) n cap, .int .i64 0]) ∧ n ≤ cap ∧ RowAt w' b 5 n (fun i => vb (applyF F x vn i)) ∧ Below w.heap.size w w' := by
  obtain ⟨k1, hb⟩ := box1 w (.slice V vn vc) 56 rfl
  have HB := Lib.hid hb
  have HR := Lib.hid (fun x : Over (w.alloc (.cells #[.slice V vn vc] 56)) => gright_c A n c L F x.w1 ((ha.below hb).below x.h) hn hl)
  have j1 := fun x : Over (w.alloc (.cells #[.slice V vn vc] 56)) => x.cell k1
  have HV := Lib.hid (RdF.below hv hb)
  obtain ⟨p1, p2, p3, p4, p5⟩ := rightB_pos hf
  have HA := Lib.hid (ha.below hb)
  obtain ⟨Ar, Cr, hr, _⟩ := ha.below hb
  obtain ⟨ad, rfl, k3⟩ := hr.at_ (show 0 < n by omega)
  rw [show ad.add 0 = ad by simp [Addr.add]] at k3
  have j3 := fun x : Over (w.alloc (.cells #[.slice V vn vc] 56)) => x.cell k3
  have n1 : (0 : Int) < (n : Int) := by omega
  have n2 : ((vn : Int) != ((L 0 : Nat) : Int)) = false := by rw [bne_eq_false_iff_eq]; omega
  have HF := Lib.hid hf
  have HE := Lib.hid heq
  have HL := Lib.hid hl
  have v1 : 1 ≤ vn := by omega
  have v2 : vn ≤ 255 := by omega
  rw [hf] at HR
  clear ha hl hf hb k1 k3 hr p5 heq hv
  go_enter Try.func34, Try.ntmps34
  go_wp2_with (fail)
  refine wp_region_over _ (by kernel_rfl) (by kernel_rfl) (Below.refl _ _) ?_
  repeat (go_big_quiet_step (first | (go_at_call 27; with_reducible exact Over.call _ (HR.out _))))
  refine wpQuiet_nil ?_
  rintro _ ⟨y, rfl⟩
  have i1 := j1 y
  obtain ⟨w1, hx⟩ := y
  replace hx := Lib.hid hx
  simp only at i1
  clear j1 j3 HR
  go_wp2_with (fail)
  refine (made_new 58 (fun _ _ => rfl) #[.pointer (some ⟨w.heap.size, 0, none⟩)] (fun i _ => x i) vn 1 w1 (by omega) (by omega) (fun i j w' hi hj hbw => apply1_c i j V vn vc x w.heap.size w' hi (by omega) ((RdF.below (RdF.below HV.out hx.out) hbw)) (cell_below hbw i1))).mono ?_
  rintro e w2 ⟨v, rfl, g2, c2, bs2, rfl, hc2, hM2⟩
  replace hM2 := Lib.hid hM2
  go_wp2_with (fail)
  refine (times_yes (some ad) (some ⟨g2, 0, none⟩) n c vn c2 L (fun _ => 1) F (fun i _ => x i) w2 ((HA.out.below hx.out).below hM2.out.2.2.2.2) hM2.out.1.rd hn HL.out (by omega) (fun _ _ => by omega) HF.out (decide_eq_true ⟨v1, v2, Nat.le_refl 1, show 1 ≤ 255 by omega, fun _ _ => rfl⟩) HE.out.symm).mono ?_
  rintro e w3 ⟨v, rfl, g3, c3, bs3, rfl, hc3, hM3⟩
  replace hM3 := Lib.hid hM3
  go_wp2_with (fail)
  refine (concat1_c (some ⟨g3, 0, none⟩) n c3 (timesF F (fun i _ => x i) vn) w3 hM3.out.1.rd p1 p2).mono ?_
  rintro e w4 ⟨b, cap, rfl, hcap, hr, hb4⟩
  replace hr := Lib.hid hr
  replace hb4 := Lib.hid hb4
  go_wp2_with (fail)
  go_ret2
  have b1 := below_then HB.out HB.out.size hx.out
  have b2 := below_then b1 b1.size hM2.out.2.2.2.2
  have b3 := below_then b2 b2.size hM3.out.2.2.2.2
  exact ⟨b, cap, rfl, hcap, hr.out, below_then b3 b3.size hb4.out⟩
end Go.Proofs.Ytldndaimgfegnaa
