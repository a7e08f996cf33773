/- The reference's Apply. -/
import Derived.Test.YtldndaimgfegnaaRefTimes
import Derived.Test.YtldndaimgfegnaaApply
namespace Go.Proofs.Ytldndaimgfegnaa
open Go.RowKit
set_option linter.unusedVariables false
set_option linter.unusedSimpArgs false

def applySt (F : Mt) (x : Nat → Gf.E) (m i k : Nat) : Nat → Gf.E := fun p => if p < i then applyF F x m p else if p = i then sumE k (fun t => Gf.mul (F p t) (x t)) else 0
theorem applySt_at (F : Mt) (x : Nat → Gf.E) (m i k : Nat) : applySt F x m i k i = sumE k (fun t => Gf.mul (F i t) (x t)) := by
  unfold applySt
  rw [if_neg (Nat.lt_irrefl i), if_pos rfl]
theorem applySt_step (F : Mt) (x : Nat → Gf.E) (m i k p : Nat) : (if p = i then vb (Gf.add (sumE k (fun t => Gf.mul (F i t) (x t))) (Gf.mul (F i k) (x k))) else vb (applySt F x m i k p)) = vb (applySt F x m i (k + 1) p) := by
  by_cases e : p = i
  · rw [if_pos e, e, applySt_at]; rfl
  · rw [if_neg e]
    unfold applySt
    rw [if_neg e, if_neg e]
theorem applySt_row (F : Mt) (x : Nat → Gf.E) (m i p : Nat) : applySt F x m i m p = applySt F x m (i + 1) 0 p := by
  unfold applySt
  by_cases e : p < i
  · rw [if_pos e, if_pos (by omega)]
  · rw [if_neg e]
    by_cases e2 : p = i
    · rw [if_pos e2, if_pos (by omega)]; rfl
    · rw [if_neg e2, if_neg (by omega)]
      split <;> rfl

set_option maxRecDepth 100000 in
set_option maxHeartbeats 4000000 in
theorem rapply_no (A V : Option Addr) (n c vn vc : Nat) (L : Nat → Nat) (F : Mt) (w : World) (ha : RdM w A n L F) (hn : n ≤ 4611686018427387904) (hl : ∀ i, i < n → L i ≤ 4611686018427387904) (hf : rightB n L = false ∨ (rightB n L = true ∧ vn ≠ L 0)) :
    Calls Try.prog 36 #[.slice A n c, .slice V vn vc] w fun e w' => e = .returned (.tuple #[.slice none 0 0, .int .i64 1]) ∧ Below w.heap.size w w' := by
  have HR1 := Lib.hid (rright_c A n c L F w ha hn hl)
  rcases hf with hf | ⟨hf, hne⟩
  · rw [hf] at HR1
    clear ha hl hf
    go_enter Try.func36, Try.ntmps36
    go_wp2_with (first | (go_at_call 28; with_reducible refine HR1.out.mono ?_; rintro e w' ⟨rfl, hd⟩; obtain ⟨q, rfl⟩ := hd))
    go_ret2
    exact ⟨rfl, below_drewN (Below.refl _ _) _⟩
  · obtain ⟨Ar, Cr, hr, _⟩ := ha
    obtain ⟨p1, _⟩ := rightB_pos hf
    obtain ⟨ad, rfl, k3⟩ := hr.at_ (show 0 < n by omega)
    rw [show ad.add 0 = ad by simp [Addr.add]] at k3
    have n1 : (0 : Int) < (n : Int) := by omega
    have n2 : ((vn : Int) != ((L 0 : Nat) : Int)) = true := by rw [bne_iff_ne]; omega
    rw [hf] at HR1
    clear hr hl hf hne
    go_enter Try.func36, Try.ntmps36
    go_wp2_with (first | (go_at_call 28; with_reducible refine HR1.out.mono ?_; rintro e w' ⟨rfl, hd⟩; obtain ⟨q, rfl⟩ := hd))
    go_ret2
    exact ⟨rfl, below_drewN (Below.refl _ _) _⟩

set_option maxRecDepth 100000 in
set_option maxHeartbeats 8000000 in
theorem rapply_yes (A V : Option Addr) (n c vn vc : Nat) (L : Nat → Nat) (F : Mt) (x : Nat → Gf.E) (w : World) (ha : RdM w A n L F) (hv : RdB w V vn x) (hn : n ≤ 4611686018427387904) (hl : ∀ i, i < n → L i ≤ 4611686018427387904) (hf : rightB n L = true) (heq : vn = L 0) :
    Calls Try.prog 36 #[.slice A n c, .slice V vn vc] w fun e w' => ∃ b cap, e = .returned (.tuple #[.slice (some ⟨b, 0, none⟩) n cap, .int .i64 0]) ∧ RowAt w' b 5 n (fun i => vb (applyF F x vn i)) ∧ Below w.heap.size w w' := by
  have HA := Lib.hid ha
  have HV := Lib.hid hv
  have HR1 := Lib.hid (rright_c A n c L F w ha hn hl)
  rw [hf] at HR1
  obtain ⟨p1, p2, p3, p4, p5⟩ := rightB_pos hf
  have P5 := Lib.hid p5
  have HE := Lib.hid heq
  obtain ⟨Ar, Cr, hr, _⟩ := ha
  obtain ⟨ad, rfl, k3⟩ := hr.at_ (show 0 < n by omega)
  rw [show ad.add 0 = ad by simp [Addr.add]] at k3
  have n1 : (0 : Int) < (n : Int) := by omega
  have n2 : ((vn : Int) != ((L 0 : Nat) : Int)) = false := by rw [bne_eq_false_iff_eq]; omega
  have v2 : vn ≤ 255 := by omega
  have hmk := run_make_row' (P := Try.prog) 56 5 (.int .u8 0) 1 Try.underlying56 info5 rfl .i64 .i64 n (by omega) (by omega)
  clear hr hl hf heq p5 hv
  go_enter Try.func36, Try.ntmps36
  go_wp2_with (first | (go_at_call 28; with_reducible refine HR1.out.mono ?_; rintro e w' ⟨rfl, hd⟩; obtain ⟨q, rfl⟩ := hd))
  have HI : ∀ o, Hid (RowAt ((w.drewN q).alloc (.cells (madeCells #[.int .u8 0] n) 5)) w.heap.size 5 n (fun p => vb (applySt F x vn 0 0 p)) ∧ Below w.heap.size w ((w.drewN q).alloc (.cells (madeCells #[.int .u8 0] n) o))) := fun o => by
    refine Lib.hid ⟨(RowAt.of_is (World.rowIs_made (w.drewN q) (.int .u8 0) n 5)).congr (fun i hi => ?_), (below_drewN (Below.refl _ _) q).alloc (Nat.le_refl _) _⟩
    show Value.int .u8 0 = vb (applySt F x vn 0 0 i)
    unfold applySt
    rw [if_neg (Nat.not_lt_zero _)]
    split <;> rfl
  clear hmk k3 HR1
  go_loopg [7] n (fun kq v7 wr => ∃ i : Nat, i + kq = n ∧ v7 = .int .i64 (i : Int) ∧ Hid (RowAt wr w.heap.size 5 n (fun p => vb (applySt F x vn i 0 p)) ∧ Below w.heap.size w wr))
  case atStart => exact ⟨0, by omega, rfl, HI _⟩
  case round =>
    clear HI
    obtain ⟨i, hi, rfl, HI⟩ := hrel
    by_cases hlt : i < n
    · have i1 : (i : Int) < (n : Int) := by omega
      have i0 : (0 : Int) ≤ (i : Int) := by omega
      go_wp2_with (fail)
      go_loopg [8] vn (fun kq v8 wr => ∃ k : Nat, k + kq = vn ∧ v8 = .int .i64 (k : Int) ∧ Hid (RowAt wr w.heap.size 5 n (fun p => vb (applySt F x vn i k p)) ∧ Below w.heap.size w wr))
      case atStart => exact ⟨0, by omega, rfl, HI⟩
      case round =>
        clear HI
        obtain ⟨k, hk, rfl, HI⟩ := hrel
        rename_i wr1
        by_cases hlk : k < vn
        · have f2 := HI.out.1.cell hlt
          have fz := HI.out.1.frozen i
          rw [applySt_at] at f2
          obtain ⟨Ax, Cx, hx1, hx2⟩ := HA.out.below HI.out.2
          obtain ⟨ax, hax, f3⟩ := hx1.at_ hlt
          injection hax with hax
          subst hax
          have hy := (hx2 i hlt).2
          rw [show L i = vn by rw [P5.out i hlt, HE.out]] at f3 hy
          obtain ⟨ai, hai, f4⟩ := hy.at_ hlk
          rw [hai] at f3
          obtain ⟨vd, rfl, f6⟩ := (RdF.below HV.out HI.out.2).at_ hlk
          unfold vb at f2 f4 f6
          have k1 : (k : Int) < (vn : Int) := by omega
          have k0 : (0 : Int) ≤ (k : Int) := by omega
          obtain ⟨s0, hs0⟩ : ∃ s, s = sumE k (fun t => Gf.mul (F i t) (x t)) := ⟨_, rfl⟩
          rw [← hs0] at f2
          have e3 := u8_xor_nat s0.val (Gf.mul (F i k) (x k)).val s0.isLt (Gf.mul (F i k) (x k)).isLt
          have HS : Hid (RowAt ((wr.drewN 1).setCell ⟨w.heap.size, i, none⟩ (.int .u8 ((Gf.add s0 (Gf.mul (F i k) (x k))).val : Int))) w.heap.size 5 n (fun p => vb (applySt F x vn i (k + 1) p)) ∧ Below w.heap.size w ((wr.drewN 1).setCell ⟨w.heap.size, i, none⟩ (.int .u8 ((Gf.add s0 (Gf.mul (F i k) (x k))).val : Int)))) :=
            Lib.hid ⟨((HI.out.1.drewN 1).set i (vb (Gf.add s0 (Gf.mul (F i k) (x k))))).congr (fun p _ => by rw [hs0]; exact applySt_step F x vn i k p), (below_drewN HI.out.2 1).setCell (Nat.le_refl _) _⟩
          clear hx1 hx2 hy hai HI hs0
          go_wp2_with (fail)
          refine wp_region_still_tail 20 (by kernel_rfl) (by kernel_rfl) ?_
          simp only [List.take_succ_cons, List.take_zero, List.drop_succ_cons, List.drop_zero]
          repeat (first | still_step | still_call ((rmul_v _ _ _).mono fun _ _ h => ⟨h.1, h.2.symm⟩))
          refine wpStill_nil ?_
          change wpList _ _ _ _ _ wr.drew
          go_wp2_with (fail)
          go_roundg (vn - (k + 1))
          case measure => omega
          case rel => exact ⟨k + 1, by omega, by go_num, HS⟩
        · obtain rfl : k = vn := by omega
          have HS := Lib.hid (And.intro (HI.out.1.congr (fun p _ => congrArg vb (applySt_row F x k i p))) HI.out.2)
          clear HI
          go_wp2_with (fail)
          go_roundg (n - (i + 1))
          case measure => omega
          case rel => exact ⟨i + 1, by omega, by go_num, HS⟩
    · obtain rfl : i = n := by omega
      have HN := Lib.hid (And.intro (HI.out.1.congr (g := fun p => vb (applyF F x vn p)) (fun p hp => by unfold applySt; rw [if_pos hp])) HI.out.2)
      clear HI
      go_wp2_with (fail)
      go_ret2
      exact ⟨_, _, rfl, HN.out.1, HN.out.2⟩
end Go.Proofs.Ytldndaimgfegnaa
