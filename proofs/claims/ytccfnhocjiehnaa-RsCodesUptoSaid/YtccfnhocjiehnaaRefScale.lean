/- The reference's scale and mix; its Inverse's two matrices. -/
import Derived.Test.YtccfnhocjiehnaaRefRows
import Derived.Test.YtccfnhocjiehnaaRefTimes
import Derived.Test.YtccfnhocjiehnaaGj
import Derived.BigRegion
namespace Go.Proofs.Ytccfnhocjiehnaa
open Go.RowKit
set_option linter.unusedVariables false
set_option linter.unusedSimpArgs false

set_option maxRecDepth 100000 in
set_option maxHeartbeats 1000000 in
theorem rscale_c (b m c : Nat) (f : Nat → Gf.E) (x : Gf.E) (w : World) (hr : RowAt w b 5 m (fun j => vb (f j))) (hm : m ≤ 255) :
    Calls Try.prog 76 #[.slice (some ⟨b, 0, none⟩) m c, vb x] w fun e w' => e = .returned (.tuple #[]) ∧ RowAt w' b 5 m (fun j => vb (Gf.mul (f j) x)) ∧ Chg (· = b) w w' := by
  have HI : Hid (RowAt w b 5 m (fun j => vb (if j < 0 then Gf.mul (f j) x else f j)) ∧ Chg (· = b) w w) := Lib.hid ⟨hr, Chg.refl _ _⟩
  clear hr
  go_enter Try.func76, Try.ntmps76
  go_wp2
  go_loopg [4] m (fun kq v4 wr => ∃ k : Nat, k + kq = m ∧ v4 = .int .i64 (k : Int) ∧ Hid (RowAt wr b 5 m (fun j => vb (if j < k then Gf.mul (f j) x else f j)) ∧ Chg (· = b) w wr))
  case atStart => exact ⟨0, by omega, rfl, HI⟩
  case round =>
    clear HI
    obtain ⟨k, hk, rfl, HI⟩ := hrel
    by_cases hlt : k < m
    · have hc := HI.out.1.cell hlt
      simp only [Nat.lt_irrefl, if_false] at hc
      unfold vb at hc
      have hf := HI.out.1.frozen k
      have hk1 : (k : Int) < (m : Int) := by omega
      have hk0 : (0 : Int) ≤ (k : Int) := by omega
      have HS : ∀ q, Hid (RowAt ((wr.drewN q).setCell ⟨b, k, none⟩ (.int .u8 ((Gf.mul (f k) x).val : Int))) b 5 m (fun j => vb (if j < k + 1 then Gf.mul (f j) x else f j)) ∧ Chg (· = b) w ((wr.drewN q).setCell ⟨b, k, none⟩ (.int .u8 ((Gf.mul (f k) x).val : Int)))) := fun q => by
        refine Lib.hid ⟨((HI.out.1.drewN q).set k (vb (Gf.mul (f k) x))).congr (fun i hi => ?_), (HI.out.2.drewN q).set rfl _⟩
        by_cases e : i = k
        · subst e; simp
        · simp only [e, if_false]
          by_cases h1 : i < k
          · simp [h1, show i < k + 1 by omega]
          · simp [h1, show ¬ i < k + 1 by omega]
      clear HI
      go_wp2_with (first | (go_at_call 56; ((with_reducible refine (rmul_v _ _ _).mono ?_)); rintro e w' ⟨rfl, rfl⟩))
      go_roundg (m - (k + 1))
      case measure => omega
      case rel => exact ⟨k + 1, by omega, by go_num, HS 0⟩
    · obtain rfl : k = m := by omega
      go_wp2
      go_end0
      exact ⟨rfl, HI.out.1.congr (fun i hi => by simp [hi]), HI.out.2⟩

set_option maxRecDepth 100000 in
set_option maxHeartbeats 1000000 in
theorem rmix_c (b b2 m c c2 : Nat) (f g : Nat → Gf.E) (x : Gf.E) (w : World) (hr : RowAt w b 5 m (fun j => vb (f j))) (hr2 : RowAt w b2 5 m (fun j => vb (g j))) (hne : b ≠ b2) (hm : m ≤ 255) :
    Calls Try.prog 77 #[.slice (some ⟨b, 0, none⟩) m c, .slice (some ⟨b2, 0, none⟩) m c2, vb x] w fun e w' => e = .returned (.tuple #[]) ∧ RowAt w' b 5 m (fun j => vb (Gf.add (f j) (Gf.mul (g j) x))) ∧ Chg (· = b) w w' := by
  have HI : Hid (RowAt w b 5 m (fun j => vb (if j < 0 then Gf.add (f j) (Gf.mul (g j) x) else f j)) ∧ RowAt w b2 5 m (fun j => vb (g j)) ∧ Chg (· = b) w w) := Lib.hid ⟨hr, hr2, Chg.refl _ _⟩
  clear hr hr2
  go_enter Try.func77, Try.ntmps77
  go_wp2
  go_loopg [6] m (fun kq v6 wr => ∃ k : Nat, k + kq = m ∧ v6 = .int .i64 (k : Int) ∧ Hid (RowAt wr b 5 m (fun j => vb (if j < k then Gf.add (f j) (Gf.mul (g j) x) else f j)) ∧ RowAt wr b2 5 m (fun j => vb (g j)) ∧ Chg (· = b) w wr))
  case atStart => exact ⟨0, by omega, rfl, HI⟩
  case round =>
    clear HI
    obtain ⟨k, hk, rfl, HI⟩ := hrel
    by_cases hlt : k < m
    · have hc := HI.out.1.cell hlt
      simp only [Nat.lt_irrefl, if_false] at hc
      have hc2 := HI.out.2.1.cell hlt
      unfold vb at hc hc2
      have hf := HI.out.1.frozen k
      have hk1 : (k : Int) < (m : Int) := by omega
      have hk0 : (0 : Int) ≤ (k : Int) := by omega
      have HS : ∀ q, Hid (RowAt ((wr.drewN q).setCell ⟨b, k, none⟩ (.int .u8 ((Gf.add (f k) (Gf.mul (g k) x)).val : Int))) b 5 m (fun j => vb (if j < k + 1 then Gf.add (f j) (Gf.mul (g j) x) else f j)) ∧ RowAt ((wr.drewN q).setCell ⟨b, k, none⟩ (.int .u8 ((Gf.add (f k) (Gf.mul (g k) x)).val : Int))) b2 5 m (fun j => vb (g j)) ∧ Chg (· = b) w ((wr.drewN q).setCell ⟨b, k, none⟩ (.int .u8 ((Gf.add (f k) (Gf.mul (g k) x)).val : Int)))) := fun q => by
        refine Lib.hid ⟨((HI.out.1.drewN q).set k (vb (Gf.add (f k) (Gf.mul (g k) x)))).congr (fun i hi => ?_), (HI.out.2.1.drewN q).setOther (fun e => hne e.symm) _, (HI.out.2.2.drewN q).set rfl _⟩
        by_cases e : i = k
        · subst e; simp
        · simp only [e, if_false]
          by_cases h1 : i < k
          · simp [h1, show i < k + 1 by omega]
          · simp [h1, show ¬ i < k + 1 by omega]
      have e3 := u8_xor_nat (f k).val (Gf.mul (g k) x).val (f k).isLt (Gf.mul (g k) x).isLt
      clear HI
      go_wp2
      refine wp_region_still_tail 14 (by kernel_rfl) (by kernel_rfl) ?_
      simp only [List.take_succ_cons, List.take_zero, List.drop_succ_cons, List.drop_zero]
      repeat (first | still_step | still_call ((rmul_v _ _ _).mono fun _ _ h => ⟨h.1, h.2.symm⟩))
      refine wpStill_nil ?_
      change wpList _ _ _ _ _ wr.drew
      go_wp2
      go_roundg (m - (k + 1))
      case measure => omega
      case rel => exact ⟨k + 1, by omega, by go_num, HS 1⟩
    · obtain rfl : k = m := by omega
      go_wp2
      go_end0
      exact ⟨rfl, HI.out.1.congr (fun i hi => by simp [hi]), HI.out.2.2⟩
end Go.Proofs.Ytccfnhocjiehnaa
