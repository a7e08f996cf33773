/- known: the chapter's examples hold. -/
import Derived.Test.YtldndaimgfegnaaShape
namespace Go.Proofs.Ytldndaimgfegnaa
open Go.RowKit
set_option linter.unusedVariables false
set_option linter.unusedSimpArgs false

theorem known_div (w : World) : Calls Try.prog 12 #[.int .u8 1, .int .u8 2] w fun e w' => e = .returned (.tuple #[.int .u8 142, .int .i64 0]) ∧ w = w' := by
  have h := div_c 1 2 w
  have e1 : vb (divE 1 2) = .int .u8 142 := by unfold vb; rw [show divE 1 2 = 142 from by decide +kernel]; rfl
  have e2 : divX 2 = 0 := by decide +kernel
  rw [e1, e2] at h
  exact h
theorem known_log (w : World) : Calls Try.prog 16 #[.int .u8 1] w fun e w' => e = .returned (.tuple #[.int .i64 0, .int .i64 0]) ∧ w = w' := by
  have h := log_c 1 w
  have e1 : logI 1 = 0 := by decide +kernel
  have e2 : logX 1 = 0 := by decide +kernel
  rw [e1, e2] at h
  exact h
theorem known_mul (w : World) : Calls Try.prog 19 #[.int .u8 128, .int .u8 2] w fun e w' => e = .returned (.int .u8 29) ∧ w = w' := by
  have h := mul_c 128 2 w
  have e1 : vb (Gf.mul 128 2) = .int .u8 29 := by unfold vb; rw [show Gf.mul 128 2 = 29 from by decide +kernel]; rfl
  rw [e1] at h
  exact h
theorem known_cauchy (w : World) : Calls Try.prog 25 #[.int .i64 1, .int .i64 2] w fun e w' => ∃ g b c1 c2 : Nat, e = .returned (.tuple #[.slice (some ⟨g, 0, none⟩) 1 c1, .int .i64 0]) ∧
    w'.cell? ⟨g, 0, none⟩ = some (.slice (some ⟨b, 0, none⟩) 2 c2) ∧ w'.cell? ⟨b, 0, none⟩ = some (.int .u8 142) ∧ w'.cell? ⟨b, 1, none⟩ = some (.int .u8 244) ∧ Below w.heap.size w w' := by
  refine (cauchy_yes 1 2 w (by omega) (by omega) (by omega)).mono ?_
  rintro e w' ⟨v, rfl, g, cap, bs, rfl, _, ⟨cs, h1, h2⟩, _, _, _, hb⟩
  have e1 : vb (cauE 2 0 0) = .int .u8 142 := by unfold vb; rw [show cauE 2 0 0 = 142 from by decide +kernel]; rfl
  have e2 : vb (cauE 2 0 1) = .int .u8 244 := by unfold vb; rw [show cauE 2 0 1 = 244 from by decide +kernel]; rfl
  refine ⟨g, bs 0, cap, cs 0, rfl, h1.cell (by omega), ?_, ?_, hb⟩
  · rw [(h2 0 (by omega)).2.cell (by omega), e1]
  · rw [(h2 0 (by omega)).2.cell (by omega), e2]

set_option maxHeartbeats 1000000 in
theorem known_c (w : World) : Calls Try.prog 11 #[] w fun e w' => e = .returned (.bool true) ∧ Below w.heap.size w w' := by
  go_enter Try.func11, Try.ntmps11
  go_wp2_with (first | (go_at_call 12; refine (known_div _).mono ?_; rintro e w' ⟨rfl, rfl⟩) | (go_at_call 16; refine (known_log _).mono ?_; rintro e w' ⟨rfl, rfl⟩) | (go_at_call 19; refine (known_mul _).mono ?_; rintro e w' ⟨rfl, rfl⟩) | (go_at_call 25; refine (known_cauchy _).mono ?_; rintro e w' ⟨g, b, c1, c2, rfl, k1, k2, k3, hb⟩; replace hb := Lib.hid hb))
  go_ret
  exact ⟨rfl, hb.out⟩
end Go.Proofs.Ytldndaimgfegnaa
