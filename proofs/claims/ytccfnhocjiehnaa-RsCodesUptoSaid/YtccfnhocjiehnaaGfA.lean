/- gf's functions of elements: what each one answers. -/
import Derived.Test.YtccfnhocjiehnaaMem
namespace Go.Proofs.Ytccfnhocjiehnaa
open Go.RowKit
set_option linter.unusedVariables false
set_option linter.unusedSimpArgs false

theorem and_one {b : Nat} (hb : b < 256) : Go.bits .and .u8 (b : Int) 1 = ((b % 2 : Nat) : Int) := by
  have h := u8_and_nat b 1 hb (by decide)
  rw [Nat.and_one_is_mod] at h
  exact h

theorem add_c (a b : Gf.E) (w : World) : Calls Try.prog 49 #[vb a, vb b] w fun e w' => e = .returned (vb (Gf.add a b)) ∧ w = w' := by
  have h := u8_xor_nat a.val b.val a.isLt b.isLt
  unfold vb
  go_enter Try.func49, Try.ntmps49
  go_wp2
  go_ret
  exact ⟨rfl, rfl⟩

def MulR (a b : Gf.E) (k a' b' o' : Nat) : Prop := a' < 256 ∧ b' < 256 ∧ o' < 256 ∧ Gf.mulN (8 - k) a' b' o' = (Gf.mul a b).val
theorem MulR.step {a b : Gf.E} {k a' b' o' : Nat} (h : MulR a b k a' b' o') (hk : k < 8) : MulR a b (k + 1) (Gf.xtN a') (b' / 2) (if b' % 2 = 1 then o' ^^^ a' else o') := by
  obtain ⟨h1, h2, h3, h4⟩ := h
  refine ⟨Gf.xtN_lt _, by omega, ?_, ?_⟩
  · split
    · exact Gf.xor_lt h3 h1
    · exact h3
  · rw [← h4, show 8 - k = (8 - (k + 1)) + 1 from by omega]
    rfl

set_option maxHeartbeats 1000000 in
theorem mul_c (a b : Gf.E) (w : World) : Calls Try.prog 61 #[vb a, vb b] w fun e w' => e = .returned (vb (Gf.mul a b)) ∧ w = w' := by
  have HI := Lib.hid (show MulR a b 0 a.val b.val 0 from ⟨a.isLt, b.isLt, by decide, rfl⟩)
  unfold vb
  go_enter Try.func61, Try.ntmps61
  go_wp2
  go_loopg [0, 1, 5, 7] 8 (fun kq v0 v1 v5 v7 wr => ∃ k a' b' o' : Nat, k + kq = 8 ∧ v0 = .int .u8 (a' : Int) ∧ v1 = .int .u8 (b' : Int) ∧ v5 = .int .u8 (o' : Int) ∧ v7 = .int .i64 (k : Int) ∧ Hid (MulR a b k a' b' o') ∧ w = wr)
  case atStart => exact ⟨0, a.val, b.val, 0, rfl, rfl, rfl, rfl, rfl, HI, rfl⟩
  case round =>
    clear HI
    obtain ⟨k, a', b', o', hk, rfl, rfl, rfl, rfl, HM, rfl⟩ := hrel
    obtain ⟨ha, hb, ho, hm⟩ := HM.out
    clear hm
    by_cases hlt : k < 8
    · have HS := Lib.hid (HM.out.step hlt)
      have e1 := and_one hb
      by_cases c1 : b' % 2 = 1
      · have e2 : (Go.bits .and .u8 (b' : Int) 1 == 1) = true := by rw [e1, c1]; rfl
        have e3 := u8_xor_nat o' a' ho ha
        have e4 : (if b' % 2 = 1 then o' ^^^ a' else o') = o' ^^^ a' := if_pos c1
        rw [e4] at HS
        clear e1 e4 c1
        by_cases c2 : a' / 128 = 1
        · have e5 : ((a' : Int) / 128 == 1) = true := by rw [beq_iff_eq]; omega
          have e6 := u8_xor_nat ((a' * 2) % 256) 29 (Nat.mod_lt _ (by decide)) (by decide)
          have e7 : Gf.xtN a' = (a' * 2) % 256 ^^^ 29 := if_pos c2
          rw [e7] at HS
          have e8 : (((a' * 2) % 256 : Nat) : Int) = (a' : Int) * 2 % 256 := by omega
          rw [e8] at e6
          clear e7 e8 c2
          go_wp2
          go_roundg (7 - k)
          case measure => omega
          case rel => exact ⟨k + 1, a' * 2 % 256 ^^^ 29, b' / 2, _, by omega, congrArg (Value.int .u8) e6, by go_num, rfl, by go_num, HS, rfl⟩
        · have e5 : ((a' : Int) / 128 == 1) = false := by rw [beq_eq_false_iff_ne]; omega
          have e7 : Gf.xtN a' = (a' * 2) % 256 := if_neg c2
          rw [e7] at HS
          clear e7 c2
          go_wp2
          go_roundg (7 - k)
          case measure => omega
          case rel => exact ⟨k + 1, (a' * 2) % 256, b' / 2, _, by omega, by go_num, by go_num, rfl, by go_num, HS, rfl⟩
      · have e2 : (Go.bits .and .u8 (b' : Int) 1 == 1) = false := by rw [e1, beq_eq_false_iff_ne]; omega
        have e4 : (if b' % 2 = 1 then o' ^^^ a' else o') = o' := if_neg c1
        rw [e4] at HS
        clear e1 e4 c1
        by_cases c2 : a' / 128 = 1
        · have e5 : ((a' : Int) / 128 == 1) = true := by rw [beq_iff_eq]; omega
          have e6 := u8_xor_nat ((a' * 2) % 256) 29 (Nat.mod_lt _ (by decide)) (by decide)
          have e7 : Gf.xtN a' = (a' * 2) % 256 ^^^ 29 := if_pos c2
          rw [e7] at HS
          have e8 : (((a' * 2) % 256 : Nat) : Int) = (a' : Int) * 2 % 256 := by omega
          rw [e8] at e6
          clear e7 e8 c2
          go_wp2
          go_roundg (7 - k)
          case measure => omega
          case rel => exact ⟨k + 1, a' * 2 % 256 ^^^ 29, b' / 2, _, by omega, congrArg (Value.int .u8) e6, by go_num, rfl, by go_num, HS, rfl⟩
        · have e5 : ((a' : Int) / 128 == 1) = false := by rw [beq_eq_false_iff_ne]; omega
          have e7 : Gf.xtN a' = (a' * 2) % 256 := if_neg c2
          rw [e7] at HS
          clear e7 c2
          go_wp2
          go_roundg (7 - k)
          case measure => omega
          case rel => exact ⟨k + 1, (a' * 2) % 256, b' / 2, _, by omega, by go_num, by go_num, rfl, by go_num, HS, rfl⟩
    · obtain rfl : k = 8 := by omega
      go_wp2
      go_ret
      have h := HM.out.2.2.2
      exact ⟨by rw [← h]; rfl, rfl⟩

/-! ### Powers -/
def powE (a : Gf.E) (n : Int) : Gf.E := if n = 0 then 1 else if a = 0 then 0 else Gf.pow a (n % 255).toNat
def powX (a : Gf.E) (n : Int) : Int := if a = 0 ∧ n < 0 then 1 else 0
theorem val_zero {a : Gf.E} : ((a.val : Int) == 0) = decide (a = 0) := by
  rw [Bool.eq_iff_iff, beq_iff_eq, decide_eq_true_iff]
  constructor
  · intro h; apply Fin.ext; exact Int.ofNat_inj.1 h
  · rintro rfl; rfl
theorem tmod_cases (n : Int) : (0 ≤ n.tmod 255 ∧ n.tmod 255 = n % 255 ∧ n.tmod 255 < 255) ∨ (n.tmod 255 < 0 ∧ n.tmod 255 + 255 = n % 255 ∧ -255 < n.tmod 255) := by
  have h1 := Int.emod_nonneg n (show (255 : Int) ≠ 0 by decide)
  have h2 := Int.emod_lt_of_pos n (show (0 : Int) < 255 by decide)
  have h3 := Int.tmod_eq_emod (a := n) (b := 255)
  split at h3 <;> omega

set_option maxHeartbeats 1000000 in
theorem powLoop_c (a : Gf.E) (n : Int) (N : Nat) (w : World) (hn : n ≠ 0) (ha : a ≠ 0) (hN : (n % 255).toNat = N) (hlo : -9223372036854775808 ≤ n) (hhi : n ≤ 9223372036854775807) :
    Calls Try.prog 60 #[vb a, .int .i64 n] w fun e w' => e = .returned (.tuple #[vb (Gf.pow a N), .int .i64 0]) ∧ w = w' := by
  have c0 : (n == 0) = false := beq_eq_false_iff_ne.2 hn
  have c1 : ((a.val : Int) == 0) = false := by rw [val_zero]; exact decide_eq_false ha
  have h1 := Int.emod_nonneg n (show (255 : Int) ≠ 0 by decide)
  have h2 := Int.emod_lt_of_pos n (show (0 : Int) < 255 by decide)
  have hc := tmod_cases n
  have hal := a.isLt
  clear hn ha
  have HL := Lib.hid (show Gf.pow a 0 = 1 from rfl)
  unfold vb
  have hNl : N < 256 := by omega
  rcases hc with ⟨h3, h4, h5⟩ | ⟨h3, h4, h5⟩
  · have c3 : n.tmod 255 = (N : Int) := by omega
    clear hN h1 h2 h3 h4 h5
    go_enter Try.func60, Try.ntmps60
    go_wp2
    go_loopg [6, 27] N (fun kq v6 v27 wr => ∃ k : Nat, k + kq = N ∧ v27 = .int .i64 (k : Int) ∧ v6 = .int .u8 ((Gf.pow a k).val : Int) ∧ w = wr)
    case atStart => exact ⟨0, by omega, rfl, rfl, rfl⟩
    case round =>
      obtain ⟨k, hk, rfl, rfl, rfl⟩ := hrel
      clear c3
      by_cases hlt : k < N
      · go_wp2_with (go_at_call 61; refine (mul_c (Gf.pow a k) a _).mono ?_; rintro e w' ⟨rfl, rfl⟩)
        go_roundg (N - (k + 1))
        case measure => omega
        case rel => exact ⟨k + 1, by omega, by go_num, rfl, rfl⟩
      · obtain rfl : k = N := by omega
        go_wp2
        go_ret2
        exact ⟨rfl, rfl⟩
  · obtain ⟨q, hq⟩ : ∃ q : Int, n.tmod 255 = q := ⟨_, rfl⟩
    rw [hq] at h3 h4 h5
    have c4 : q + 255 = (N : Int) := by omega
    clear hN h1 h2 h4
    go_enter Try.func60, Try.ntmps60
    go_wp2
    go_loopg [6, 27] N (fun kq v6 v27 wr => ∃ k : Nat, k + kq = N ∧ v27 = .int .i64 (k : Int) ∧ v6 = .int .u8 ((Gf.pow a k).val : Int) ∧ w = wr)
    case atStart => exact ⟨0, by omega, rfl, rfl, rfl⟩
    case round =>
      obtain ⟨k, hk, rfl, rfl, rfl⟩ := hrel
      clear c4 hq
      by_cases hlt : k < N
      · go_wp2_with (go_at_call 61; refine (mul_c (Gf.pow a k) a _).mono ?_; rintro e w' ⟨rfl, rfl⟩)
        go_roundg (N - (k + 1))
        case measure => omega
        case rel => exact ⟨k + 1, by omega, by go_num, rfl, rfl⟩
      · obtain rfl : k = N := by omega
        go_wp2
        go_ret2
        exact ⟨rfl, rfl⟩

theorem pow_c (a : Gf.E) (n : Int) (w : World) (hlo : -9223372036854775808 ≤ n) (hhi : n ≤ 9223372036854775807) :
    Calls Try.prog 60 #[vb a, .int .i64 n] w fun e w' => e = .returned (.tuple #[vb (powE a n), .int .i64 (powX a n)]) ∧ w = w' := by
  by_cases hn : n = 0
  · subst hn
    have e1 : powE a 0 = 1 := rfl
    have e2 : powX a 0 = 0 := by simp [powX]
    rw [e1, e2]
    unfold vb
    go_enter Try.func60, Try.ntmps60
    go_wp2
    go_ret2
    exact ⟨rfl, rfl⟩
  · have c0 : (n == 0) = false := beq_eq_false_iff_ne.2 hn
    by_cases ha : a = 0
    · subst ha
      have e1 : powE 0 n = 0 := by simp [powE, hn]
      rw [e1]
      have c1 : ((((0 : Gf.E).val : Nat) : Int) == 0) = true := rfl
      by_cases hl : n < 0
      · have e2 : powX 0 n = 1 := by simp [powX, hl]
        rw [e2]
        unfold vb
        clear e1 e2 hn
        go_enter Try.func60, Try.ntmps60
        go_wp2
        go_ret2
        exact ⟨rfl, rfl⟩
      · have e2 : powX 0 n = 0 := by simp [powX, hl]
        rw [e2]
        unfold vb
        clear e1 e2 hn
        go_enter Try.func60, Try.ntmps60
        go_wp2
        go_ret2
        exact ⟨rfl, rfl⟩
    · have e1 : powE a n = Gf.pow a (n % 255).toNat := by simp [powE, hn, ha]
      have e2 : powX a n = 0 := by simp [powX, ha]
      rw [e1, e2]
      exact powLoop_c a n _ w hn ha rfl hlo hhi

/-! ### Quotients -/
def divE (a b : Gf.E) : Gf.E := if b = 0 then 0 else Gf.mul a (Gf.inv b)
def divX (b : Gf.E) : Int := if b = 0 then 1 else 0
theorem powE_neg {b : Gf.E} (h : b ≠ 0) : powE b (-1) = Gf.inv b := by
  unfold powE
  rw [if_neg (by decide), if_neg h]
  rfl
theorem powX_ne {b : Gf.E} (h : b ≠ 0) (n : Int) : powX b n = 0 := by simp [powX, h]

theorem div_c (a b : Gf.E) (w : World) :
    Calls Try.prog 48 #[vb a, vb b] w fun e w' => e = .returned (.tuple #[vb (divE a b), .int .i64 (divX b)]) ∧ w = w' := by
  by_cases hb : b = 0
  · subst hb
    have c1 : ((((0 : Gf.E).val : Nat) : Int) == 0) = true := rfl
    unfold vb
    go_enter Try.func48, Try.ntmps48
    go_wp2
    go_ret2
    exact ⟨rfl, rfl⟩
  · have c1 : ((b.val : Int) == 0) = false := by rw [val_zero]; exact decide_eq_false hb
    have e1 : divE a b = Gf.mul a (Gf.inv b) := if_neg hb
    have e2 : divX b = 0 := if_neg hb
    rw [e1, e2]
    have hp := pow_c b (-1) w (by decide) (by decide)
    rw [powE_neg hb, powX_ne hb] at hp
    have HP := Lib.hid hp
    clear hp e1 e2 hb
    unfold vb at *
    go_enter Try.func48, Try.ntmps48
    go_wp2_with (first | (go_at_call 60; refine HP.out.mono ?_; rintro e w' ⟨rfl, rfl⟩) | (go_at_call 61; refine (mul_c a (Gf.inv b) _).mono ?_; rintro e w' ⟨rfl, rfl⟩))
    go_ret2
    exact ⟨rfl, rfl⟩

/-! ### Logarithms -/
def logX (a : Gf.E) : Int := if a = 0 then 1 else 0
def logI (a : Gf.E) : Int := if a = 0 then 0 else (Gf.log a : Int)
end Go.Proofs.Ytccfnhocjiehnaa
