/- The reference's functions of elements: what each one answers. -/
import Derived.Test.YtccfnhocjiehnaaGfA
namespace Go.Proofs.Ytccfnhocjiehnaa
open Go.RowKit
set_option linter.unusedVariables false
set_option linter.unusedSimpArgs false

theorem wraps_i64 (n : Int) (h₀ : 0 ≤ n) (h₁ : n < 2 ^ 62) : IntKind.i64.wrap n = n := by rw [IntKind.wrap_i64]; omega
theorem i64_xor_nat (a b : Nat) (ha : a < 2 ^ 62) (hb : b < 2 ^ 62) : Go.bits .xor .i64 (a : Int) (b : Int) = ((a ^^^ b : Nat) : Int) := by
  have ha' : a % 2 ^ 64 = a := Nat.mod_eq_of_lt (Nat.lt_trans ha (by decide))
  have hb' : b % 2 ^ 64 = b := Nat.mod_eq_of_lt (Nat.lt_trans hb (by decide))
  simp only [bits, BitVec.ofInt_natCast, BitVec.toNat_xor, BitVec.toNat_ofNat]
  rw [show IntKind.i64.bits = 64 from rfl, ha', hb']
  exact wraps_i64 _ (Int.natCast_nonneg _) (by exact_mod_cast Nat.xor_lt_two_pow ha hb)
theorem i64_and_one (b : Nat) (hb : b < 2 ^ 62) : Go.bits .and .i64 (b : Int) 1 = ((b % 2 : Nat) : Int) := by
  have h := (bits_nat .i64 62 (by decide) wraps_i64 b 1 hb (by decide)).1
  rw [Nat.and_one_is_mod] at h
  exact h

theorem xt_ref_all : (List.range 256).all (fun a => (if 256 ≤ a * 2 then a * 2 ^^^ 285 else a * 2) == Gf.xtN a) = true := by decide +kernel
theorem xt_ref {a : Nat} (ha : a < 256) : (if 256 ≤ a * 2 then a * 2 ^^^ 285 else a * 2) = Gf.xtN a := beq_iff_eq.1 (List.all_eq_true.1 xt_ref_all a (List.mem_range.2 ha))

/-- After k rounds; b' is b shifted k times. -/
def RefMulR (a b : Gf.E) (k a' b' o' : Nat) : Prop := a' < 256 ∧ b' < 2 ^ (8 - k) ∧ o' < 256 ∧ Gf.mulN (8 - k) a' b' o' = (Gf.mul a b).val
theorem RefMulR.step {a b : Gf.E} {k a' b' o' : Nat} (h : RefMulR a b k a' b' o') (hb : 0 < b') : k < 8 ∧ RefMulR a b (k + 1) (Gf.xtN a') (b' / 2) (if b' % 2 = 1 then o' ^^^ a' else o') := by
  obtain ⟨h1, h2, h3, h4⟩ := h
  have hk : k < 8 := by
    rcases Nat.lt_or_ge k 8 with h | h
    · exact h
    · rw [show 8 - k = 0 by omega] at h2; simp at h2; omega
  have h8 : 8 - k = (8 - (k + 1)) + 1 := by omega
  refine ⟨hk, Gf.xtN_lt _, ?_, ?_, ?_⟩
  · rw [h8, Nat.pow_succ] at h2; omega
  · split
    · exact Gf.xor_lt h3 h1
    · exact h3
  · rw [← h4, h8]
    rfl

set_option maxRecDepth 100000 in
set_option maxHeartbeats 1000000 in
theorem rmul_c (a b : Gf.E) (w : World) : Calls Try.prog 56 #[vb a, vb b] w fun e w' => e = .returned (vb (Gf.mul a b)) ∧ w = w' := by
  have HI := Lib.hid (show RefMulR a b 0 a.val b.val 0 from ⟨a.isLt, b.isLt, by decide, rfl⟩)
  have ha := a.isLt
  have hb := b.isLt
  unfold vb
  go_enter Try.func56, Try.ntmps56
  go_wp2
  go_loopg [5, 6, 7] 8 (fun kq v5 v6 v7 wr => ∃ k a' b' o' : Nat, k + kq = 8 ∧ v6 = .int .i64 (a' : Int) ∧ v7 = .int .i64 (b' : Int) ∧ v5 = .int .i64 (o' : Int) ∧ Hid (RefMulR a b k a' b' o') ∧ w = wr)
  case atStart => exact ⟨0, a.val, b.val, 0, rfl, rfl, rfl, rfl, HI, rfl⟩
  case round =>
    clear HI ha hb
    obtain ⟨k, a', b', o', hk, rfl, rfl, rfl, HM, rfl⟩ := hrel
    obtain ⟨ha, hb, ho, hm⟩ := HM.out
    have hb2 : b' < 256 := Nat.lt_of_lt_of_le hb (Nat.pow_le_pow_right (by decide) (Nat.sub_le 8 k))
    clear hm hb
    by_cases hlt : 0 < b'
    · obtain ⟨hk8, hS⟩ := HM.out.step hlt
      rw [← xt_ref ha] at hS
      have e1 := i64_and_one b' (by omega)
      by_cases c1 : b' % 2 = 1
      · have e2 : (Go.bits .and .i64 (b' : Int) 1 == 1) = true := by rw [e1, c1]; rfl
        have e3 := i64_xor_nat o' a' (by omega) (by omega)
        rw [if_pos c1] at hS
        clear e1 c1
        by_cases c2 : 256 ≤ a' * 2
        · rw [if_pos c2] at hS
          have HS := Lib.hid hS
          have e6 := i64_xor_nat (a' * 2) 285 (by omega) (by decide)
          clear hS
          go_wp2
          go_roundg (7 - k)
          case measure => omega
          case rel => exact ⟨k + 1, a' * 2 ^^^ 285, b' / 2, o' ^^^ a', by omega, by first | rfl | exact congrArg (Value.int .i64) e6, by go_num, by first | rfl | exact congrArg (Value.int .i64) e3, HS, rfl⟩
        · rw [if_neg c2] at hS
          have HS := Lib.hid hS
          clear hS
          go_wp2
          go_roundg (7 - k)
          case measure => omega
          case rel => exact ⟨k + 1, a' * 2, b' / 2, o' ^^^ a', by omega, by go_num, by go_num, by first | rfl | exact congrArg (Value.int .i64) e3, HS, rfl⟩
      · have e2 : (Go.bits .and .i64 (b' : Int) 1 == 1) = false := by rw [e1, beq_eq_false_iff_ne]; omega
        rw [if_neg c1] at hS
        clear e1 c1
        by_cases c2 : 256 ≤ a' * 2
        · rw [if_pos c2] at hS
          have HS := Lib.hid hS
          have e6 := i64_xor_nat (a' * 2) 285 (by omega) (by decide)
          clear hS
          go_wp2
          go_roundg (7 - k)
          case measure => omega
          case rel => exact ⟨k + 1, a' * 2 ^^^ 285, b' / 2, o', by omega, by first | rfl | exact congrArg (Value.int .i64) e6, by go_num, rfl, HS, rfl⟩
        · rw [if_neg c2] at hS
          have HS := Lib.hid hS
          clear hS
          go_wp2
          go_roundg (7 - k)
          case measure => omega
          case rel => exact ⟨k + 1, a' * 2, b' / 2, o', by omega, by go_num, by go_num, rfl, HS, rfl⟩
    · obtain rfl : b' = 0 := by omega
      have h := HM.out.2.2.2
      rw [Gf.mulN_zero] at h
      have HE := Lib.hid h
      clear h
      go_wp2
      go_ret
      exact ⟨by rw [← HE.out]; first | rfl | (congr 2; omega), rfl⟩

set_option maxRecDepth 100000 in
set_option maxHeartbeats 1000000 in
theorem rinv_c (a : Gf.E) (w : World) : Calls Try.prog 74 #[vb a] w fun e w' => e = .returned (vb (Gf.inv a)) ∧ w = w' := by
  unfold vb
  obtain ⟨N, hN⟩ : ∃ N : Nat, N = 254 := ⟨_, rfl⟩
  have HI : Hid (Gf.pow a N = Gf.inv a) := by subst hN; exact Lib.hid rfl
  have h1 : N ≤ 254 := by omega
  have h2 : 254 ≤ N := by omega
  clear hN
  go_enter Try.func74, Try.ntmps74
  go_wp2
  go_loopg [3, 4] N (fun kq v3 v4 wr => ∃ k : Nat, k + kq = N ∧ v4 = .int .i64 (k : Int) ∧ v3 = .int .u8 ((Gf.pow a k).val : Int) ∧ w = wr)
  case atStart => exact ⟨0, by omega, rfl, rfl, rfl⟩
  case round =>
    obtain ⟨k, hk, rfl, rfl, rfl⟩ := hrel
    by_cases hlt : k < 254
    · go_wp2_with (go_at_call 56; refine (rmul_c (Gf.pow a k) a _).mono ?_; rintro e w' ⟨rfl, rfl⟩)
      go_roundg (N - (k + 1))
      case measure => omega
      case rel => exact ⟨k + 1, by omega, by go_num, rfl, rfl⟩
    · obtain rfl : k = N := by omega
      go_wp2
      go_ret
      exact ⟨by rw [← HI.out]; rfl, rfl⟩

end Go.Proofs.Ytccfnhocjiehnaa
