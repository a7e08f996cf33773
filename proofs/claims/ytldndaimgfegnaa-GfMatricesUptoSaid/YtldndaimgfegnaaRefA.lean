/- The reference's functions of elements: what each one answers. -/
import Derived.Test.YtldndaimgfegnaaGfA
namespace Go.Proofs.Ytldndaimgfegnaa
open Go.RowKit
set_option linter.unusedVariables false
set_option linter.unusedSimpArgs false

theorem wraps_i64 (n : Int) (h₀ : 0 ≤ n) (h₁ : n < 2 ^ 62) : IntKind.i64.wrap n = n := by rw [IntKind.wrap_i64]; omega
theorem i64_xor_nat (a b : Nat) (ha : a < 2 ^ 62) (hb : b < 2 ^ 62) : Go.bits .xor .i64 (a : Int) (b : Int) = ((a ^^^ b : Nat) : Int) := by
  have ha' : a % 2 ^ 64 = a := Nat.mod_eq_of_lt (Nat.lt_trans ha (by decide))
  have hb' : b % 2 ^ 64 = b := Nat.mod_eq_of_lt (Nat.lt_trans hb (by decide))
  simp only [bits, BitVec.ofInt_natCast, BitVec.toNat_xor, BitVec.toNat_ofNat]
  rw [show IntKind.i64.bits = 64 from rfl, ha', hb']
  exact wraps_i64 _ (Int.natCast_nonneg _) (by exact_mod_cast Nat.xor_lt_two_pow ha hb)
theorem i64_and_one (b : Nat) (hb : b < 2 ^ 62) : Go.bits .and .i64 (b : Int) 1 = ((b % 2 : Nat) : Int) := by
  have h := (bits_nat .i64 62 (by decide) wraps_i64 b 1 hb (by decide)).1
  rw [Nat.and_one_is_mod] at h
  exact h

theorem xt_ref_all : (List.range 256).all (fun a => (if 256 ≤ a * 2 then a * 2 ^^^ 285 else a * 2) == Gf.xtN a) = true := by decide +kernel
theorem xt_ref {a : Nat} (ha : a < 256) : (if 256 ≤ a * 2 then a * 2 ^^^ 285 else a * 2) = Gf.xtN a := beq_iff_eq.1 (List.all_eq_true.1 xt_ref_all a (List.mem_range.2 ha))

/-- After k rounds; b' is b shifted k times. -/
def RefMulR (a b : Gf.E) (k a' b' o' : Nat) : Prop := a' < 256 ∧ b' < 2 ^ (8 - k) ∧ o' < 256 ∧ Gf.mulN (8 - k) a' b' o' = (Gf.mul a b).val
theorem RefMulR.step {a b : Gf.E} {k a' b' o' : Nat} (h : RefMulR a b k a' b' o') (hb : 0 < b') : k < 8 ∧ RefMulR a b (k + 1) (Gf.xtN a') (b' / 2) (if b' % 2 = 1 then o' ^^^ a' else o') := by
  obtain ⟨h1, h2, h3, h4⟩ := h
  have hk : k < 8 := by
    rcases Nat.lt_or_ge k 8 with h | h
    · exact h
    · rw [show 8 - k = 0 by omega] at h2; simp at h2; omega
  have h8 : 8 - k = (8 - (k + 1)) + 1 := by omega
  refine ⟨hk, Gf.xtN_lt _, ?_, ?_, ?_⟩
  · rw [h8, Nat.pow_succ] at h2; omega
  · split
    · exact Gf.xor_lt h3 h1
    · exact h3
  · rw [← h4, h8]
    rfl

set_option maxRecDepth 100000 in
set_option maxHeartbeats 1000000 in
theorem rmul_c (a b : Gf.E) (w : World) : Calls Try.prog 20 #[vb a, vb b] w fun e w' => e = .returned (vb (Gf.mul a b)) ∧ w = w' := by
  have HI := Lib.hid (show RefMulR a b 0 a.val b.val 0 from ⟨a.isLt, b.isLt, by decide, rfl⟩)
  have ha := a.isLt
  have hb := b.isLt
  unfold vb
  go_enter Try.func20, Try.ntmps20
  go_wp2
  go_loopg [5, 6, 7] 8 (fun kq v5 v6 v7 wr => ∃ k a' b' o' : Nat, k + kq = 8 ∧ v6 = .int .i64 (a' : Int) ∧ v7 = .int .i64 (b' : Int) ∧ v5 = .int .i64 (o' : Int) ∧ Hid (RefMulR a b k a' b' o') ∧ w = wr)
  case atStart => exact ⟨0, a.val, b.val, 0, rfl, rfl, rfl, rfl, HI, rfl⟩
  case round =>
    clear HI ha hb
    obtain ⟨k, a', b', o', hk, rfl, rfl, rfl, HM, rfl⟩ := hrel
    obtain ⟨ha, hb, ho, hm⟩ := HM.out
    have hb2 : b' < 256 := Nat.lt_of_lt_of_le hb (Nat.pow_le_pow_right (by decide) (Nat.sub_le 8 k))
    clear hm hb
    by_cases hlt : 0 < b'
    · obtain ⟨hk8, hS⟩ := HM.out.step hlt
      rw [← xt_ref ha] at hS
      have e1 := i64_and_one b' (by omega)
      by_cases c1 : b' % 2 = 1
      · have e2 : (Go.bits .and .i64 (b' : Int) 1 == 1) = true := by rw [e1, c1]; rfl
        have e3 := i64_xor_nat o' a' (by omega) (by omega)
        rw [if_pos c1] at hS
        clear e1 c1
        by_cases c2 : 256 ≤ a' * 2
        · rw [if_pos c2] at hS
          have HS := Lib.hid hS
          have e6 := i64_xor_nat (a' * 2) 285 (by omega) (by decide)
          clear hS
          go_wp2
          go_roundg (7 - k)
          case measure => omega
          case rel => exact ⟨k + 1, a' * 2 ^^^ 285, b' / 2, o' ^^^ a', by omega, by first | rfl | exact congrArg (Value.int .i64) e6, by go_num, by first | rfl | exact congrArg (Value.int .i64) e3, HS, rfl⟩
        · rw [if_neg c2] at hS
          have HS := Lib.hid hS
          clear hS
          go_wp2
          go_roundg (7 - k)
          case measure => omega
          case rel => exact ⟨k + 1, a' * 2, b' / 2, o' ^^^ a', by omega, by go_num, by go_num, by first | rfl | exact congrArg (Value.int .i64) e3, HS, rfl⟩
      · have e2 : (Go.bits .and .i64 (b' : Int) 1 == 1) = false := by rw [e1, beq_eq_false_iff_ne]; omega
        rw [if_neg c1] at hS
        clear e1 c1
        by_cases c2 : 256 ≤ a' * 2
        · rw [if_pos c2] at hS
          have HS := Lib.hid hS
          have e6 := i64_xor_nat (a' * 2) 285 (by omega) (by decide)
          clear hS
          go_wp2
          go_roundg (7 - k)
          case measure => omega
          case rel => exact ⟨k + 1, a' * 2 ^^^ 285, b' / 2, o', by omega, by first | rfl | exact congrArg (Value.int .i64) e6, by go_num, rfl, HS, rfl⟩
        · rw [if_neg c2] at hS
          have HS := Lib.hid hS
          clear hS
          go_wp2
          go_roundg (7 - k)
          case measure => omega
          case rel => exact ⟨k + 1, a' * 2, b' / 2, o', by omega, by go_num, by go_num, rfl, HS, rfl⟩
    · obtain rfl : b' = 0 := by omega
      have h := HM.out.2.2.2
      rw [Gf.mulN_zero] at h
      have HE := Lib.hid h
      clear h
      go_wp2
      go_ret
      exact ⟨by rw [← HE.out]; first | rfl | (congr 2; omega), rfl⟩

set_option maxRecDepth 100000 in
set_option maxHeartbeats 1000000 in
theorem rinv_c (a : Gf.E) (w : World) : Calls Try.prog 38 #[vb a] w fun e w' => e = .returned (vb (Gf.inv a)) ∧ w = w' := by
  unfold vb
  obtain ⟨N, hN⟩ : ∃ N : Nat, N = 254 := ⟨_, rfl⟩
  have HI : Hid (Gf.pow a N = Gf.inv a) := by subst hN; exact Lib.hid rfl
  have h1 : N ≤ 254 := by omega
  have h2 : 254 ≤ N := by omega
  clear hN
  go_enter Try.func38, Try.ntmps38
  go_wp2
  go_loopg [3, 4] N (fun kq v3 v4 wr => ∃ k : Nat, k + kq = N ∧ v4 = .int .i64 (k : Int) ∧ v3 = .int .u8 ((Gf.pow a k).val : Int) ∧ w = wr)
  case atStart => exact ⟨0, by omega, rfl, rfl, rfl⟩
  case round =>
    obtain ⟨k, hk, rfl, rfl, rfl⟩ := hrel
    by_cases hlt : k < 254
    · go_wp2_with (go_at_call 20; refine (rmul_c (Gf.pow a k) a _).mono ?_; rintro e w' ⟨rfl, rfl⟩)
      go_roundg (N - (k + 1))
      case measure => omega
      case rel => exact ⟨k + 1, by omega, by go_num, rfl, rfl⟩
    · obtain rfl : k = N := by omega
      go_wp2
      go_ret
      exact ⟨by rw [← HI.out]; rfl, rfl⟩

theorem rdiv_c (a b : Gf.E) (w : World) :
    Calls Try.prog 13 #[vb a, vb b] w fun e w' => e = .returned (.tuple #[vb (divE a b), .int .i64 (divX b)]) ∧ w = w' := by
  by_cases hb : b = 0
  · subst hb
    have c1 : ((((0 : Gf.E).val : Nat) : Int) == 0) = true := rfl
    unfold vb
    go_enter Try.func13, Try.ntmps13
    go_wp2
    go_ret2
    exact ⟨rfl, rfl⟩
  · have c1 : ((b.val : Int) == 0) = false := by rw [val_zero]; exact decide_eq_false hb
    have e1 : divE a b = Gf.mul a (Gf.inv b) := if_neg hb
    have e2 : divX b = 0 := if_neg hb
    rw [e1, e2]
    clear e1 e2 hb
    unfold vb
    go_enter Try.func13, Try.ntmps13
    go_wp2_with (first | (go_at_call 38; refine (rinv_c b _).mono ?_; rintro e w' ⟨rfl, rfl⟩) | (go_at_call 20; refine (rmul_c a (Gf.inv b) _).mono ?_; rintro e w' ⟨rfl, rfl⟩))
    go_ret2
    exact ⟨rfl, rfl⟩

set_option maxRecDepth 100000 in
set_option maxHeartbeats 1000000 in
theorem rpowLoop_c (a : Gf.E) (n : Int) (N : Nat) (w : World) (ha : a ≠ 0) (hN : (n % 255).toNat = N) (hlo : -9223372036854775808 ≤ n) (hhi : n ≤ 9223372036854775807) :
    Calls Try.prog 15 #[vb a, .int .i64 n] w fun e w' => e = .returned (.tuple #[vb (Gf.pow a N), .int .i64 0]) ∧ w = w' := by
  have c1 : ((a.val : Int) == 0) = false := by rw [val_zero]; exact decide_eq_false ha
  have h1 := Int.emod_nonneg n (show (255 : Int) ≠ 0 by decide)
  have h2 := Int.emod_lt_of_pos n (show (0 : Int) < 255 by decide)
  have hc := tmod_cases n
  clear ha
  unfold vb
  have hNl : N < 256 := by omega
  rcases hc with ⟨h3, h4, h5⟩ | ⟨h3, h4, h5⟩
  · have c3 : n.tmod 255 = (N : Int) := by omega
    clear hN h1 h2 h3 h4 h5
    go_enter Try.func15, Try.ntmps15
    go_wp2
    go_loopg [7, 8] N (fun kq v6 v27 wr => ∃ k : Nat, k + kq = N ∧ v27 = .int .i64 (k : Int) ∧ v6 = .int .u8 ((Gf.pow a k).val : Int) ∧ w = wr)
    case atStart => exact ⟨0, by omega, rfl, rfl, rfl⟩
    case round =>
      obtain ⟨k, hk, rfl, rfl, rfl⟩ := hrel
      clear c3
      by_cases hlt : k < N
      · go_wp2_with (go_at_call 20; refine (rmul_c (Gf.pow a k) a _).mono ?_; rintro e w' ⟨rfl, rfl⟩)
        go_roundg (N - (k + 1))
        case measure => omega
        case rel => exact ⟨k + 1, by omega, by go_num, rfl, rfl⟩
      · obtain rfl : k = N := by omega
        go_wp2
        go_ret2
        exact ⟨rfl, rfl⟩
  · obtain ⟨q, hq⟩ : ∃ q : Int, n.tmod 255 = q := ⟨_, rfl⟩
    rw [hq] at h3 h4 h5
    have c4 : q + 255 = (N : Int) := by omega
    clear hN h1 h2 h4
    go_enter Try.func15, Try.ntmps15
    go_wp2
    go_loopg [7, 8] N (fun kq v6 v27 wr => ∃ k : Nat, k + kq = N ∧ v27 = .int .i64 (k : Int) ∧ v6 = .int .u8 ((Gf.pow a k).val : Int) ∧ w = wr)
    case atStart => exact ⟨0, by omega, rfl, rfl, rfl⟩
    case round =>
      obtain ⟨k, hk, rfl, rfl, rfl⟩ := hrel
      clear c4 hq
      by_cases hlt : k < N
      · go_wp2_with (go_at_call 20; refine (rmul_c (Gf.pow a k) a _).mono ?_; rintro e w' ⟨rfl, rfl⟩)
        go_roundg (N - (k + 1))
        case measure => omega
        case rel => exact ⟨k + 1, by omega, by go_num, rfl, rfl⟩
      · obtain rfl : k = N := by omega
        go_wp2
        go_ret2
        exact ⟨rfl, rfl⟩

theorem rpow_c (a : Gf.E) (n : Int) (w : World) (hlo : -9223372036854775808 ≤ n) (hhi : n ≤ 9223372036854775807) :
    Calls Try.prog 15 #[vb a, .int .i64 n] w fun e w' => e = .returned (.tuple #[vb (powE a n), .int .i64 (powX a n)]) ∧ w = w' := by
  by_cases ha : a = 0
  · subst ha
    have c1 : ((((0 : Gf.E).val : Nat) : Int) == 0) = true := rfl
    by_cases hl : n < 0
    · have e1 : powE 0 n = 0 := by simp [powE]; omega
      have e2 : powX 0 n = 1 := by simp [powX, hl]
      rw [e1, e2]
      unfold vb
      clear e1 e2
      go_enter Try.func15, Try.ntmps15
      go_wp2
      go_ret2
      exact ⟨rfl, rfl⟩
    · have e2 : powX 0 n = 0 := by simp [powX, hl]
      rw [e2]
      by_cases hn : n = 0
      · subst hn
        have e1 : powE 0 0 = 1 := rfl
        rw [e1]
        unfold vb
        clear e1 e2
        go_enter Try.func15, Try.ntmps15
        go_wp2
        go_ret2
        exact ⟨rfl, rfl⟩
      · have e1 : powE 0 n = 0 := by simp [powE, hn]
        rw [e1]
        have c0 : (n == 0) = false := beq_eq_false_iff_ne.2 hn
        unfold vb
        clear e1 e2 hn
        go_enter Try.func15, Try.ntmps15
        go_wp2
        go_ret2
        exact ⟨rfl, rfl⟩
  · have e1 : powE a n = Gf.pow a (n % 255).toNat := by
      by_cases hn : n = 0
      · subst hn; rfl
      · simp [powE, hn, ha]
    have e2 : powX a n = 0 := by simp [powX, ha]
    rw [e1, e2]
    exact rpowLoop_c a n _ w ha rfl hlo hhi

theorem rlog_c (a : Gf.E) (w : World) :
    Calls Try.prog 17 #[vb a] w fun e w' => e = .returned (.tuple #[.int .i64 (logI a), .int .i64 (logX a)]) ∧ w = w' := by
  by_cases ha : a = 0
  · subst ha
    have c1 : ((((0 : Gf.E).val : Nat) : Int) == 0) = true := rfl
    unfold vb
    go_enter Try.func17, Try.ntmps17
    go_wp2
    go_ret2
    exact ⟨rfl, rfl⟩
  · have c1 : ((a.val : Int) == 0) = false := by rw [val_zero]; exact decide_eq_false ha
    have e1 : logI a = (Gf.log a : Int) := if_neg ha
    have e2 : logX a = 0 := if_neg ha
    rw [e1, e2]
    have hl := Gf.log_lt ha
    have HA := Lib.hid ha
    obtain ⟨N, hN⟩ : ∃ N, Gf.log a = N := ⟨_, rfl⟩
    rw [hN] at hl
    have HN := Lib.hid hN
    have HP : Hid (Gf.pow 2 N = a) := by rw [← hN]; exact Gf.pow_log ha
    rw [hN]
    clear e1 e2 ha hN
    unfold vb
    go_enter Try.func17, Try.ntmps17
    go_wp2
    go_loopg [4, 5] N (fun kq v5 v4 wr => ∃ k : Nat, k + kq = N ∧ v4 = .int .i64 (k : Int) ∧ v5 = .int .u8 ((Gf.pow 2 k).val : Int) ∧ w = wr)
    case atStart => exact ⟨0, by omega, rfl, rfl, rfl⟩
    case round =>
      obtain ⟨k, hk, rfl, rfl, rfl⟩ := hrel
      by_cases hlt : k < N
      · have hne : ((((Gf.pow 2 k).val : Nat) : Int) != (a.val : Int)) = true := by
          rw [bne_iff_ne]
          intro h
          exact Gf.log_least HA.out k (by rw [HN.out]; exact hlt) (Fin.ext (Int.ofNat_inj.1 h))
        go_wp2_with (go_at_call 20; refine (rmul_c (Gf.pow 2 k) 2 _).mono ?_; rintro e w' ⟨rfl, rfl⟩)
        go_roundg (N - (k + 1))
        case measure => omega
        case rel => exact ⟨k + 1, by omega, by go_num, rfl, rfl⟩
      · obtain rfl : k = N := by omega
        have hne : ((((Gf.pow 2 k).val : Nat) : Int) != (a.val : Int)) = false := by
          rw [bne_eq_false_iff_eq, HP.out]
        go_wp2
        go_ret2
        exact ⟨rfl, rfl⟩
end Go.Proofs.Ytldndaimgfegnaa
