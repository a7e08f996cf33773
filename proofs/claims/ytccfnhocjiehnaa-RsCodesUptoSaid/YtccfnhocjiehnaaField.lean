/- The field of 256 elements and its laws, in plain Lean: no program in sight. -/
namespace Go.Proofs.Ytccfnhocjiehnaa.Gf

/-- An element: a number below 256. -/
abbrev E := Fin 256

theorem xor_lt {a b : Nat} (ha : a < 256) (hb : b < 256) : a ^^^ b < 256 := Nat.xor_lt_two_pow (n := 8) ha hb

/-- Doubling: times x, modulo x^8 + x^4 + x^3 + x^2 + 1. -/
def xtN (a : Nat) : Nat := if a / 128 = 1 then (a * 2) % 256 ^^^ 29 else (a * 2) % 256
theorem xtN_lt (a : Nat) : xtN a < 256 := by
  unfold xtN
  split
  · exact xor_lt (Nat.mod_lt _ (by decide)) (by decide)
  · exact Nat.mod_lt _ (by decide)

/-- k rounds of shift and add. -/
def mulN : Nat → Nat → Nat → Nat → Nat
  | 0, _, _, o => o
  | k + 1, a, b, o => mulN k (xtN a) (b / 2) (if b % 2 = 1 then o ^^^ a else o)
theorem mulN_lt : ∀ (k a b o : Nat), a < 256 → o < 256 → mulN k a b o < 256
  | 0, _, _, _, _, h => h
  | k + 1, a, b, o, ha, ho => by
    unfold mulN
    refine mulN_lt k _ _ _ (xtN_lt a) ?_
    split
    · exact xor_lt ho ha
    · exact ho
theorem mulN_zero : ∀ (k a o : Nat), mulN k a 0 o = o
  | 0, _, _ => rfl
  | k + 1, a, o => by
    unfold mulN
    exact mulN_zero k _ _
theorem mulN_acc : ∀ (k a b o : Nat), mulN k a b o = o ^^^ mulN k a b 0
  | 0, _, _, o => by simp [mulN]
  | k + 1, a, b, o => by
    unfold mulN
    rw [mulN_acc k _ _ (if b % 2 = 1 then o ^^^ a else o), mulN_acc k _ _ (if b % 2 = 1 then 0 ^^^ a else 0)]
    split
    · simp [Nat.xor_assoc]
    · simp

theorem xt_lin_all : (List.range 256).all (fun a => (List.range 256).all fun b => xtN (a ^^^ b) == xtN a ^^^ xtN b) = true := by decide +kernel
theorem xtN_lin {a b : Nat} (ha : a < 256) (hb : b < 256) : xtN (a ^^^ b) = xtN a ^^^ xtN b := by
  have h := List.all_eq_true.1 xt_lin_all a (List.mem_range.2 ha)
  have h := List.all_eq_true.1 h b (List.mem_range.2 hb)
  exact beq_iff_eq.1 h

theorem xor_swap (a b c d : Nat) : (a ^^^ b) ^^^ (c ^^^ d) = (a ^^^ c) ^^^ (b ^^^ d) := by
  rw [Nat.xor_assoc, Nat.xor_assoc, ← Nat.xor_assoc b c d, Nat.xor_comm b c, Nat.xor_assoc c b d]

theorem mulN_left : ∀ (k a b c : Nat), a < 256 → b < 256 → mulN k (a ^^^ b) c 0 = mulN k a c 0 ^^^ mulN k b c 0
  | 0, _, _, _, _, _ => by simp [mulN]
  | k + 1, a, b, c, ha, hb => by
    unfold mulN
    rw [mulN_acc k (xtN (a ^^^ b)), mulN_acc k (xtN a), mulN_acc k (xtN b), xtN_lin ha hb, mulN_left k _ _ _ (xtN_lt a) (xtN_lt b)]
    split
    · simp only [Nat.zero_xor]; rw [xor_swap]
    · simp

theorem mulN_right : ∀ (k a b c : Nat), mulN k a (b ^^^ c) 0 = mulN k a b 0 ^^^ mulN k a c 0
  | 0, _, _, _ => by simp [mulN]
  | k + 1, a, b, c => by
    unfold mulN
    have hd : (b ^^^ c) / 2 = b / 2 ^^^ c / 2 := by
      have := Nat.xor_div_two_pow (a := b) (b := c) (n := 1)
      simpa using this
    rw [mulN_acc k _ ((b ^^^ c) / 2), mulN_acc k _ (b / 2), mulN_acc k _ (c / 2), hd, mulN_right k]
    have hm := Nat.xor_mod_two_eq_one (a := b) (b := c)
    rw [xor_swap]
    congr 1
    by_cases h1 : b % 2 = 1 <;> by_cases h2 : c % 2 = 1
    · rw [if_neg (by rw [hm]; simp [h1, h2]), if_pos h1, if_pos h2]; simp
    · rw [if_pos (by rw [hm]; simp [h1, h2]), if_pos h1, if_neg h2]; simp
    · rw [if_pos (by rw [hm]; simp [h1, h2]), if_neg h1, if_pos h2]; simp
    · rw [if_neg (by rw [hm]; simp [h1, h2]), if_neg h1, if_neg h2]; simp

/-! ### The operations on elements -/
def add (a b : E) : E := ⟨a.val ^^^ b.val, xor_lt a.isLt b.isLt⟩
def mul (a b : E) : E := ⟨mulN 8 a.val b.val 0, mulN_lt _ _ _ _ a.isLt (by decide)⟩
theorem add_val (a b : E) : (add a b).val = a.val ^^^ b.val := rfl
theorem mul_val (a b : E) : (mul a b).val = mulN 8 a.val b.val 0 := rfl

theorem add_comm (a b : E) : add a b = add b a := Fin.ext (Nat.xor_comm _ _)
theorem add_assoc (a b c : E) : add (add a b) c = add a (add b c) := Fin.ext (Nat.xor_assoc _ _ _)
theorem add_self (a : E) : add a a = 0 := Fin.ext (Nat.xor_self _)
theorem add_zero (a : E) : add a 0 = a := Fin.ext (Nat.xor_zero _)
theorem zero_add (a : E) : add 0 a = a := Fin.ext (Nat.zero_xor _)
theorem add_eq_zero {a b : E} (h : add a b = 0) : a = b := by
  have : add (add a b) b = add 0 b := by rw [h]
  rwa [add_assoc, add_self, add_zero, zero_add] at this
theorem add_left_comm (a b c : E) : add a (add b c) = add b (add a c) := by rw [← add_assoc, add_comm a b, add_assoc]
theorem add_add_self (a b : E) : add a (add a b) = b := by rw [← add_assoc, add_self, zero_add]

theorem add_mul (a b c : E) : mul (add a b) c = add (mul a c) (mul b c) := Fin.ext (mulN_left 8 _ _ _ a.isLt b.isLt)
theorem mul_add (a b c : E) : mul a (add b c) = add (mul a b) (mul a c) := Fin.ext (mulN_right 8 _ _ _)
theorem mul_zero (a : E) : mul a 0 = 0 := Fin.ext (mulN_zero 8 a.val 0)
theorem zero_mul (a : E) : mul 0 a = 0 := by
  have h := add_mul 0 0 a
  rw [add_self, add_self] at h
  exact h

/-! ### What is additive is told by the eight powers of two -/
def bitE (a : E) (i : Nat) : E := if a.val.testBit i then ⟨2 ^ (i % 8), by have : i % 8 < 8 := Nat.mod_lt _ (by decide); exact Nat.lt_of_lt_of_le (Nat.pow_lt_pow_right (by decide) this) (by decide)⟩ else 0
def pw (i : Fin 8) : E := ⟨2 ^ i.val, Nat.lt_of_lt_of_le (Nat.pow_lt_pow_right (by decide) i.isLt) (by decide)⟩
def parts (a : E) : E := add (bitE a 0) (add (bitE a 1) (add (bitE a 2) (add (bitE a 3) (add (bitE a 4) (add (bitE a 5) (add (bitE a 6) (bitE a 7)))))))
theorem parts_eq (a : E) : parts a = a := by
  have h : ∀ a : E, parts a = a := by decide +kernel
  exact h a
theorem bitE_cases (a : E) (i : Fin 8) : bitE a i.val = pw i ∨ bitE a i.val = 0 := by
  unfold bitE pw
  split
  · left; apply Fin.ext; simp [Nat.mod_eq_of_lt i.isLt]
  · right; rfl

theorem additive_ext {f g : E → E} (hf : ∀ a b, f (add a b) = add (f a) (f b)) (hg : ∀ a b, g (add a b) = add (g a) (g b)) (h : ∀ i, f (pw i) = g (pw i)) (a : E) : f a = g a := by
  have f0 : f 0 = 0 := by have := hf 0 0; rw [add_self, add_self] at this; exact this
  have g0 : g 0 = 0 := by have := hg 0 0; rw [add_self, add_self] at this; exact this
  have hb : ∀ i : Fin 8, f (bitE a i.val) = g (bitE a i.val) := fun i => by
    rcases bitE_cases a i with e | e
    · rw [e, h]
    · rw [e, f0, g0]
  rw [← parts_eq a]
  unfold parts
  simp only [hf, hg]
  have e0 : f (bitE a 0) = g (bitE a 0) := hb 0
  have e1 : f (bitE a 1) = g (bitE a 1) := hb 1
  have e2 : f (bitE a 2) = g (bitE a 2) := hb 2
  have e3 : f (bitE a 3) = g (bitE a 3) := hb 3
  have e4 : f (bitE a 4) = g (bitE a 4) := hb 4
  have e5 : f (bitE a 5) = g (bitE a 5) := hb 5
  have e6 : f (bitE a 6) = g (bitE a 6) := hb 6
  have e7 : f (bitE a 7) = g (bitE a 7) := hb 7
  rw [e0, e1, e2, e3, e4, e5, e6, e7]

theorem comm_pw : ∀ i j : Fin 8, mul (pw i) (pw j) = mul (pw j) (pw i) := by decide +kernel
theorem mul_comm (a b : E) : mul a b = mul b a := by
  refine additive_ext (f := fun x => mul x b) (g := fun x => mul b x) (fun x y => add_mul x y b) (fun x y => mul_add b x y) (fun i => ?_) a
  exact additive_ext (f := fun y => mul (pw i) y) (g := fun y => mul y (pw i)) (fun x y => mul_add _ x y) (fun x y => add_mul x y _) (fun j => comm_pw i j) b
theorem assoc_pw : ∀ i j k : Fin 8, mul (mul (pw i) (pw j)) (pw k) = mul (pw i) (mul (pw j) (pw k)) := by decide +kernel
theorem mul_assoc (a b c : E) : mul (mul a b) c = mul a (mul b c) := by
  refine additive_ext (f := fun x => mul (mul x b) c) (g := fun x => mul x (mul b c)) (fun x y => by simp only [add_mul]) (fun x y => by simp only [add_mul]) (fun i => ?_) a
  refine additive_ext (f := fun y => mul (mul (pw i) y) c) (g := fun y => mul (pw i) (mul y c)) (fun x y => by simp only [mul_add, add_mul]) (fun x y => by simp only [mul_add, add_mul]) (fun j => ?_) b
  exact additive_ext (f := fun z => mul (mul (pw i) (pw j)) z) (g := fun z => mul (pw i) (mul (pw j) z)) (fun x y => by simp only [mul_add]) (fun x y => by simp only [mul_add]) (fun k => assoc_pw i j k) c
theorem one_pw : ∀ i : Fin 8, mul 1 (pw i) = pw i := by decide +kernel
theorem one_mul (a : E) : mul 1 a = a := additive_ext (f := fun x => mul 1 x) (g := fun x => x) (fun x y => mul_add 1 x y) (fun _ _ => rfl) one_pw a
theorem mul_one (a : E) : mul a 1 = a := by rw [mul_comm, one_mul]
theorem mul_left_comm (a b c : E) : mul a (mul b c) = mul b (mul a c) := by rw [← mul_assoc, mul_comm a b, mul_assoc]

/-! ### Powers, the generator, inverses, logarithms -/
def pow (a : E) : Nat → E
  | 0 => 1
  | n + 1 => mul (pow a n) a
theorem pow_zero (a : E) : pow a 0 = 1 := rfl
theorem pow_succ (a : E) (n : Nat) : pow a (n + 1) = mul (pow a n) a := rfl
theorem pow_add (a : E) (m n : Nat) : pow a (m + n) = mul (pow a m) (pow a n) := by
  induction n with
  | zero => rw [Nat.add_zero, pow_zero, mul_one]
  | succ n ih => rw [← Nat.add_assoc, pow_succ, ih, pow_succ, mul_assoc]
theorem pow_mul (a : E) (m n : Nat) : pow a (m * n) = pow (pow a m) n := by
  induction n with
  | zero => rfl
  | succ n ih => rw [Nat.mul_succ, pow_add, ih, pow_succ]
theorem one_pow (n : Nat) : pow 1 n = 1 := by
  induction n with
  | zero => rfl
  | succ n ih => rw [pow_succ, ih, mul_one]
theorem zero_pow (n : Nat) : pow 0 (n + 1) = 0 := by rw [pow_succ, mul_zero]

/-- The least n from m on, within k steps, with x times 2 to the (n - m) being a. -/
def logFrom : Nat → E → E → Nat → Nat
  | 0, _, _, n => n
  | k + 1, a, x, n => if x = a then n else logFrom k a (mul x 2) (n + 1)
def log (a : E) : Nat := logFrom 255 a 1 0
theorem log_all : ∀ a : E, a ≠ 0 → pow 2 (log a) = a ∧ log a < 255 := by decide +kernel
theorem pow_log {a : E} (h : a ≠ 0) : pow 2 (log a) = a := (log_all a h).1
theorem log_lt {a : E} (h : a ≠ 0) : log a < 255 := (log_all a h).2
theorem two_255 : pow 2 255 = 1 := by decide +kernel
theorem pow_255 {a : E} (h : a ≠ 0) : pow a 255 = 1 := by
  rw [← pow_log h, ← pow_mul, Nat.mul_comm, pow_mul, two_255, one_pow]
theorem pow_mod {a : E} (h : a ≠ 0) (n : Nat) : pow a (n % 255) = pow a n := by
  have : pow a n = pow a (255 * (n / 255) + n % 255) := by rw [Nat.div_add_mod]
  rw [this, pow_add, pow_mul, pow_255 h, one_pow, one_mul]

def inv (a : E) : E := pow a 254
theorem mul_inv {a : E} (h : a ≠ 0) : mul a (inv a) = 1 := by
  rw [mul_comm]; exact pow_255 h
theorem inv_mul {a : E} (h : a ≠ 0) : mul (inv a) a = 1 := pow_255 h
theorem inv_zero : inv 0 = 0 := zero_pow 253
theorem mul_eq_zero {a b : E} (h : mul a b = 0) : a = 0 ∨ b = 0 := by
  by_cases ha : a = 0
  · exact .inl ha
  · right
    have : mul (inv a) (mul a b) = 0 := by rw [h, mul_zero]
    rwa [← mul_assoc, inv_mul ha, one_mul] at this
theorem inv_ne_zero {a : E} (h : a ≠ 0) : inv a ≠ 0 := fun e => by
  have := mul_inv h
  rw [e, mul_zero] at this
  exact absurd this (by decide)
theorem one_ne_zero : (1 : E) ≠ 0 := by decide
theorem mul_ne_zero {a b : E} (ha : a ≠ 0) (hb : b ≠ 0) : mul a b ≠ 0 := fun h => (mul_eq_zero h).elim ha hb
theorem pow_ne_zero {a : E} (h : a ≠ 0) (n : Nat) : pow a n ≠ 0 := by
  induction n with
  | zero => exact one_ne_zero
  | succ n ih => exact mul_ne_zero ih h

theorem logFrom_spec : ∀ (k : Nat) (a x : E) (n : Nat), (∃ j, j < k ∧ mul x (pow 2 j) = a) → ∃ j, logFrom k a x n = n + j ∧ j < k ∧ mul x (pow 2 j) = a ∧ ∀ i, i < j → mul x (pow 2 i) ≠ a
  | 0, _, _, _, ⟨j, h, _⟩ => absurd h (Nat.not_lt_zero _)
  | k + 1, a, x, n, ⟨j, hj, he⟩ => by
    unfold logFrom
    by_cases h : x = a
    · rw [if_pos h]
      exact ⟨0, rfl, Nat.succ_pos _, by rw [pow_zero, mul_one, h], fun i hi => absurd hi (Nat.not_lt_zero _)⟩
    · rw [if_neg h]
      cases j with
      | zero => rw [pow_zero, mul_one] at he; exact absurd he h
      | succ j =>
        obtain ⟨q, h1, h2, h3, h4⟩ := logFrom_spec k a (mul x 2) (n + 1) ⟨j, by omega, by rw [pow_succ, mul_comm (pow 2 j), ← mul_assoc] at he; exact he⟩
        refine ⟨q + 1, by rw [h1]; omega, by omega, by rw [pow_succ, mul_comm (pow 2 q), ← mul_assoc]; exact h3, fun i hi => ?_⟩
        cases i with
        | zero => rw [pow_zero, mul_one]; exact h
        | succ i => rw [pow_succ, mul_comm (pow 2 i), ← mul_assoc]; exact h4 i (by omega)
theorem log_least {a : E} (h : a ≠ 0) : ∀ i, i < log a → pow 2 i ≠ a := by
  obtain ⟨j, h1, h2, h3, h4⟩ := logFrom_spec 255 a 1 0 ⟨log a, log_lt h, by rw [one_mul, pow_log h]⟩
  intro i hi
  have := h4 i (by have : log a = 0 + j := h1; omega)
  rwa [one_mul] at this
theorem log_two_pow : ∀ n : Fin 255, log (pow 2 n.val) = n.val := by decide +kernel
theorem log_pow (n : Nat) : log (pow 2 n) = n % 255 := by
  have h := log_two_pow ⟨n % 255, Nat.mod_lt _ (by decide)⟩
  simp only at h
  rw [pow_mod (by decide) n] at h
  exact h
theorem log_mul {a b : E} (ha : a ≠ 0) (hb : b ≠ 0) : log (mul a b) = (log a + log b) % 255 := by
  rw [← log_pow, pow_add, pow_log ha, pow_log hb]
end Go.Proofs.Ytccfnhocjiehnaa.Gf
