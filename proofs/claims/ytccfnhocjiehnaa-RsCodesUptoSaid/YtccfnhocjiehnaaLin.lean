/- What gjTo gives is an inverse on both sides; when it gives nothing there is a kernel. Plain Lean. -/
import Derived.Test.YtccfnhocjiehnaaGj
namespace Go.Proofs.Ytccfnhocjiehnaa
set_option linter.unusedVariables false
set_option linter.unusedSimpArgs false

theorem sumE_zero {f : Nat → Gf.E} : ∀ {n : Nat}, (∀ k, k < n → f k = 0) → sumE n f = 0
  | 0, _ => rfl
  | n + 1, h => by simp only [sumE]; rw [sumE_zero (fun k hk => h k (by omega)), h n (by omega), Gf.add_zero]
theorem sumE_add {f g : Nat → Gf.E} : ∀ n : Nat, sumE n (fun k => Gf.add (f k) (g k)) = Gf.add (sumE n f) (sumE n g)
  | 0 => (Gf.add_self 0).symm
  | n + 1 => by
    simp only [sumE]; rw [sumE_add n, Gf.add_assoc, Gf.add_assoc, ← Gf.add_assoc (sumE n g) (f n) (g n), Gf.add_comm (sumE n g) (f n), Gf.add_assoc (f n)]
theorem sumE_mul {f : Nat → Gf.E} (x : Gf.E) : ∀ n : Nat, sumE n (fun k => Gf.mul x (f k)) = Gf.mul x (sumE n f)
  | 0 => (Gf.mul_zero x).symm
  | n + 1 => by simp only [sumE]; rw [sumE_mul x n, Gf.mul_add]
theorem sumE_one {f : Nat → Gf.E} {i : Nat} : ∀ {n : Nat}, i < n → (∀ k, k < n → k ≠ i → f k = 0) → sumE n f = f i
  | 0, h, _ => absurd h (Nat.not_lt_zero _)
  | n + 1, h, hz => by
    simp only [sumE]
    by_cases e : i = n
    · subst e
      rw [sumE_zero (fun k hk => hz k (by omega) (by omega)), Gf.zero_add]
    · rw [sumE_one (by omega) (fun k hk hne => hz k (by omega) hne), hz n (by omega) (fun x => e x.symm), Gf.add_zero]
theorem sumE_swap {f : Nat → Nat → Gf.E} (m : Nat) : ∀ n : Nat, sumE n (fun i => sumE m (fun j => f i j)) = sumE m (fun j => sumE n (fun i => f i j))
  | 0 => (sumE_zero (fun _ _ => rfl)).symm
  | n + 1 => by
    simp only [sumE]
    rw [sumE_swap m n, ← sumE_add]

/-- Row i of A against the column x. -/
def dot (n : Nat) (A : Mt) (i : Nat) (x : Nat → Gf.E) : Gf.E := sumE n (fun j => Gf.mul (A i j) (x j))
theorem dot_unit {n i : Nat} (hi : i < n) (x : Nat → Gf.E) : dot n unitE i x = x i := by
  unfold dot
  rw [sumE_one hi (fun k hk hne => by unfold unitE; rw [if_neg (fun e => hne e.symm), Gf.zero_mul])]
  unfold unitE
  rw [if_pos rfl, Gf.one_mul]
theorem dot_zero (n : Nat) (A : Mt) (i : Nat) : dot n A i (fun _ => 0) = 0 := sumE_zero (fun k _ => Gf.mul_zero _)
/-- The two matrices say the same of x and y. -/
def Holds (n : Nat) (s : Mt × Mt) (i : Nat) (x y : Nat → Gf.E) : Prop := dot n s.1 i x = dot n s.2 i y
def Alike (n : Nat) (s t : Mt × Mt) : Prop := ∀ x y, (∀ i, i < n → Holds n s i x y) ↔ (∀ i, i < n → Holds n t i x y)
theorem Alike.refl (n : Nat) (s : Mt × Mt) : Alike n s s := fun _ _ => Iff.rfl
theorem Alike.trans {n : Nat} {s t u : Mt × Mt} (h : Alike n s t) (k : Alike n t u) : Alike n s u := fun x y => (h x y).trans (k x y)

theorem dot_swap (n : Nat) (A : Mt) (k p i : Nat) (x : Nat → Gf.E) : dot n (swapF A k p) i x = dot n A (if i = p then k else if i = k then p else i) x := by
  unfold dot swapF
  by_cases h1 : i = p
  · simp only [if_pos h1]
  · by_cases h2 : i = k
    · simp only [if_neg h1, if_pos h2]
    · simp only [if_neg h1, if_neg h2]
theorem dot_scale (n : Nat) (A : Mt) (k i : Nat) (c : Gf.E) (x : Nat → Gf.E) : dot n (scaleF A k c) i x = if i = k then Gf.mul c (dot n A i x) else dot n A i x := by
  unfold dot scaleF
  by_cases h : i = k
  · simp only [if_pos h]
    rw [← sumE_mul]
    exact sumE_congr fun j _ => by rw [Gf.mul_comm (A i j) c, Gf.mul_assoc]
  · simp only [if_neg h]
theorem dot_plus (n : Nat) (A : Mt) (i0 k i : Nat) (c : Gf.E) (x : Nat → Gf.E) : dot n (plusF A i0 k c) i x = if i = i0 then Gf.add (dot n A i x) (Gf.mul c (dot n A k x)) else dot n A i x := by
  unfold dot plusF
  by_cases h : i = i0
  · simp only [if_pos h]
    rw [← sumE_mul, ← sumE_add]
    exact sumE_congr fun j _ => by rw [Gf.add_mul, Gf.mul_comm (A k j) c, Gf.mul_assoc]
  · simp only [if_neg h]

theorem alike_swap {n k p : Nat} (hk : k < n) (hp : p < n) (s : Mt × Mt) : Alike n s (swapF s.1 k p, swapF s.2 k p) := fun x y => by
  unfold Holds
  simp only [dot_swap]
  constructor
  · intro h i hi
    by_cases h1 : i = p
    · simp only [if_pos h1]; exact h k hk
    · by_cases h2 : i = k
      · simp only [if_neg h1, if_pos h2]; exact h p hp
      · simp only [if_neg h1, if_neg h2]; exact h i hi
  · intro h i hi
    by_cases h1 : i = p
    · have := h k hk
      by_cases h2 : k = p
      · simp only [if_pos h2] at this; rw [h1, ← h2]; exact this
      · simp only [if_neg h2, if_pos rfl] at this; rw [h1]; exact this
    · by_cases h2 : i = k
      · have := h p hp
        simp only [if_pos rfl] at this; rw [h2]; exact this
      · have := h i hi
        simp only [if_neg h1, if_neg h2] at this; exact this
theorem mul_cancel {c a b : Gf.E} (hc : c ≠ 0) (h : Gf.mul c a = Gf.mul c b) : a = b := by
  have e : Gf.mul c (Gf.add a b) = 0 := by rw [Gf.mul_add, h, Gf.add_self]
  rcases Gf.mul_eq_zero e with e | e
  · exact absurd e hc
  · exact Gf.add_eq_zero e
theorem alike_scale {n k : Nat} {c : Gf.E} (hc : c ≠ 0) (s : Mt × Mt) : Alike n s (scaleF s.1 k c, scaleF s.2 k c) := fun x y => by
  unfold Holds
  simp only [dot_scale]
  constructor
  · intro h i hi
    rw [h i hi]
  · intro h i hi
    have := h i hi
    split at this
    · exact mul_cancel hc this
    · exact this
theorem alike_plus {n i0 k : Nat} {c : Gf.E} (hk : k < n) (hne : i0 ≠ k) (s : Mt × Mt) : Alike n s (plusF s.1 i0 k c, plusF s.2 i0 k c) := fun x y => by
  unfold Holds
  simp only [dot_plus]
  constructor
  · intro h i hi
    rw [h i hi, h k hk]
  · intro h i hi
    have hk' := h k hk
    rw [if_neg (fun e => hne e.symm), if_neg (fun e => hne e.symm)] at hk'
    have := h i hi
    split at this
    · rw [hk', Gf.add_comm, Gf.add_comm (dot n s.2 i y)] at this
      have h2 := congrArg (Gf.add (Gf.mul c (dot n s.2 k y))) this
      rwa [Gf.add_add_self, Gf.add_add_self] at h2
    · exact this

/-- Columns below k are Unit's. -/
def Cols (n k : Nat) (A : Mt) : Prop := ∀ i j, i < n → j < k → A i j = unitE i j
theorem elim_ok {n k : Nat} (hk : k < n) (s : Mt × Mt) (hc : Cols n k s.1) (h1 : s.1 k k = 1) : ∀ i, i ≤ n →
    Alike n s (elimTo k i s) ∧ (∀ r j, r < n → j < k → (elimTo k i s).1 r j = unitE r j) ∧ (∀ j, (elimTo k i s).1 k j = s.1 k j) ∧ (∀ r, r < n → r ≠ k → r < i → (elimTo k i s).1 r k = 0)
  | 0, _ => ⟨Alike.refl _ _, hc, fun _ => rfl, fun r _ _ h => absurd h (Nat.not_lt_zero _)⟩
  | i + 1, hi => by
    obtain ⟨a1, a2, a3, a4⟩ := elim_ok hk s hc h1 i (by omega)
    by_cases hb : i ≠ k ∧ (elimTo k i s).1 i k ≠ 0
    · have e : elimTo k (i + 1) s = (plusF (elimTo k i s).1 i k ((elimTo k i s).1 i k), plusF (elimTo k i s).2 i k ((elimTo k i s).1 i k)) := if_pos hb
      rw [e]
      refine ⟨a1.trans (alike_plus hk hb.1 _), fun r j hr hj => ?_, fun j => ?_, fun r hr hne hlt => ?_⟩
      · show (if r = i then _ else _) = _
        split
        · rw [a2 r j hr hj, a2 k j hk hj]
          rw [show unitE k j = 0 from if_neg (by omega), Gf.zero_mul, Gf.add_zero]
        · exact a2 r j hr hj
      · show (if k = i then _ else _) = _
        rw [if_neg (fun e => hb.1 e.symm)]
        exact a3 j
      · show (if r = i then _ else _) = _
        split
        · next e => rw [e, a3, h1, Gf.one_mul, Gf.add_self]
        · exact a4 r hr hne (by omega)
    · have e : elimTo k (i + 1) s = elimTo k i s := if_neg hb
      rw [e]
      refine ⟨a1, a2, a3, fun r hr hne hlt => ?_⟩
      by_cases er : r = i
      · subst er
        exact Decidable.byContradiction fun hz => hb ⟨hne, hz⟩
      · exact a4 r hr hne (by omega)

theorem divE_one {b : Gf.E} (hb : b ≠ 0) : divE 1 b = Gf.inv b := by unfold divE; rw [if_neg hb, Gf.one_mul]
theorem find_spec {p : Nat → Bool} {n q : Nat} (h : (List.range n).find? p = some q) : q < n ∧ p q = true := by
  rw [List.find?_range_eq_some] at h
  exact ⟨List.mem_range.1 h.2.1, h.1⟩

theorem step_ok {n k : Nat} (hk : k < n) (s t : Mt × Mt) (hc : Cols n k s.1) (h : gjStep n k s = some t) : Alike n s t ∧ Cols n (k + 1) t.1 := by
  unfold gjStep at h
  obtain ⟨p, hp, rfl⟩ := Option.map_eq_some_iff.1 h
  obtain ⟨hpn, hnz⟩ := find_spec hp
  have hnz' : s.1 (k + p) k ≠ 0 := by unfold nz at hnz; simpa using hnz
  have hpv : swapF s.1 k (k + p) k k = s.1 (k + p) k := by
    unfold swapF
    by_cases e : k = k + p
    · rw [if_pos e, ← e]
    · rw [if_neg e, if_pos rfl]
  have hd : divE 1 (swapF s.1 k (k + p) k k) ≠ 0 := by rw [hpv, divE_one hnz']; exact Gf.inv_ne_zero hnz'
  have hsw : ∀ i j, i < n → j < k → swapF s.1 k (k + p) i j = unitE i j := fun i j hi hj => by
    unfold swapF
    split
    · next e => rw [hc k j hk hj]; unfold unitE; rw [if_neg (by omega), if_neg (by omega)]
    · split
      · next e => rw [hc (k + p) j (by omega) hj]; unfold unitE; rw [if_neg (by omega), if_neg (by omega)]
      · exact hc i j hi hj
  have hpre : Cols n k (gjPre k p s).1 := fun i j hi hj => by
    show (if i = k then _ else _) = _
    split
    · next e => rw [hsw i j hi hj, e, show unitE k j = 0 from if_neg (by omega), Gf.zero_mul]
    · exact hsw i j hi hj
  have hone : (gjPre k p s).1 k k = 1 := by
    show (if k = k then _ else _) = _
    rw [if_pos rfl, hpv, divE_one hnz', Gf.mul_inv hnz']
  obtain ⟨b1, b2, b3, b4⟩ := elim_ok hk (gjPre k p s) hpre hone n (Nat.le_refl _)
  refine ⟨((alike_swap hk (by omega) s).trans (alike_scale hd _)).trans b1, fun i j hi hj => ?_⟩
  by_cases e : j = k
  · subst e
    by_cases ei : i = j
    · subst ei
      rw [b3, hone]
      exact (if_pos rfl).symm
    · rw [b4 i hi ei hi]
      exact (if_neg ei).symm
  · exact b2 i j hi (by omega)
theorem gj_ok {n : Nat} {F : Mt} : ∀ (k : Nat) (s : Mt × Mt), k ≤ n → gjTo n F k = some s → Alike n (F, unitE) s ∧ Cols n k s.1
  | 0, s, _, h => by
    obtain rfl : (F, unitE) = s := by simpa [gjTo] using h
    exact ⟨Alike.refl _ _, fun i j hi hj => absurd hj (Nat.not_lt_zero _)⟩
  | k + 1, s, hk, h => by
    simp only [gjTo] at h
    obtain ⟨t, ht, hs⟩ := Option.bind_eq_some_iff.1 h
    obtain ⟨a1, a2⟩ := gj_ok k t (by omega) ht
    obtain ⟨b1, b2⟩ := step_ok (by omega) t s a2 hs
    exact ⟨a1.trans b1, b2⟩

theorem timesF_dot (n : Nat) (A B : Mt) (i j : Nat) : timesF A B n i j = dot n A i (fun k => B k j) := rfl
/-- What gjTo gives undoes F, on either side. -/
theorem gj_inv {n : Nat} {F : Mt} {s : Mt × Mt} (h : gjTo n F n = some s) : (∀ i j, i < n → j < n → timesF F s.2 n i j = unitE i j) ∧ (∀ i j, i < n → j < n → timesF s.2 F n i j = unitE i j) := by
  obtain ⟨hal, hcol⟩ := gj_ok n s (Nat.le_refl _) h
  have hA : ∀ i x, i < n → dot n s.1 i x = x i := fun i x hi => by
    rw [← dot_unit hi x]
    exact sumE_congr fun j hj => by rw [hcol i j hi hj]
  refine ⟨fun i j hi hj => ?_, fun i j hi hj => ?_⟩
  · have := (hal (fun k => s.2 k j) (fun k => unitE k j)).2 (fun r hr => by
      show dot n s.1 r _ = dot n s.2 r _
      rw [hA r _ hr]
      show s.2 r j = sumE n (fun k => Gf.mul (s.2 r k) (unitE k j))
      rw [sumE_one hj (fun k hk hne => by unfold unitE; rw [if_neg hne, Gf.mul_zero])]
      unfold unitE
      rw [if_pos rfl, Gf.mul_one]) i hi
    have h2 : dot n F i (fun k => s.2 k j) = dot n unitE i (fun k => unitE k j) := this
    rw [dot_unit hi] at h2
    exact h2
  · have := (hal (fun k => unitE k j) (fun k => F k j)).1 (fun r hr => by
      show dot n F r _ = dot n unitE r _
      rw [dot_unit hr]
      show sumE n (fun k => Gf.mul (F r k) (unitE k j)) = F r j
      rw [sumE_one hj (fun k hk hne => by unfold unitE; rw [if_neg hne, Gf.mul_zero])]
      unfold unitE
      rw [if_pos rfl, Gf.mul_one]) i hi
    have h2 : dot n s.1 i (fun k => unitE k j) = dot n s.2 i (fun k => F k j) := this
    rw [hA i _ hi] at h2
    exact h2.symm
/-- A matrix that sends nothing but nought to nought is turned. -/
theorem gj_some {n : Nat} {F : Mt} (hinj : ∀ x : Nat → Gf.E, (∀ i, i < n → dot n F i x = 0) → ∀ j, j < n → x j = 0) : ∀ k, k ≤ n → ∃ s, gjTo n F k = some s
  | 0, _ => ⟨_, rfl⟩
  | k + 1, hk => by
    obtain ⟨s, hs⟩ := gj_some hinj k (by omega)
    obtain ⟨hal, hcol⟩ := gj_ok k s (by omega) hs
    have hp : ∃ p, pivot n k s.1 = some p := by
      rcases hq : pivot n k s.1 with _ | p
      · exfalso
        have hz : ∀ q, q < n - k → s.1 (k + q) k = 0 := fun q hq' => by
          have := List.find?_eq_none.1 hq q (List.mem_range.2 hq')
          unfold nz at this
          simpa using this
        have hx := (hal (fun j => if j < k then s.1 j k else if j = k then 1 else 0) (fun _ => 0)).2 (fun i hi => by
          show dot n s.1 i _ = dot n s.2 i _
          rw [dot_zero]
          unfold dot
          by_cases hik : i < k
          · have e : ∀ m, k < m → m ≤ n → sumE m (fun j => Gf.mul (s.1 i j) (if j < k then s.1 j k else if j = k then 1 else 0)) = 0 := by
              intro m hm hmn
              induction m with
              | zero => omega
              | succ m ih =>
                simp only [sumE]
                by_cases em : m = k
                · subst em
                  rw [sumE_one hik (fun j hj hne => by rw [hcol i j hi hj]; unfold unitE; rw [if_neg (fun e => hne e.symm), Gf.zero_mul])]
                  rw [hcol i i hi hik]
                  simp only [unitE, if_pos hik, Nat.lt_irrefl, if_false, if_true]
                  rw [Gf.one_mul, Gf.mul_one, Gf.add_self]
                · rw [ih (by omega) (by omega), if_neg (by omega), if_neg em, Gf.mul_zero, Gf.add_zero]
            exact e n (by omega) (Nat.le_refl _)
          · refine sumE_zero fun j hj => ?_
            by_cases hjk : j < k
            · rw [hcol i j hi hjk]; unfold unitE; rw [if_neg (by omega), Gf.zero_mul]
            · by_cases ej : j = k
              · subst ej
                have := hz (i - j) (by omega)
                rw [show j + (i - j) = i by omega] at this
                rw [this, Gf.zero_mul]
              · show Gf.mul _ (if j < k then _ else if j = k then _ else _) = 0
                rw [if_neg hjk, if_neg ej, Gf.mul_zero])
        have := hinj _ (fun i hi => by
          have h2 : dot n F i _ = dot n unitE i (fun _ => 0) := hx i hi
          rw [h2, dot_zero]) k (by omega)
        rw [if_neg (Nat.lt_irrefl k), if_pos rfl] at this
        exact Gf.one_ne_zero this
      · exact ⟨p, rfl⟩
    obtain ⟨p, hp⟩ := hp
    refine ⟨elimTo k n (gjPre k p s), ?_⟩
    simp only [gjTo, hs]
    show gjStep n k s = _
    unfold gjStep
    rw [hp]
    rfl
end Go.Proofs.Ytccfnhocjiehnaa
