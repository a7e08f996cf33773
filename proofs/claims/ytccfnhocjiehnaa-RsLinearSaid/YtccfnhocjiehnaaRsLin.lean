/- Reed-Solomon is linear; one byte that is changed is found. Plain. -/
import Derived.Test.YtccfnhocjiehnaaCheck
import Derived.Test.YtccfnhocjiehnaaLin
import Derived.Test.YtccfnhocjiehnaaCau
namespace Go.Proofs.Ytccfnhocjiehnaa
open Go.RowKit
set_option linter.unusedVariables false
set_option linter.unusedSimpArgs false

/-! ### The plain law -/
theorem sumE_add' {f g h : Nat → Gf.E} : ∀ n : Nat, (∀ k, k < n → h k = Gf.add (f k) (g k)) → sumE n h = Gf.add (sumE n f) (sumE n g) := fun n e => by
  rw [sumE_congr e]; exact sumE_add n
theorem splitF_add (q n : Nat) (f g : Nat → Gf.E) (i j : Nat) : splitF q n (fun x => Gf.add (f x) (g x)) i j = Gf.add (splitF q n f i j) (splitF q n g i j) := by
  unfold splitF
  split
  · rfl
  · decide
theorem encF_add (k q n : Nat) (f g : Nat → Gf.E) (i j : Nat) : encF k q n (fun x => Gf.add (f x) (g x)) i j = Gf.add (encF k q n f i j) (encF k q n g i j) := by
  unfold encF
  by_cases h : i < k
  · simp only [if_pos h]; exact splitF_add q n f g i j
  · simp only [if_neg h]
    refine sumE_add' k fun x _ => ?_
    rw [splitF_add, Gf.mul_add]
theorem encF_congr {k q n : Nat} {f g : Nat → Gf.E} (e : ∀ j, j < n → f j = g j) (i j : Nat) : encF k q n f i j = encF k q n g i j := by
  have hs : ∀ i j, splitF q n f i j = splitF q n g i j := fun i j => by
    unfold splitF
    split
    · rename_i h; exact e _ h
    · rfl
  unfold encF
  by_cases h : i < k
  · simp only [if_pos h]; exact hs i j
  · simp only [if_neg h]
    exact sumE_congr fun x _ => by rw [hs]
/-- One byte is changed. -/
theorem changed {k m q n : Nat} (f : Nat → Gf.E) {i0 j0 : Nat} (hk : 1 ≤ k) (hm : 1 ≤ m) (hkm : k + m ≤ 255) (hi : i0 < k + m) (hj : j0 < q) {x : Gf.E} (hx : x ≠ 0) :
    sameB m m (fun _ => q) (fun _ => q) (timesF (cauE k) (upd (encF k q n f) i0 j0 (Gf.add (encF k q n f i0 j0) x)) k) (fun i => upd (encF k q n f) i0 j0 (Gf.add (encF k q n f i0 j0) x) (k + i)) = false := by
  have hcan : ∀ a : Gf.E, Gf.add a x ≠ a := fun a e => hx (by
    have h : Gf.add a (Gf.add a x) = Gf.add a a := by rw [e]
    rwa [← Gf.add_assoc, Gf.add_self, Gf.zero_add] at h)
  refine decide_eq_false fun h => ?_
  have h := h.2
  by_cases hlt : i0 < k
  · have h1 := (h 0 (by omega)).2 j0 hj
    have e2 : upd (encF k q n f) i0 j0 (Gf.add (encF k q n f i0 j0) x) (k + 0) j0 = encF k q n f (k + 0) j0 := by
      unfold upd; rw [if_neg (by omega)]
    replace h1 := h1.trans e2
    have e3 : encF k q n f (k + 0) j0 = timesF (cauE k) (encF k q n f) k 0 j0 := by
      unfold encF
      simp only [if_neg (show ¬ k + 0 < k by omega)]
      rw [show k + 0 - k = 0 by omega]
      exact sumE_congr fun y hy => by simp only [if_pos hy]
    have e4 : timesF (cauE k) (upd (encF k q n f) i0 j0 (Gf.add (encF k q n f i0 j0) x)) k 0 j0 = Gf.add (timesF (cauE k) (encF k q n f) k 0 j0) (Gf.mul (cauE k 0 i0) x) := by
      have : Gf.mul (cauE k 0 i0) x = sumE k (fun y => if y = i0 then Gf.mul (cauE k 0 y) x else 0) := by
        rw [sumE_one hlt (fun y _ hne => by simp only [if_neg hne])]
        simp
      rw [this]
      refine sumE_add' k fun y _ => ?_
      unfold upd
      by_cases e : y = i0
      · subst e
        simp only [and_self, if_true]
        exact Gf.mul_add _ _ _
      · simp only [e, false_and, if_false]
        rw [Gf.add_zero]
    rw [e4, e3] at h1
    have hc : cauE k 0 i0 ≠ 0 := by
      unfold cauE
      rw [divE_inv]
      refine Gf.inv_ne_zero (fun e => ?_)
      have := byteE_inj (a := k + 0) (b := i0) (by omega) (by omega) (by have := Gf.add_eq_zero e; simpa using this)
      omega
    have h2 : Gf.add (timesF (cauE k) (encF k q n f) k 0 j0) (Gf.add (timesF (cauE k) (encF k q n f) k 0 j0) (Gf.mul (cauE k 0 i0) x)) = Gf.add (timesF (cauE k) (encF k q n f) k 0 j0) (timesF (cauE k) (encF k q n f) k 0 j0) := by rw [h1]
    rw [← Gf.add_assoc, Gf.add_self, Gf.zero_add] at h2
    exact Gf.mul_ne_zero hc hx h2
  · have h1 := (h (i0 - k) (by omega)).2 j0 hj
    have e2 : upd (encF k q n f) i0 j0 (Gf.add (encF k q n f i0 j0) x) (k + (i0 - k)) j0 = Gf.add (encF k q n f i0 j0) x := by
      unfold upd; rw [if_pos ⟨by omega, rfl⟩]
    replace h1 := h1.trans e2
    have e3 : timesF (cauE k) (upd (encF k q n f) i0 j0 (Gf.add (encF k q n f i0 j0) x)) k (i0 - k) j0 = encF k q n f i0 j0 := by
      unfold encF
      simp only [if_neg hlt]
      refine sumE_congr fun y hy => ?_
      unfold upd
      rw [if_neg (by omega)]
      simp only [if_pos hy]
    rw [e3] at h1
    exact hcan _ h1.symm

end Go.Proofs.Ytccfnhocjiehnaa
