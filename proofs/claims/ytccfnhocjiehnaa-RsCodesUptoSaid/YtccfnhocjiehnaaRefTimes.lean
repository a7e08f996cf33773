/- The reference's Times. -/
import Derived.Test.YtccfnhocjiehnaaCopy
import Derived.Test.YtccfnhocjiehnaaTimes
import Derived.StillTailTactics
namespace Go.Proofs.Ytccfnhocjiehnaa
open Go.RowKit
set_option linter.unusedVariables false
set_option linter.unusedSimpArgs false

theorem rmul_v (x y : Gf.E) (w : World) : Calls Try.prog 56 #[.int .u8 (x.val : Int), .int .u8 (y.val : Int)] w fun e w' => e = .returned (.int .u8 ((Gf.mul x y).val : Int)) ∧ w = w' := rmul_c x y w

theorem OwnMat.lower' {w w1 wr : World} {g n m : Nat} {bs : Nat → Nat} {F : Nat → Nat → Gf.E} (h : OwnMat w1 wr g n m bs F) (hb : Below w.heap.size w w1) : OwnMat w wr g n m bs F := by
  obtain ⟨h1, h2, h3, h4, h5⟩ := h
  have := hb.size
  exact ⟨h1, by omega, fun i hi => by have := h3 i hi; omega, h4, below_then hb hb.size h5⟩
/-- While the product grows: k terms of element (i, j). -/
def timesSt (F G : Nat → Nat → Gf.E) (m i j k : Nat) : Nat → Nat → Gf.E := fun p r => if p < i ∨ (p = i ∧ r < j) then timesF F G m p r else if p = i ∧ r = j then sumE k (fun t => Gf.mul (F p t) (G t r)) else 0
theorem timesSt_at (F G : Nat → Nat → Gf.E) (m i j k : Nat) : timesSt F G m i j k i j = sumE k (fun t => Gf.mul (F i t) (G t j)) := by
  unfold timesSt
  rw [if_neg (by omega), if_pos ⟨rfl, rfl⟩]
theorem timesSt_step (F G : Nat → Nat → Gf.E) (m i j k : Nat) : ∀ p r, upd (timesSt F G m i j k) i j (Gf.add (sumE k (fun t => Gf.mul (F i t) (G t j))) (Gf.mul (F i k) (G k j))) p r = timesSt F G m i j (k + 1) p r := fun p r => by
  unfold upd
  by_cases e : p = i ∧ r = j
  · rw [if_pos e, e.1, e.2, timesSt_at]; rfl
  · rw [if_neg e]
    unfold timesSt
    by_cases e2 : p < i ∨ (p = i ∧ r < j)
    · rw [if_pos e2, if_pos e2]
    · rw [if_neg e2, if_neg e2, if_neg e, if_neg e]
theorem timesSt_col (F G : Nat → Nat → Gf.E) (m i j : Nat) : ∀ p r, timesSt F G m i j m p r = timesSt F G m i (j + 1) 0 p r := fun p r => by
  unfold timesSt
  by_cases e2 : p < i ∨ (p = i ∧ r < j)
  · rw [if_pos e2, if_pos (by omega)]
  · rw [if_neg e2]
    by_cases e : p = i ∧ r = j
    · rw [if_pos e, if_pos (by omega)]; rfl
    · rw [if_neg e, if_neg (by omega)]
      split <;> rfl
theorem timesSt_row (F G : Nat → Nat → Gf.E) (m i q : Nat) : ∀ p r, r < q → timesSt F G m i q 0 p r = timesSt F G m (i + 1) 0 0 p r := fun p r hr => by
  unfold timesSt
  by_cases e2 : p < i ∨ (p = i ∧ r < q)
  · rw [if_pos e2, if_pos (by omega)]
  · rw [if_neg e2, if_neg (by omega), if_neg (by omega)]
    split <;> rfl

end Go.Proofs.Ytccfnhocjiehnaa
