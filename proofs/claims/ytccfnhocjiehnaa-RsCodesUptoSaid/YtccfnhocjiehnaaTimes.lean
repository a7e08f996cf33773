/- gf's product of matrices. -/
import Derived.Test.YtccfnhocjiehnaaRight
namespace Go.Proofs.Ytccfnhocjiehnaa
open Go.RowKit
set_option linter.unusedVariables false
set_option linter.unusedSimpArgs false

def sumE : Nat → (Nat → Gf.E) → Gf.E
  | 0, _ => 0
  | k + 1, f => Gf.add (sumE k f) (f k)
theorem sumE_congr {f g : Nat → Gf.E} : ∀ {n : Nat}, (∀ k, k < n → f k = g k) → sumE n f = sumE n g
  | 0, _ => rfl
  | n + 1, h => by simp only [sumE]; rw [sumE_congr (fun k hk => h k (by omega)), h n (by omega)]
def timesF (F G : Nat → Nat → Gf.E) (m : Nat) : Nat → Nat → Gf.E := fun i j => sumE m (fun k => Gf.mul (F i k) (G k j))

theorem mul_v (x y : Gf.E) (w : World) : Calls Try.prog 61 #[.int .u8 (x.val : Int), .int .u8 (y.val : Int)] w fun e w' => e = .returned (.int .u8 ((Gf.mul x y).val : Int)) ∧ w = w' := mul_c x y w
theorem add_v (x y : Gf.E) (w : World) : Calls Try.prog 49 #[.int .u8 (x.val : Int), .int .u8 (y.val : Int)] w fun e w' => e = .returned (.int .u8 ((Gf.add x y).val : Int)) ∧ w = w' := add_c x y w

def timesOk (n m : Nat) (L M : Nat → Nat) : Bool := rightB n L && (rightB m M && decide (L 0 = m))
theorem rightB_pos {n : Nat} {L : Nat → Nat} (h : rightB n L = true) : 1 ≤ n ∧ n ≤ 255 ∧ 1 ≤ L 0 ∧ L 0 ≤ 255 ∧ ∀ i, i < n → L i = L 0 := of_decide_eq_true h
/-- Two boxes: what came in, in memory. -/
theorem boxes2 (w : World) (x y : Value) (tx ty : TypeId) (hx : x.oneCell' = true) (hy : y.oneCell' = true) :
    ((w.alloc (.cells #[x] tx)).alloc (.cells #[y] ty)).cell? ⟨w.heap.size, 0, none⟩ = some x ∧ ((w.alloc (.cells #[x] tx)).alloc (.cells #[y] ty)).cell? ⟨w.heap.size + 1, 0, none⟩ = some y ∧ Below w.heap.size w ((w.alloc (.cells #[x] tx)).alloc (.cells #[y] ty)) := by
  refine ⟨?_, ?_, ((Below.refl _ _).alloc (Nat.le_refl _) _).alloc (by simp) _⟩
  · rw [World.cell?_alloc_past _ _ _ (by simp), World.cell?_alloc_at _ _ _ _ rfl]; rfl
  · rw [World.cell?_alloc_at _ _ _ _ (by simp)]; rfl

end Go.Proofs.Ytccfnhocjiehnaa
