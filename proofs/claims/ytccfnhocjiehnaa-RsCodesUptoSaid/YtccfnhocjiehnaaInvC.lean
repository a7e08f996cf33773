/- gf's Inverse, whole. -/
import Derived.Test.YtccfnhocjiehnaaInverse
namespace Go.Proofs.Ytccfnhocjiehnaa
open Go.RowKit
def invOk (n : Nat) (L : Nat → Nat) : Bool := rightB n L && decide (n = L 0)
theorem inverse_c (A : Option Addr) (n c : Nat) (L : Nat → Nat) (F : Mt) (w : World) (ha : RdM w A n L F) (hn : n ≤ 4611686018427387904) (hl : ∀ i, i < n → L i ≤ 4611686018427387904) :
    Calls Try.prog 53 #[.slice A n c] w fun e w' => ∃ v, (invOk n L = true ∧ ∃ A' O', gjTo n F n = some (A', O') ∧ e = .returned (.tuple #[v, .int .i64 0]) ∧ NewMat w w' v n n O') ∨ (invOk n L = true ∧ gjTo n F n = none ∧ e = .returned (.tuple #[.slice none 0 0, .int .i64 17]) ∧ Below w.heap.size w w') ∨
      (invOk n L = false ∧ e = .returned (.tuple #[.slice none 0 0, .int .i64 1]) ∧ Below w.heap.size w w') := by
  unfold invOk
  by_cases h1 : rightB n L = true
  · by_cases h2 : n = L 0
    · have e : (rightB n L && decide (n = L 0)) = true := by rw [h1, decide_eq_true h2]; rfl
      refine (inverse_yes A n c L F w ha hn hl h1 h2).mono ?_
      rintro e' w' ⟨v, h | h⟩
      · exact ⟨v, .inl ⟨e, h⟩⟩
      · exact ⟨v, .inr (.inl ⟨e, h⟩)⟩
    · have e : (rightB n L && decide (n = L 0)) = false := by rw [decide_eq_false h2, Bool.and_false]
      exact (inverse_no1 A n c L F w ha hn hl (.inr ⟨h1, h2⟩)).mono fun e' w' h => ⟨.slice none 0 0, .inr (.inr ⟨e, h⟩)⟩
  · have h1 : rightB n L = false := by simpa using h1
    have e : (rightB n L && decide (n = L 0)) = false := by rw [h1, Bool.false_and]
    exact (inverse_no1 A n c L F w ha hn hl (.inl h1)).mono fun e' w' h => ⟨.slice none 0 0, .inr (.inr ⟨e, h⟩)⟩
end Go.Proofs.Ytccfnhocjiehnaa
