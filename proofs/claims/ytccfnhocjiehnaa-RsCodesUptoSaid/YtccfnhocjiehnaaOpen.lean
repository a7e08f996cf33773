/- The arguments of this seat's rows, opened: matrices, rows of whole numbers; what the bound of the second form gives of them. -/
import Derived.Test.YtccfnhocjiehnaaRows
import Derived.Test.YtccfnhocjiehnaaRowWords
import Derived.Test.YtccfnhocjiehnaaSame
import Derived.Deep.Matrix
import Derived.JoinedCond
namespace Go.Proofs.Ytccfnhocjiehnaa
open Go.ChangeShapes Go.WideShapes Go.ChangeAt Go.RowKit Go.Deep
set_option linter.unusedVariables false

/-! ### Bulk -/
theorem bulk_append {H : Type} (l r : List (DataW H)) : Rows.uptoBulkAll (l ++ r) = Rows.uptoBulkAll l + Rows.uptoBulkAll r := by
  induction l with
  | nil => simp [Rows.uptoBulkAll]
  | cons x l ih => simp only [List.cons_append, Rows.uptoBulkAll, ih]; omega
theorem bulk_part {H : Type} {d : DataW H} {l : List (DataW H)} (h : d ∈ l) : Rows.uptoBulk d ≤ Rows.uptoBulkAll l := by
  induction l with
  | nil => cases h
  | cons x r ih =>
    simp only [Rows.uptoBulkAll]
    cases List.mem_cons.1 h with
    | inl e => subst e; omega
    | inr e => have := ih e; omega
theorem bulk_one {H : Type} (d : DataW H) : 1 ≤ Rows.uptoBulk d := by
  cases d with
  | lit l => cases l <;> simp [Rows.uptoBulk]
  | _ => simp [Rows.uptoBulk]
theorem bulk_len {H : Type} (l : List (DataW H)) : l.length ≤ Rows.uptoBulkAll l := by
  induction l with
  | nil => simp [Rows.uptoBulkAll]
  | cons x r ih => have := bulk_one x; simp only [Rows.uptoBulkAll, List.length_cons]; omega
theorem bulk_slice {H : Type} (elems spare : List (DataW H)) : Rows.uptoBulkAll elems + 1 ≤ Rows.uptoBulk (.slice elems spare) := by
  simp only [Rows.uptoBulk]
  omega
theorem bulk_rows {H : Type} (D : Nat → DataW H) (L : Nat → Nat) (n : Nat) (h : ∀ i, i < n → L i + 1 ≤ Rows.uptoBulk (D i)) : n + sumL L n ≤ Rows.uptoBulkAll ((List.range n).map D) := by
  induction n with
  | zero => simp [sumL]
  | succ n ih =>
    have := ih (fun i hi => h i (by omega))
    have h2 := h n (by omega)
    rw [List.range_succ, List.map_append, bulk_append]
    simp only [List.map_cons, List.map_nil, Rows.uptoBulkAll, sumL]
    omega
theorem bulk_bound {H : Type} {l : List (DataW H)} (hk : Rows.uptoSmall H l = true) : Rows.uptoBulkAll l ≤ 1048576 := of_decide_eq_true hk

/-! ### Rows of whole numbers -/
theorem ints_row {k : IntKind} {H : Type} {enc : TypeId × Value → H} {W : World} {t e : TypeId} {a : Option Addr} {len cap : Nat} {d : DataW H} {ps : List MemPlace} (ht : Try.prog.underlying t = some (.slice e)) (he : Try.prog.underlying e = some (.int k)) (hc : Try.prog.cellsOf e = 1)
    (h : DataW.Trod enc Try.prog W 0 (fun _ => true) true t (.slice a len cap) d ps) :
    ∃ f : Nat → Int, RdF W a len (fun j => .int k (f j)) ∧ (∀ j, j < len → (Lit.int k (f j)).wf = true) ∧ len ≤ cap ∧ len + 1 ≤ Rows.uptoBulk d ∧ (len = 0 ∨ ∃ el sp, d = .slice el sp ∧ el.length = len) := by
  obtain ⟨fuel, hf⟩ := h
  rcases open_ints ht he hc hf with ⟨hcs, hx⟩ | ⟨x, l, c, zs, hcs, _, hl, hm, hz, hx, hcell, hwz⟩
  · simp [Value.cells] at hcs
    obtain ⟨rfl, rfl, rfl⟩ := hcs
    obtain ⟨rfl, _⟩ := Prod.mk.inj hx
    exact ⟨fun _ => 0, RdF.none_, fun j hj => absurd hj (Nat.not_lt_zero _), Nat.le_refl _, by simp [Rows.uptoBulk], .inl rfl⟩
  · simp [Value.cells] at hcs
    obtain ⟨rfl, rfl, rfl⟩ := hcs
    obtain ⟨rfl, _⟩ := Prod.mk.inj hx
    simp only [if_true] at hz
    have hlen : (lits (H := H) k (zs.take len)).length = len := by simp [lits]; omega
    refine ⟨fun j => zs.getD j 0, fun _ => ⟨_, rfl, fun j hj => hcell j (by omega)⟩, fun j hj => ?_, hl, ?_, .inr ⟨_, _, rfl, hlen⟩⟩
    · refine hwz _ ?_
      show zs.getD j 0 ∈ zs
      rw [List.getD_eq_getElem?_getD, List.getElem?_eq_getElem (by omega)]
      exact List.getElem_mem _
    · have h1 := bulk_slice (H := H) (lits k (zs.take len)) (lits k (zs.drop len))
      have h2 := bulk_len (H := H) (lits k (zs.take len))
      omega
def IsInts (W : World) (a : Option Addr) (len cap : Nat) : Prop := ∃ f : Nat → Int, RdF W a len (fun j => .int .i64 (f j)) ∧ (∀ j, j < len → -9223372036854775808 ≤ f j ∧ f j ≤ 9223372036854775807) ∧ len ≤ cap
def IsBytes (W : World) (a : Option Addr) (len cap : Nat) : Prop := ∃ f : Nat → Gf.E, RdB W a len f ∧ len ≤ cap
theorem bytes_of_row {W : World} {a : Option Addr} {len : Nat} {f : Nat → Int} (h : RdF W a len (fun j => .int .u8 (f j))) (hw : ∀ j, j < len → (Lit.int .u8 (f j)).wf = true) : RdB W a len (fun j => byteE (f j)) := by
  refine h.congr (fun j hj => ?_)
  have hx : 0 ≤ f j ∧ f j ≤ 255 := by simpa [Lit.wf, IntKind.min, IntKind.max, IntKind.signed, IntKind.bits] using hw j hj
  unfold vb
  rw [byteE_val]
  congr 1
  omega

section
variable {H : Type} {enc : TypeId × Value → H} {W : World} {a : Option Addr} {len cap : Nat} {d : DataW H} {ps : List MemPlace}
theorem ints_up {ds : List (DataW H)} (hk : Rows.uptoSmall H ds = true) (hd : d ∈ ds) (h : DataW.Trod enc Try.prog W 0 (fun _ => true) true 37 (.slice a len cap) d ps) : len ≤ 1048576 ∧ IsInts W a len cap := by
  obtain ⟨f, h1, h2, h3, h4, _⟩ := ints_row Try.underlying37 Try.underlying3 (by kernel_rfl) h
  have := bulk_part hd
  have := bulk_bound hk
  exact ⟨by omega, f, h1, fun j hj => int_of (h2 j hj), h3⟩
theorem bytes_up {ds : List (DataW H)} (hk : Rows.uptoSmall H ds = true) (hd : d ∈ ds) (h : DataW.Trod enc Try.prog W 0 (fun _ => true) true 22 (.slice a len cap) d ps) : len ≤ 1048576 ∧ IsBytes W a len cap := by
  obtain ⟨f, h1, h2, h3, h4, _⟩ := ints_row Try.underlying22 Try.underlying5 (by kernel_rfl) h
  have := bulk_part hd
  have := bulk_bound hk
  exact ⟨by omega, _, bytes_of_row h1 h2, h3⟩
theorem sized_row {ts : List TypeId} {ds : List (DataW H)} {j : Nat} {t e : TypeId} {k : IntKind} (hsz : (DataW.weightsEach Try.prog ts ds).all (· ≤ reachBytes) = true) (ht : ts[j]? = some t) (hd : ds[j]? = some d) (hu : Try.prog.underlying t = some (.slice e)) (hz : len = 0 ∨ ∃ el sp, d = .slice el sp ∧ el.length = len) : len * Try.prog.bytesOf e ≤ 140737488351232 := by
  rcases hz with rfl | ⟨el, sp, rfl, rfl⟩
  · simp
  · have z := sized_slice hsz ht hd hu
    exact Nat.le_trans (Nat.mul_le_mul_right _ (Nat.le_add_right _ _)) z
theorem ints_of {ts : List TypeId} {ds : List (DataW H)} {j : Nat} (hsz : (DataW.weightsEach Try.prog ts ds).all (· ≤ reachBytes) = true) (ht : ts[j]? = some 37) (hd : ds[j]? = some d) (h : DataW.Trod enc Try.prog W 0 (fun _ => true) true 37 (.slice a len cap) d ps) : len * 8 ≤ 140737488351232 ∧ IsInts W a len cap := by
  obtain ⟨f, h1, h2, h3, _, h5⟩ := ints_row Try.underlying37 Try.underlying3 (by kernel_rfl) h
  exact ⟨sized_row (k := .i64) hsz ht hd Try.underlying37 h5, f, h1, fun j hj => int_of (h2 j hj), h3⟩
theorem bytes_of {ts : List TypeId} {ds : List (DataW H)} {j : Nat} (hsz : (DataW.weightsEach Try.prog ts ds).all (· ≤ reachBytes) = true) (ht : ts[j]? = some 22) (hd : ds[j]? = some d) (h : DataW.Trod enc Try.prog W 0 (fun _ => true) true 22 (.slice a len cap) d ps) : len * 1 ≤ 140737488351232 ∧ IsBytes W a len cap := by
  obtain ⟨f, h1, h2, h3, _, h5⟩ := ints_row Try.underlying22 Try.underlying5 (by kernel_rfl) h
  exact ⟨sized_row (k := .u8) hsz ht hd Try.underlying22 h5, _, bytes_of_row h1 h2, h3⟩

/-! ### Matrices -/
def IsMat (W : World) (a : Option Addr) (len cap : Nat) : Prop := ∃ (L : Nat → Nat) (F : Nat → Nat → Gf.E), RdM W a len L F ∧ len + sumL L len ≤ 1048576 ∧ len ≤ cap
theorem mat_up {ds : List (DataW H)} (hk : Rows.uptoSmall H ds = true) (hd : d ∈ ds) (h : DataW.Trod enc Try.prog W 0 (fun _ => true) true 28 (.slice a len cap) d ps) : len ≤ 1048576 ∧ IsMat W a len cap := by
  have hp := bulk_part hd
  have hb := bulk_bound hk
  obtain ⟨fuel, hf⟩ := h
  rcases open_int_rows Try.underlying28 Try.underlying22 Try.underlying5 (by kernel_rfl) (by kernel_rfl) hf with ⟨hcs, hx⟩ | ⟨x, l, c, A, L, C, Z, hcs, _, hl, hm, hx, hrow⟩
  · simp [Value.cells] at hcs
    obtain ⟨rfl, rfl, rfl⟩ := hcs
    exact ⟨by omega, fun _ => 0, fun _ _ => 0, ⟨fun _ => none, fun _ => 0, RdF.none_, fun i hi => absurd hi (Nat.not_lt_zero _)⟩, by simp [sumL], Nat.le_refl _⟩
  · simp [Value.cells] at hcs
    obtain ⟨rfl, rfl, rfl⟩ := hcs
    obtain ⟨rfl, _⟩ := Prod.mk.inj hx
    have h1 := bulk_rows (fun r => intRow (H := H) .u8 (A r) (L r) (Z r)) L len (fun r hr => by
      obtain ⟨_, h2, h3, h4, _, h6, _⟩ := hrow r (by omega)
      cases hA : A r with
      | none =>
        have := h6 hA
        simp only [intRow, Rows.uptoBulk]; omega
      | some y =>
        simp only [intRow]
        have g1 := bulk_slice (H := H) (lits .u8 ((Z r).take (L r))) (lits .u8 ((Z r).drop (L r)))
        have g2 := bulk_len (H := H) (lits .u8 ((Z r).take (L r)))
        have g3 : (lits (H := H) .u8 ((Z r).take (L r))).length = L r := by simp [lits]; omega
        omega)
    have h2 := bulk_slice (H := H) ((List.range len).map fun r => intRow .u8 (A r) (L r) (Z r)) ((List.range (cap - len)).map fun j => intRow .u8 (A (len + j)) (L (len + j)) (Z (len + j)))
    have hbd : len + sumL L len ≤ 1048576 := by omega
    refine ⟨by omega, L, fun i j => byteE ((Z i).getD j 0), ⟨A, C, fun _ => ⟨_, rfl, fun j hj => (hrow j (by omega)).1⟩, fun i hi => ?_⟩, hbd, hl⟩
    obtain ⟨_, h2, h3, h4, h5, h6, h7⟩ := hrow i (by omega)
    refine ⟨h2, bytes_of_row (f := fun j => (Z i).getD j 0) (fun hn => ?_) (fun j hj => ?_)⟩
    · cases hA : A i with
      | none => have := h6 hA; omega
      | some y => exact ⟨y, rfl, fun j hj => (h7 y hA).2 j (by omega)⟩
    · refine h5 _ ?_
      show (Z i).getD j 0 ∈ Z i
      rw [List.getD_eq_getElem?_getD, List.getElem?_eq_getElem (by omega)]
      exact List.getElem_mem _
end
end Go.Proofs.Ytccfnhocjiehnaa
