/- Any k shards tell the data. Plain. -/
import Derived.Test.YtccfnhocjiehnaaRepair
import Derived.Test.YtccfnhocjiehnaaLin
namespace Go.Proofs.Ytccfnhocjiehnaa
open Go.RowKit
set_option linter.unusedVariables false
set_option linter.unusedSimpArgs false

theorem enc_row {k q n r : Nat} (d : Nat → Gf.E) (x : Nat) : encF k q n d r x = sumE k (fun j => Gf.mul (unitCau k r j) (splitF q n d j x)) := by
  unfold encF
  by_cases h : r < k
  · simp only [if_pos h]
    rw [sumE_one h (fun j hj hne => by rw [unitCau_lo h]; unfold unitE; rw [if_neg (fun e => hne e.symm), Gf.zero_mul])]
    rw [unitCau_lo h]; unfold unitE; rw [if_pos rfl, Gf.one_mul]
  · simp only [if_neg h]
    exact sumE_congr fun j _ => by rw [unitCau_hi h]
/-- The inverse of the rows that are taken makes the data of them. -/
theorem undo_rows {k : Nat} {F : Mt} {s : Mt × Mt} (h : gjTo k F k = some s) (X : Nat → Nat → Gf.E) {i : Nat} (hi : i < k) (x : Nat) : timesF s.2 (timesF F X k) k i x = X i x := by
  have hinv := (gj_inv h).2
  show sumE k (fun a => Gf.mul (s.2 i a) (sumE k (fun j => Gf.mul (F a j) (X j x)))) = X i x
  have e1 : sumE k (fun a => Gf.mul (s.2 i a) (sumE k (fun j => Gf.mul (F a j) (X j x)))) = sumE k (fun a => sumE k (fun j => Gf.mul (Gf.mul (s.2 i a) (F a j)) (X j x))) := by
    refine sumE_congr fun a _ => ?_
    rw [← sumE_mul]
    exact sumE_congr fun j _ => (Gf.mul_assoc _ _ _).symm
  rw [e1, sumE_swap]
  have e2 : sumE k (fun j => sumE k (fun a => Gf.mul (Gf.mul (s.2 i a) (F a j)) (X j x))) = sumE k (fun j => Gf.mul (unitE i j) (X j x)) := by
    refine sumE_congr fun j hj => ?_
    rw [← hinv i j hi hj]
    show _ = Gf.mul (sumE k (fun a => Gf.mul (s.2 i a) (F a j))) (X j x)
    rw [Gf.mul_comm, ← sumE_mul]
    exact sumE_congr fun a _ => Gf.mul_comm _ _
  rw [e2]
  exact dot_unit hi (fun j => X j x)
theorem timesF_congr {A B C : Mt} {m : Nat} (e : ∀ a x, a < m → B a x = C a x) (i x : Nat) : timesF A B m i x = timesF A C m i x := sumE_congr fun a ha => by rw [e a x ha]
/-- What whole makes of shards of a code is the data. -/
theorem whole_data {L : Nat → Nat} {G D : Nat → Nat → Gf.E} {k q n s : Nat} {d : Nat → Gf.E} (hG : ∀ i, i < s → 0 < L i → ∀ x, x < q → G i x = encF k q n d i x) (hks : k ≤ s) (hlen : (rowsTo L k s).length = k) (h : WholeD L G k s D) :
    ∀ i, i < k → ∀ x, x < q → D i x = splitF q n d i x := by
  intro i hi x hx
  rcases h with ⟨hL, rfl⟩ | ⟨A', O', hg, rfl⟩
  · rw [hG i (by omega) (hL i hi) x hx]
    unfold encF
    simp only [if_pos hi]
  · rw [← undo_rows hg (splitF q n d) hi x]
    show sumE k _ = sumE k _
    refine sumE_congr fun a ha => ?_
    have hr := rowN_mem (L := L) (k := k) (i := s) (j := a) (by omega)
    simp only
    rw [hG _ hr.1 hr.2 x hx, enc_row]
    congr 1
/-- What Repair makes of shards of a code are all shards. -/
theorem rep_enc {L : Nat → Nat} {G D : Nat → Nat → Gf.E} {k q n s : Nat} {d : Nat → Gf.E} (hG : ∀ i, i < s → 0 < L i → ∀ x, x < q → G i x = encF k q n d i x) (hks : k ≤ s) (hlen : (rowsTo L k s).length = k) (h : WholeD L G k s D) :
    ∀ i, i < s → ∀ x, x < q → repF L G D k i x = encF k q n d i x := by
  intro i hi x hx
  have hD := whole_data hG hks hlen h
  unfold repF
  by_cases hl : 0 < L i
  · rw [if_pos hl]; exact hG i hi hl x hx
  · rw [if_neg hl]
    by_cases hk : i < k
    · rw [if_pos hk, hD i hk x hx]
      unfold encF
      simp only [if_pos hk]
    · rw [if_neg hk]
      unfold encF
      simp only [if_neg hk]
      exact sumE_congr fun a ha => by rw [hD a ha x hx]
/-- How many are there. -/
theorem pres_count (L : Nat → Nat) (s : Nat) : s = (presTo L s).length + ((List.range s).filter (noneB L)).length := by
  have h := filter_split (noneB L) (List.range s)
  rw [List.length_range] at h
  unfold presTo
  omega
theorem rows_full {L : Nat → Nat} {k s : Nat} {M : List Nat} (h : ∀ i, i < s → L i = 0 → i ∈ M) (hM : k + M.length ≤ s) : (rowsTo L k s).length = k := by
  have h1 := pres_count L s
  have h2 : ((List.range s).filter (noneB L)).length ≤ M.length := len_sub _ _ (List.nodup_range.filter _) (fun a ha => by
    rw [List.mem_filter, List.mem_range] at ha
    exact h a ha.1 (of_decide_eq_true ha.2))
  unfold rowsTo
  rw [List.length_take]
  omega
/-- The data behind one another. -/
def allF (n : Nat) (d : Nat → Gf.E) (p : Nat) : Gf.E := if p < n then d p else 0
theorem all_more {k q n i : Nat} {d : Nat → Gf.E} (hi : i < k) : newsB (i * q) (allF n d) ++ newsB q (encF k q n d i) = newsB ((i + 1) * q) (allF n d) := by
  unfold newsB
  rw [Nat.succ_mul, List.range_add, List.map_append]
  congr 1
  rw [List.map_map]
  refine List.map_congr_left fun j _ => ?_
  show vb _ = vb (allF n d (i * q + j))
  unfold encF splitF allF
  simp only [if_pos hi]
theorem wide_least {k n : Nat} (hk : 1 ≤ k) (h : 1 < wide k n) : (wide k n - 1) * k < n := by
  have e : wide k n = (n + k - 1) / k := by unfold wide at h ⊢; omega
  have h2 := Nat.div_mul_le_self (n + k - 1) k
  rw [← e] at h2
  rw [Nat.sub_mul, Nat.one_mul]
  have h3 : 1 * k ≤ wide k n * k := Nat.mul_le_mul_right k (by omega)
  omega
theorem alike_of {L : Nat → Nat} {s q : Nat} (h : ∀ i, i < s → L i = 0 ∨ L i = q) : alikeB s s L = true := by
  refine decide_eq_true ⟨rfl, fun i hi => ?_⟩
  rcases maxL_is L s with h0 | ⟨j, hj, he⟩
  · have := maxL_le L hi
    exact .inl (by omega)
  · have h1 := h i hi
    have h2 := h j hj
    have h3 := maxL_le L hi
    omega
/-- Shards of which some are gone, read. -/
theorem lost_rd {w w1 : World} {g gl s q : Nat} {b3 cs : Nat → Nat} {E : Nat → Nat → Gf.E} {Ls : Nat → Nat} {Ar : Nat → Option Addr} {Cr : Nat → Nat} (hrow : ∀ i, i < s → q ≤ cs i ∧ RowAt w (b3 i) 5 q (fun j => vb (E i j))) (hb : Below w.heap.size w w1)
    (hL : ∀ i, i < s → (Ls i = 0 ∧ Ar i = none ∧ Cr i = 0) ∨ (Ls i = q ∧ Ar i = some ⟨b3 i, 0, none⟩ ∧ Cr i = cs i)) (hout : RdF w1 (some ⟨gl, 0, none⟩) s (fun i => .slice (Ar i) (Ls i) (Cr i))) : RdM w1 (some ⟨gl, 0, none⟩) s Ls E := by
  refine ⟨Ar, Cr, hout, fun i hi => ?_⟩
  rcases hL i hi with ⟨h1, h2, h3⟩ | ⟨h1, h2, h3⟩
  · rw [h1, h2, h3]
    exact ⟨Nat.le_refl _, RdF.none_⟩
  · rw [h1, h2, h3]
    exact ⟨(hrow i hi).1, ((hrow i hi).2.below hb).rd⟩
end Go.Proofs.Ytccfnhocjiehnaa
