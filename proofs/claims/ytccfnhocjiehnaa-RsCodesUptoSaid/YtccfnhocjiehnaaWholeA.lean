/- Words for rs.whole: which shards are taken; Unit with Cauchy behind it. -/
import Derived.Test.YtccfnhocjiehnaaCheckC
import Derived.Test.YtccfnhocjiehnaaCau
import Derived.Test.YtccfnhocjiehnaaInvC
import Derived.ArgAppend
namespace Go.Proofs.Ytccfnhocjiehnaa
open Go.RowKit
set_option linter.unusedVariables false
set_option linter.unusedSimpArgs false

/-! ### Which shards -/
def presTo (L : Nat → Nat) (i : Nat) : List Nat := (List.range i).filter fun j => !noneB L j
def rowsTo (L : Nat → Nat) (k i : Nat) : List Nat := (presTo L i).take k
theorem presTo_yes {L : Nat → Nat} {i : Nat} (h : 0 < L i) : presTo L (i + 1) = presTo L i ++ [i] := by
  unfold presTo
  rw [List.range_succ, List.filter_append]
  simp [noneB, show ¬ L i = 0 by omega]
theorem presTo_no {L : Nat → Nat} {i : Nat} (h : L i = 0) : presTo L (i + 1) = presTo L i := by
  unfold presTo
  rw [List.range_succ, List.filter_append]
  simp [noneB, h]
theorem rowsTo_yes {L : Nat → Nat} {k i : Nat} (h : 0 < L i) (hl : (rowsTo L k i).length < k) : rowsTo L k (i + 1) = rowsTo L k i ++ [i] := by
  unfold rowsTo at hl ⊢
  rw [List.length_take] at hl
  rw [presTo_yes h, List.take_of_length_le (by simp; omega), List.take_of_length_le (by omega)]
theorem rowsTo_no {L : Nat → Nat} {k i : Nat} (h : L i = 0) : rowsTo L k (i + 1) = rowsTo L k i := by unfold rowsTo; rw [presTo_no h]
theorem rowsTo_full {L : Nat → Nat} {k i : Nat} (hl : ¬ (rowsTo L k i).length < k) : rowsTo L k (i + 1) = rowsTo L k i := by
  by_cases h : L i = 0
  · exact rowsTo_no h
  · unfold rowsTo at hl ⊢
    rw [List.length_take] at hl
    rw [presTo_yes (by omega), List.take_append_of_le_length (by omega)]
theorem rowsTo_len (L : Nat → Nat) (k i : Nat) : (rowsTo L k i).length ≤ k := by unfold rowsTo; rw [List.length_take]; omega
theorem rowsTo_mem {L : Nat → Nat} {k i r : Nat} (h : r ∈ rowsTo L k i) : r < i ∧ 0 < L r := by
  have h1 := List.mem_of_mem_take h
  unfold presTo at h1
  rw [List.mem_filter, List.mem_range] at h1
  refine ⟨h1.1, ?_⟩
  have := h1.2
  simp [noneB] at this
  omega
theorem rowsTo_nodup (L : Nat → Nat) (k i : Nat) : (rowsTo L k i).Nodup := (List.nodup_range.filter _).sublist (List.take_sublist _ _)
def rowN (L : Nat → Nat) (k i : Nat) (j : Nat) : Nat := (rowsTo L k i).getD j 0
theorem rowN_at {L : Nat → Nat} {k i j : Nat} (h : j < (rowsTo L k i).length) : (rowsTo L k i)[j]? = some (rowN L k i j) := by
  unfold rowN
  rw [List.getD_eq_getElem?_getD, List.getElem?_eq_getElem h]; rfl
theorem rowN_mem {L : Nat → Nat} {k i j : Nat} (h : j < (rowsTo L k i).length) : rowN L k i j < i ∧ 0 < L (rowN L k i j) := rowsTo_mem (List.mem_of_getElem? (rowN_at h))

/-- Two rows of unlike types are in unlike blocks. -/
theorem own_own_ne {w : World} {b1 b2 s1 s2 n1 n2 : Nat} {e1 e2 : TypeId} {v1 v2 : Value} {x1 x2 : List Value} (h1 : w.ownsRow b1 e1 s1 v1 n1 x1) (h2 : w.ownsRow b2 e2 s2 v2 n2 x2) (hne : e1 ≠ e2) : v1.ownBlock = none ∨ v1.ownBlock ≠ v2.ownBlock := by
  rcases h1.2 with ⟨rfl, _⟩ | ⟨g, cap, cur, rfl, _, hh, _⟩
  · exact .inl rfl
  · right
    rcases h2.2 with ⟨rfl, _⟩ | ⟨g2, cap2, cur2, rfl, _, hh2, _⟩
    · simp [Value.ownBlock]
    · intro e
      have e' : g = g2 := by simpa [Value.ownBlock] using e
      subst e'
      rw [hh] at hh2
      injection hh2 with hh2
      injection hh2 with _ ht
      exact hne ht
theorem own_below {w w1 : World} {base size n : Nat} {e : TypeId} {v : Value} {xs : List Value} (h : w.ownsRow base e size v n xs) (hb : Below w.heap.size w w1) : w1.ownsRow base e size v n xs :=
  h.kept (row := none) ⟨hb.os, hb.tape, hb.output, hb.size, fun i hi _ => hb.block i hi⟩ (by cases v.ownBlock <;> simp)
theorem RdF.of_own {w : World} {base n c : Nat} {e : TypeId} {A : Option Addr} {xs : List Value} {f : Nat → Value} (h : w.ownsRow base e 1 (.slice A n c) n xs) (hx : ∀ i, i < n → xs[i]? = some (f i)) : RdF w A n f := fun h0 => by
  obtain ⟨b, cap, hv, _, hr, _⟩ := RowAt.of_own h0 h hx
  injection hv with hA
  subst hA
  exact hr.rd h0

theorem info3 : (Try.prog.info? 3).map (fun i => (i.zero, i.size, i.bytes)) = some (some (.int .i64 0), 1, 8) := by kernel_rfl

theorem unit_any (n : Nat) (w : World) (h1 : 1 ≤ n) (h2 : n ≤ 255) : Calls Try.prog 52 #[.int .i64 n] w fun e w' => e = .returned (.tuple #[.slice (some ⟨w.heap.size, 0, none⟩) n n, .int .i64 0]) ∧ Below w.heap.size w w' ∧ MatAt w' w.heap.size n n (fun i => w.heap.size + 1 + i) unitE := by
  go_enter Try.func52, Try.ntmps52
  go_wp2_with (go_at_call 46; refine (made_any 62 (fun _ _ => rfl) #[] unitE n n _ (by omega) (by omega) (fun i j w' _ _ _ => (unit1_c i j w').mono fun e w5 h => ⟨h.1, h.2 ▸ Drew.refl _⟩)).mono ?_; rintro e w' ⟨rfl, hs, hb, hM⟩; replace hb := Lib.hid hb; replace hM := Lib.hid hM; clear hs)
  go_ret2
  exact ⟨rfl, hb.out, hM.out⟩

/-- Unit and Cauchy's rows behind it, read. -/
def UnitCau (w : World) (A : Option Addr) (k m : Nat) : Prop := ∃ (Mr : Nat → Option Addr) (Mc : Nat → Nat), RdF w A (k + m) (fun i => .slice (Mr i) k (Mc i)) ∧ ∀ i, i < k + m → k ≤ Mc i ∧ RdB w (Mr i) k (unitCau k i)
theorem UnitCau.below {w w1 : World} {A : Option Addr} {k m : Nat} (h : UnitCau w A k m) (hb : Below w.heap.size w w1) : UnitCau w1 A k m := by
  obtain ⟨Mr, Mc, h1, h2⟩ := h
  exact ⟨Mr, Mc, h1.below hb, fun i hi => ⟨(h2 i hi).1, RdF.below (h2 i hi).2 hb⟩⟩
theorem unitCau_lo {k i j : Nat} (h : i < k) : unitCau k i j = unitE i j := by unfold unitCau; rw [if_pos h]
theorem unitCau_hi {k i j : Nat} (h : ¬ i < k) : unitCau k i j = cauE k (i - k) j := by unfold unitCau; rw [if_neg h]
/-- No parity: Unit alone. -/
theorem UnitCau.zero {w : World} {g k : Nat} {bs : Nat → Nat} (h : MatAt w g k k bs unitE) : UnitCau w (some ⟨g, 0, none⟩) k 0 := by
  obtain ⟨cs, h1, h2⟩ := h
  exact ⟨fun i => some ⟨bs i, 0, none⟩, cs, h1.rd, fun i hi => ⟨(h2 i hi).1, RdF.congr (h2 i hi).2.rd (fun j hj => by rw [unitCau_lo (by omega)])⟩⟩
/-- The rows of parity appended. -/
theorem UnitCau.more {w w1 : World} {k m base : Nat} {bs cs : Nat → Nat} {Pr : Nat → Option Addr} {Pc : Nat → Nat} {A' : Option Addr} {c' : Nat} (hrow : ∀ i, i < k → k ≤ cs i ∧ RowAt w (bs i) 5 k (fun j => vb (unitE i j)))
    (hP : ∀ i, i < m → k ≤ Pc i ∧ RdB w (Pr i) k (cauE k i)) (hb : Below w.heap.size w w1)
    (hown : w1.ownsRow base 22 1 (.slice A' (k + m) c') (k + m) (rowVals k k bs cs ++ (List.range m).map fun i => .slice (Pr i) k (Pc i))) : UnitCau w1 A' k m := by
  refine ⟨fun i => if i < k then some ⟨bs i, 0, none⟩ else Pr (i - k), fun i => if i < k then cs i else Pc (i - k), RdF.of_own hown (fun i hi => ?_), fun i hi => ?_⟩
  · by_cases hik : i < k
    · rw [List.getElem?_append_left (by rw [rowVals_len]; exact hik), rowVals_at hik]
      simp only [if_pos hik]
    · rw [List.getElem?_append_right (by rw [rowVals_len]; omega), rowVals_len, List.getElem?_map, List.getElem?_range (by omega)]
      simp only [if_neg hik]; rfl
  · by_cases hik : i < k
    · simp only [if_pos hik]
      exact ⟨(hrow i hik).1, RdF.congr ((hrow i hik).2.below hb).rd (fun j hj => by rw [unitCau_lo hik])⟩
    · simp only [if_neg hik]
      exact ⟨(hP (i - k) (by omega)).1, RdF.congr (RdF.below (hP (i - k) (by omega)).2 hb) (fun j hj => by rw [unitCau_hi hik])⟩
end Go.Proofs.Ytccfnhocjiehnaa
