/- Any k rows of Unit and Cauchy, one below the other, send nothing but nought to nought. Plain Lean. -/
import Derived.Test.YtccfnhocjiehnaaLin
import Derived.Test.YtccfnhocjiehnaaRows2
namespace Go.Proofs.Ytccfnhocjiehnaa
set_option linter.unusedVariables false
set_option linter.unusedSimpArgs false

def lsum {α : Type} (l : List α) (f : α → Gf.E) : Gf.E := l.foldr (fun a s => Gf.add (f a) s) 0
theorem lsum_nil {α : Type} (f : α → Gf.E) : lsum [] f = 0 := rfl
theorem lsum_cons {α : Type} (a : α) (l : List α) (f : α → Gf.E) : lsum (a :: l) f = Gf.add (f a) (lsum l f) := rfl
theorem lsum_append {α : Type} (l m : List α) (f : α → Gf.E) : lsum (l ++ m) f = Gf.add (lsum l f) (lsum m f) := by
  induction l with
  | nil => exact (Gf.zero_add _).symm
  | cons a l ih => rw [List.cons_append, lsum_cons, lsum_cons, ih, Gf.add_assoc]
theorem lsum_map {α β : Type} (g : α → β) (l : List α) (f : β → Gf.E) : lsum (l.map g) f = lsum l (fun a => f (g a)) := by
  induction l with
  | nil => rfl
  | cons a l ih => rw [List.map_cons, lsum_cons, lsum_cons, ih]
theorem lsum_congr {α : Type} {l : List α} {f g : α → Gf.E} (h : ∀ a ∈ l, f a = g a) : lsum l f = lsum l g := by
  induction l with
  | nil => rfl
  | cons a l ih => rw [lsum_cons, lsum_cons, h a (List.mem_cons_self ..), ih (fun b hb => h b (List.mem_cons_of_mem _ hb))]
theorem lsum_zero {α : Type} {l : List α} {f : α → Gf.E} (h : ∀ a ∈ l, f a = 0) : lsum l f = 0 := by
  induction l with
  | nil => rfl
  | cons a l ih => rw [lsum_cons, h a (List.mem_cons_self ..), ih (fun b hb => h b (List.mem_cons_of_mem _ hb)), Gf.add_zero]
theorem lsum_mul {α : Type} (l : List α) (x : Gf.E) (f : α → Gf.E) : lsum l (fun a => Gf.mul x (f a)) = Gf.mul x (lsum l f) := by
  induction l with
  | nil => exact (Gf.mul_zero x).symm
  | cons a l ih => rw [lsum_cons, lsum_cons, ih, Gf.mul_add]
theorem lsum_add {α : Type} (l : List α) (f g : α → Gf.E) : lsum l (fun a => Gf.add (f a) (g a)) = Gf.add (lsum l f) (lsum l g) := by
  induction l with
  | nil => exact (Gf.add_self 0).symm
  | cons a l ih => rw [lsum_cons, lsum_cons, lsum_cons, ih, Gf.add_assoc, Gf.add_assoc, ← Gf.add_assoc (lsum l f) (g a), Gf.add_comm (lsum l f) (g a), Gf.add_assoc (g a)]
theorem sumE_filter (p : Nat → Bool) (f : Nat → Gf.E) : ∀ n : Nat, (∀ j, j < n → p j = false → f j = 0) → sumE n f = lsum ((List.range n).filter p) f
  | 0, _ => rfl
  | n + 1, h => by
    rw [List.range_succ, List.filter_append, lsum_append]
    simp only [sumE]
    rw [sumE_filter p f n (fun j hj => h j (by omega))]
    congr 1
    by_cases e : p n = true
    · rw [List.filter_cons, if_pos e]; exact (Gf.add_zero _).symm
    · rw [List.filter_cons, if_neg e, h n (by omega) (by simpa using e)]; rfl

theorem frac1 (a d : Gf.E) (ha : a ≠ 0) : Gf.mul (Gf.add a d) (Gf.inv a) = Gf.add 1 (Gf.mul d (Gf.inv a)) := by rw [Gf.add_mul, Gf.mul_inv ha]
theorem frac2 (a b d : Gf.E) (ha : a ≠ 0) (hb : b ≠ 0) : Gf.add (Gf.mul (Gf.add a d) (Gf.inv a)) (Gf.mul (Gf.add b d) (Gf.inv b)) = Gf.mul (Gf.add a b) (Gf.mul (Gf.mul d (Gf.inv b)) (Gf.inv a)) := by
  rw [frac1 a d ha, frac1 b d hb, Gf.add_mul]
  have e1 : Gf.mul a (Gf.mul (Gf.mul d (Gf.inv b)) (Gf.inv a)) = Gf.mul d (Gf.inv b) := by
    rw [Gf.mul_left_comm, Gf.mul_inv ha, Gf.mul_one]
  have e2 : Gf.mul b (Gf.mul (Gf.mul d (Gf.inv b)) (Gf.inv a)) = Gf.mul d (Gf.inv a) := by
    rw [← Gf.mul_assoc, Gf.mul_left_comm, Gf.mul_inv hb, Gf.mul_one]
  rw [e1, e2, Gf.add_assoc, Gf.add_left_comm (Gf.mul d (Gf.inv a)), ← Gf.add_assoc 1 1, Gf.add_self, Gf.zero_add, Gf.add_comm]
theorem add_ne {x y : Gf.E} (h : x ≠ y) : Gf.add x y ≠ 0 := fun e => h (Gf.add_eq_zero e)
theorem add_mid (x y z : Gf.E) : Gf.add (Gf.add x y) (Gf.add y z) = Gf.add x z := by rw [Gf.add_assoc, Gf.add_add_self]

theorem cau_zero : ∀ (ys xs : List Gf.E) (c : Gf.E → Gf.E), ys.Nodup → xs.Nodup → (∀ x ∈ xs, ∀ y ∈ ys, x ≠ y) → ys.length ≤ xs.length → (∀ x ∈ xs, lsum ys (fun y => Gf.mul (c y) (Gf.inv (Gf.add x y))) = 0) → ∀ y ∈ ys, c y = 0
  | [], _, _, _, _, _, _, _ => fun y h => by cases h
  | y0 :: ys, [], _, _, _, _, hl, _ => by simp at hl
  | y0 :: ys, x0 :: xs, c, hy, hx, hne, hl, hs => by
    have hy0 := List.nodup_cons.1 hy
    have hx0 := List.nodup_cons.1 hx
    have hxy : ∀ x ∈ x0 :: xs, ∀ y ∈ y0 :: ys, Gf.add x y ≠ 0 := fun x h1 y h2 => add_ne (hne x h1 y h2)
    have key : ∀ x ∈ xs, lsum ys (fun y => Gf.mul (Gf.mul (c y) (Gf.mul (Gf.add y y0) (Gf.inv (Gf.add x0 y)))) (Gf.inv (Gf.add x y))) = 0 := fun x hxm => by
      have hxm' : x ∈ x0 :: xs := List.mem_cons_of_mem _ hxm
      have h1 := hs x hxm'
      have h2 := hs x0 (List.mem_cons_self ..)
      rw [lsum_cons] at h1 h2
      have h3 : Gf.add (Gf.mul (Gf.add x y0) (Gf.add (Gf.mul (c y0) (Gf.inv (Gf.add x y0))) (lsum ys fun y => Gf.mul (c y) (Gf.inv (Gf.add x y))))) (Gf.mul (Gf.add x0 y0) (Gf.add (Gf.mul (c y0) (Gf.inv (Gf.add x0 y0))) (lsum ys fun y => Gf.mul (c y) (Gf.inv (Gf.add x0 y))))) = 0 := by
        rw [h1, h2, Gf.mul_zero, Gf.mul_zero, Gf.add_zero]
      rw [Gf.mul_add, Gf.mul_add, Gf.mul_left_comm, Gf.mul_inv (hxy x hxm' y0 (List.mem_cons_self ..)), Gf.mul_left_comm (Gf.add x0 y0) (c y0), Gf.mul_inv (hxy x0 (List.mem_cons_self ..) y0 (List.mem_cons_self ..)), Gf.mul_one] at h3
      rw [Gf.add_assoc, Gf.add_left_comm (Gf.mul (Gf.add x y0) _) (c y0), Gf.add_add_self, ← lsum_mul, ← lsum_mul, ← lsum_add] at h3
      have h4 : lsum ys (fun y => Gf.mul (Gf.add x x0) (Gf.mul (Gf.mul (c y) (Gf.mul (Gf.add y y0) (Gf.inv (Gf.add x0 y)))) (Gf.inv (Gf.add x y)))) = 0 := by
        rw [← h3]
        refine lsum_congr fun y hym => ?_
        have hym' : y ∈ y0 :: ys := List.mem_cons_of_mem _ hym
        have h5 := frac2 (Gf.add x y) (Gf.add x0 y) (Gf.add y y0) (hxy x hxm' y hym') (hxy x0 (List.mem_cons_self ..) y hym')
        rw [add_mid, add_mid, show Gf.add (Gf.add x y) (Gf.add x0 y) = Gf.add x x0 from by rw [Gf.add_comm x0 y, add_mid]] at h5
        rw [Gf.mul_left_comm (Gf.add x y0) (c y), Gf.mul_left_comm (Gf.add x0 y0) (c y), ← Gf.mul_add, h5, Gf.mul_assoc (c y), Gf.mul_left_comm (Gf.add x x0) (c y)]
      rw [lsum_mul] at h4
      rcases Gf.mul_eq_zero h4 with h | h
      · exact absurd (Gf.add_eq_zero h) (fun e => hx0.1 (e ▸ hxm))
      · exact h
    have hc := cau_zero ys xs (fun y => Gf.mul (c y) (Gf.mul (Gf.add y y0) (Gf.inv (Gf.add x0 y)))) hy0.2 hx0.2 (fun x h1 y h2 => hne x (List.mem_cons_of_mem _ h1) y (List.mem_cons_of_mem _ h2)) (by simp at hl; omega) key
    have hc' : ∀ y ∈ ys, c y = 0 := fun y hym => by
      have h := hc y hym
      rcases Gf.mul_eq_zero h with h | h
      · exact h
      · rcases Gf.mul_eq_zero h with h | h
        · exact absurd (Gf.add_eq_zero h) (fun e => hy0.1 (e ▸ hym))
        · exact absurd h (Gf.inv_ne_zero (hxy x0 (List.mem_cons_self ..) y (List.mem_cons_of_mem _ hym)))
    intro y hym
    rcases List.mem_cons.1 hym with rfl | hym
    · have h := hs x0 (List.mem_cons_self ..)
      rw [lsum_cons, lsum_zero (fun z hz => by rw [hc' z hz, Gf.zero_mul]), Gf.add_zero] at h
      rcases Gf.mul_eq_zero h with h | h
      · exact h
      · exact absurd h (Gf.inv_ne_zero (hxy x0 (List.mem_cons_self ..) y (List.mem_cons_self ..)))
    · exact hc' y hym

theorem len_sub : ∀ (l m : List Nat), l.Nodup → (∀ a ∈ l, a ∈ m) → l.length ≤ m.length
  | [], _, _, _ => Nat.zero_le _
  | a :: l, m, hn, hs => by
    have h0 := List.nodup_cons.1 hn
    have ha := hs a (List.mem_cons_self ..)
    have := len_sub l (m.erase a) h0.2 (fun b hb => by
      have hne : b ≠ a := fun e => h0.1 (e ▸ hb)
      exact (List.mem_erase_of_ne hne).2 (hs b (List.mem_cons_of_mem _ hb)))
    rw [List.length_erase_of_mem ha] at this
    have hp := List.length_pos_of_mem ha
    simp only [List.length_cons]
    omega
theorem filter_split (p : Nat → Bool) : ∀ l : List Nat, l.length = (l.filter p).length + (l.filter fun a => !p a).length
  | [] => rfl
  | a :: l => by
    rw [List.length_cons, filter_split p l, List.filter_cons, List.filter_cons]
    cases p a <;> simp <;> omega
theorem some_free {l : List Nat} {K : Nat} (h : l.length < K) : ∃ n, n < K ∧ n ∉ l := by
  apply Classical.byContradiction
  intro hn
  have := len_sub (List.range K) l List.nodup_range (fun a ha => Classical.byContradiction fun h' => hn ⟨a, List.mem_range.1 ha, h'⟩)
  simp at this
  omega

/-- Unit, and Cauchy below it. -/
def unitCau (k : Nat) : Mt := fun i j => if i < k then unitE i j else cauE k (i - k) j
theorem byteE_inj {a b : Nat} (ha : a < 256) (hb : b < 256) (h : byteE (a : Int) = byteE (b : Int)) : a = b := by
  have h1 := byteE_val (a : Int)
  have h2 := byteE_val (b : Int)
  rw [h] at h1
  omega
def byN (a : Nat) : Gf.E := byteE (a : Int)
theorem nodup_bytes : ∀ {l : List Nat}, l.Nodup → (∀ a ∈ l, a < 256) → (l.map byN).Nodup
  | [], _, _ => List.nodup_nil
  | a :: l, h, hb => by
    have h0 := List.nodup_cons.1 h
    rw [List.map_cons, List.nodup_cons]
    refine ⟨fun hm => ?_, nodup_bytes h0.2 (fun b hb' => hb b (List.mem_cons_of_mem _ hb'))⟩
    obtain ⟨b, hbm, he⟩ := List.mem_map.1 hm
    exact h0.1 (byteE_inj (hb a (List.mem_cons_self ..)) (hb b (List.mem_cons_of_mem _ hbm)) he.symm ▸ hbm)
theorem any_rows {k m : Nat} (R : List Nat) (hn : R.Nodup) (hl : R.length = k) (hlt : ∀ r ∈ R, r < k + m) (hkm : k + m ≤ 256) (x : Nat → Gf.E) (hx : ∀ r ∈ R, dot k (unitCau k) r x = 0) : ∀ j, j < k → x j = 0 := by
  have h1 : ∀ r ∈ R, r < k → x r = 0 := fun r hr hrk => by
    have := hx r hr
    rw [show dot k (unitCau k) r x = dot k unitE r x from sumE_congr fun j _ => by simp only [unitCau, if_pos hrk], dot_unit hrk] at this
    exact this
  let free := (List.range k).filter (fun j => decide (j ∉ R))
  have hfree : ∀ j, j ∈ free ↔ j < k ∧ j ∉ R := fun j => by simp [free]
  have hz := cau_zero (free.map byN) ((R.filter fun r => decide (k ≤ r)).map byN) (fun y => x y.val)
    (nodup_bytes (List.Pairwise.filter _ List.nodup_range) (fun a ha => by have := (hfree a).1 ha; omega))
    (nodup_bytes (List.Pairwise.filter _ hn) (fun a ha => by have := hlt a (List.mem_filter.1 ha).1; omega))
    (fun u hu y hy e => by
      obtain ⟨a, ha, rfl⟩ := List.mem_map.1 hu
      obtain ⟨b, hb, rfl⟩ := List.mem_map.1 hy
      have h2 := List.mem_filter.1 ha
      have h3 := (hfree b).1 hb
      have h4 := hlt a h2.1
      have h5 : k ≤ a := by simpa using h2.2
      have := byteE_inj (by omega) (by omega) e
      omega)
    (by
      rw [List.length_map, List.length_map]
      have e1 : free.length + ((List.range k).filter (fun j => decide (j ∈ R))).length = k := by
        have := filter_split (fun j => decide (j ∈ R)) (List.range k)
        rw [List.length_range] at this
        have e : (List.range k).filter (fun j => !decide (j ∈ R)) = free := by
          show _ = (List.range k).filter _
          congr 1; funext j; simp
        rw [e] at this
        omega
      have e2 := filter_split (fun r => decide (k ≤ r)) R
      have e3 := len_sub (R.filter fun r => !decide (k ≤ r)) ((List.range k).filter (fun j => decide (j ∈ R))) (List.Pairwise.filter _ hn) (fun a ha => by
        have h2 := List.mem_filter.1 ha
        have h3 : a < k := by simpa using h2.2
        exact List.mem_filter.2 ⟨List.mem_range.2 h3, by simpa using h2.1⟩)
      omega)
    (fun u hu => by
      obtain ⟨a, ha, rfl⟩ := List.mem_map.1 hu
      have h2 := List.mem_filter.1 ha
      have h4 := hlt a h2.1
      have h5 : k ≤ a := by simpa using h2.2
      have h6 := hx a h2.1
      unfold dot at h6
      rw [sumE_filter (fun j => decide (j ∉ R)) _ k (fun j hj hp => by
        have : j ∈ R := by simpa using hp
        rw [h1 j this hj, Gf.mul_zero])] at h6
      rw [lsum_map, ← h6]
      refine lsum_congr fun j hj => ?_
      have h7 := (hfree j).1 hj
      have hv : (byteE (j : Int)).val = j := by have := byteE_val (j : Int); omega
      show Gf.mul (x (byteE (j : Int)).val) _ = Gf.mul (unitCau k a j) (x j)
      unfold unitCau
      rw [hv, if_neg (by omega), Gf.mul_comm]
      congr 1
      unfold cauE
      rw [show ((k : Int) + ((a - k : Nat) : Int)) = (a : Int) by omega, divE_one (add_ne (fun e => by have := byteE_inj (by omega) (by omega) e; omega))]
      rfl)
  intro j hj
  by_cases hr : j ∈ R
  · exact h1 j hr hj
  · have := hz (byteE (j : Int)) (List.mem_map.2 ⟨j, (hfree j).2 ⟨hj, hr⟩, rfl⟩)
    have hv : (byteE (j : Int)).val = j := by have := byteE_val (j : Int); omega
    simp only [hv] at this
    exact this
/-- Any k rows of them are turned, and what comes is their inverse. -/
theorem rows_inverse {k m : Nat} (f : Nat → Int) (R : List Nat) (hf : ∀ i, i < k → R[i]? = some (f i).toNat) (hn : R.Nodup) (hl : R.length = k) (hlt : ∀ r ∈ R, r < k + m) (hkm : k + m ≤ 256) :
    ∃ s, gjTo k (rowsF (unitCau k) f) k = some s ∧ (∀ i j, i < k → j < k → timesF (rowsF (unitCau k) f) s.2 k i j = unitE i j) ∧ (∀ i j, i < k → j < k → timesF s.2 (rowsF (unitCau k) f) k i j = unitE i j) := by
  obtain ⟨s, hs⟩ := gj_some (n := k) (F := rowsF (unitCau k) f) (fun x hx => any_rows R hn hl hlt hkm x (fun r hr => by
    obtain ⟨i, hi, he⟩ := List.getElem_of_mem hr
    have h1 := hx i (by omega)
    have h2 := hf i (by omega)
    rw [List.getElem?_eq_getElem hi, he] at h2
    injection h2 with h2
    rw [h2]
    exact h1)) k (Nat.le_refl _)
  exact ⟨s, hs, gj_inv hs⟩
end Go.Proofs.Ytccfnhocjiehnaa
