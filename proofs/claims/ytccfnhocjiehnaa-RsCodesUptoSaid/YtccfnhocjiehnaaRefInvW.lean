/- The reference's Inverse: words on its two matrices. -/
import Derived.Test.YtccfnhocjiehnaaRefScale
namespace Go.Proofs.Ytccfnhocjiehnaa
open Go.RowKit
set_option linter.unusedVariables false
set_option linter.unusedSimpArgs false

structure QR (w wr : World) (n ga go : Nat) (bsa bso : Nat → Nat) (A O : Mt) : Prop where
  ma : OwnMat w wr ga n n bsa A
  mo : OwnMat w wr go n n bso O
  sepg : ga ≠ go
  sepr : ∀ i j, i < n → j < n → bsa i ≠ bso j
theorem QR.flip {w wr : World} {n ga go : Nat} {bsa bso : Nat → Nat} {A O : Mt} (h : QR w wr n ga go bsa bso A O) : QR w wr n go ga bso bsa O A :=
  ⟨h.mo, h.ma, fun e => h.sepg e.symm, fun i j hi hj e => h.sepr j i hj hi e.symm⟩
theorem QR.turnA {S : Nat → Prop} {w wr w1 : World} {n ga go : Nat} {bsa bso bsa' : Nat → Nat} {A O A' : Mt} (h : QR w wr n ga go bsa bso A O) (hm : OwnMat w w1 ga n n bsa' A') (hc : Chg S wr w1)
    (hbs : ∀ i, i < n → ∃ j, j < n ∧ bsa' i = bsa j) (hS : ∀ i, S i → i = ga ∨ ∃ j, j < n ∧ i = bsa j) : QR w w1 n ga go bsa' bso A' O := by
  obtain ⟨_, fa⟩ := h.ma.outer
  obtain ⟨_, fo⟩ := h.mo.outer
  have hlo : ∀ i, S i → w.heap.size ≤ i := fun i hi => by
    rcases hS i hi with rfl | ⟨j, hj, rfl⟩
    · exact h.ma.2.1
    · exact h.ma.2.2.1 j hj
  refine ⟨hm, h.mo.chg hc (fun hs => ?_) (fun i hi hs => ?_) hlo, h.sepg, fun i j hi hj => ?_⟩
  · rcases hS _ hs with e | ⟨j, hj, e⟩
    · exact h.sepg e.symm
    · exact fo.ne_ (h.ma.rowAt hj) (by decide) e
  · rcases hS _ hs with e | ⟨j, hj, e⟩
    · exact (h.mo.rowAt hi).ne_ fa (by decide) e
    · exact h.sepr j i hj hi e.symm
  · obtain ⟨q, hq, e⟩ := hbs i hi
    rw [e]
    exact h.sepr q j hq hj
theorem QR.drewN {w wr : World} {n ga go : Nat} {bsa bso : Nat → Nat} {A O : Mt} (h : QR w wr n ga go bsa bso A O) (q : Nat) : QR w (wr.drewN q) n ga go bsa bso A O := ⟨h.ma.drewN q, h.mo.drewN q, h.sepg, h.sepr⟩
theorem QR.scaleA {w wr w1 : World} {n ga go k : Nat} {bsa bso : Nat → Nat} {A O : Mt} {x : Gf.E} (h : QR w wr n ga go bsa bso A O) (hk : k < n) (hr : RowAt w1 (bsa k) 5 n (fun j => vb (Gf.mul (A k j) x))) (hc : Chg (· = bsa k) wr w1) : QR w w1 n ga go bsa bso (scaleF A k x) O :=
  h.turnA (h.ma.row hk (hr.congr (fun j hj => by unfold scaleF; rw [if_pos rfl])) hc (fun i j e => if_neg e)) hc (fun i hi => ⟨i, hi, rfl⟩) (fun i hi => .inr ⟨k, hk, hi⟩)
theorem QR.mixA {w wr w1 : World} {n ga go i k : Nat} {bsa bso : Nat → Nat} {A O : Mt} {y : Gf.E} (h : QR w wr n ga go bsa bso A O) (hi : i < n) (hr : RowAt w1 (bsa i) 5 n (fun j => vb (Gf.add (A i j) (Gf.mul (A k j) y)))) (hc : Chg (· = bsa i) wr w1) : QR w w1 n ga go bsa bso (plusF A i k y) O :=
  h.turnA (h.ma.row hi (hr.congr (fun j hj => by unfold plusF; rw [if_pos rfl])) hc (fun r j e => if_neg e)) hc (fun r hr => ⟨r, hr, rfl⟩) (fun r hr => .inr ⟨i, hi, hr⟩)
/-- Rows k and p change places: what the exchange reads, and what it leaves. -/
theorem OwnMat.swapW {w0 w : World} {g n m k p : Nat} {bs : Nat → Nat} {F : Mt} (hM : OwnMat w0 w g n m bs F) (hk : k < n) (hp : p < n) :
    ∃ ck cp, w.cell? ⟨g, k, none⟩ = some (.slice (some ⟨bs k, 0, none⟩) m ck) ∧ w.cell? ⟨g, p, none⟩ = some (.slice (some ⟨bs p, 0, none⟩) m cp) ∧ w.frozen? ⟨g, k, none⟩ = false ∧ w.frozen? ⟨g, p, none⟩ = false ∧
      (w.setCell ⟨g, k, none⟩ (.slice (some ⟨bs p, 0, none⟩) m cp)).cell? ⟨g, p, none⟩ = some (.slice (some ⟨bs p, 0, none⟩) m cp) ∧
      OwnMat w0 ((w.setCell ⟨g, k, none⟩ (.slice (some ⟨bs p, 0, none⟩) m cp)).setCell ⟨g, p, none⟩ (.slice (some ⟨bs k, 0, none⟩) m ck)).drew g n m (swapN bs k p) (swapF F k p) ∧
      Chg (· = g) w ((w.setCell ⟨g, k, none⟩ (.slice (some ⟨bs p, 0, none⟩) m cp)).setCell ⟨g, p, none⟩ (.slice (some ⟨bs k, 0, none⟩) m ck)).drew := by
  obtain ⟨⟨cs, ho, hr⟩, q1, q2, q3, q4⟩ := hM
  have hM := MatAt.swap ho hr hk hp
  refine ⟨cs k, cs p, ho.cell hk, ho.cell hp, ho.frozen _, ho.frozen _, ?_, ⟨?_, q1, fun i hi => ?_, swapN_inj hk hp q3, ?_⟩, ?_⟩
  · have h := (ho.set k (.slice (some ⟨bs p, 0, none⟩) m (cs p))).cell hp
    by_cases e : p = k
    · rw [if_pos e] at h; exact h
    · rw [if_neg e] at h; exact h
  · obtain ⟨cs', a1, a2⟩ := hM
    exact ⟨cs', a1, a2⟩
  · unfold swapN
    split
    · exact q2 k hk
    · split
      · exact q2 _ hp
      · exact q2 i hi
  · exact (Below.setCell (Below.setCell q4 (by exact q1) _) (by exact q1) _).drew
  · exact (((Chg.refl (fun x => x = g) w).set (a := ⟨g, k, none⟩) rfl _).set (a := ⟨g, p, none⟩) rfl _).drewN 1
theorem QR.swapA {w wr w1 : World} {n ga go k p : Nat} {bsa bso : Nat → Nat} {A O : Mt} (h : QR w wr n ga go bsa bso A O) (hk : k < n) (hp : p < n) (hm : OwnMat w w1 ga n n (swapN bsa k p) (swapF A k p)) (hc : Chg (· = ga) wr w1) : QR w w1 n ga go (swapN bsa k p) bso (swapF A k p) O :=
  h.turnA hm hc (swapN_of hk hp) (fun i hi => .inl hi)
/-- What the search of a pivot finds. -/
theorem pivot_some {n k P : Nat} {A : Mt} (hk : k ≤ P) (hP : P < n) (hz : ∀ j, k ≤ j → j < P → nz (A j k) = false) (hnz : nz (A P k) = true) : pivot n k A = some (P - k) := by
  unfold pivot
  rw [List.find?_range_eq_some]
  refine ⟨by rw [show k + (P - k) = P by omega]; exact hnz, List.mem_range.2 (by omega), fun j hj => ?_⟩
  rw [hz (k + j) (by omega) (by omega)]; rfl
theorem pivot_nothing {n k : Nat} {A : Mt} (hz : ∀ j, k ≤ j → j < n → nz (A j k) = false) : pivot n k A = none := by
  unfold pivot
  rw [List.find?_eq_none]
  intro x hx
  have := List.mem_range.1 hx
  rw [hz (k + x) (by omega) (by omega)]
  decide
theorem QR.at_ {w wr : World} {n ga go : Nat} {bsa bso : Nat → Nat} {A O : Mt} (h : QR w wr n ga go bsa bso A O) {i j : Nat} (hi : i < n) (hj : j < n) : ∃ c, wr.cell? ⟨ga, i, none⟩ = some (.slice (some ⟨bsa i, 0, none⟩) n c) ∧ wr.cell? ⟨bsa i, j, none⟩ = some (.int .u8 ((A i j).val : Int)) := by
  obtain ⟨⟨cs, h1, h2⟩, _⟩ := h.ma
  exact ⟨cs i, h1.cell hi, (h2 i hi).2.cell hj⟩
/-- After k rounds. -/
def QK (w wr : World) (n ga go k : Nat) (F : Mt) : Prop := ∃ bsa bso A O, QR w wr n ga go bsa bso A O ∧ gjTo n F k = some (A, O)
/-- In the midst of round k. -/
def QI (w wr : World) (n ga go k i : Nat) (s : Mt × Mt) : Prop := ∃ bsa bso, QR w wr n ga go bsa bso (elimTo k i s).1 (elimTo k i s).2
end Go.Proofs.Ytccfnhocjiehnaa
