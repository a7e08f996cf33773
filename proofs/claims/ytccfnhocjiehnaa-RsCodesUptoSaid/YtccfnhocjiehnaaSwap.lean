/- The closures of gf's Inverse. -/
import Derived.Test.YtccfnhocjiehnaaScale
import Derived.Test.YtccfnhocjiehnaaRefB
import Derived.BigRegion
namespace Go.Proofs.Ytccfnhocjiehnaa
open Go.RowKit
set_option linter.unusedVariables false
set_option linter.unusedSimpArgs false

/-- Rows k and p change places. -/
def swapF (F : Nat → Nat → Gf.E) (k p : Nat) : Nat → Nat → Gf.E := fun i j => if i = p then F k j else if i = k then F p j else F i j
def swapN (bs : Nat → Nat) (k p : Nat) : Nat → Nat := fun i => if i = p then bs k else if i = k then bs p else bs i

set_option maxRecDepth 100000 in
set_option maxHeartbeats 4000000 in
theorem swap4_w (g n cap k p kb pb xk ck mk xp cp mp : Nat) (w : World) (hk : k < n) (hp : k + p < n) (hn : n ≤ 255) (h1 : w.cell? ⟨kb, 0, none⟩ = some (.int .i64 k)) (h2 : w.cell? ⟨pb, 0, none⟩ = some (.int .i64 p))
    (h3 : w.cell? ⟨g, k, none⟩ = some (.slice (some ⟨xk, 0, none⟩) mk ck)) (h4 : w.cell? ⟨g, k + p, none⟩ = some (.slice (some ⟨xp, 0, none⟩) mp cp)) (hf1 : w.frozen? ⟨g, k, none⟩ = false) (hf2 : w.frozen? ⟨g, k + p, none⟩ = false)
    (h6 : (w.setCell ⟨g, k, none⟩ (.slice (some ⟨xp, 0, none⟩) mp cp)).cell? ⟨kb, 0, none⟩ = some (.int .i64 k)) (h7 : (w.setCell ⟨g, k, none⟩ (.slice (some ⟨xp, 0, none⟩) mp cp)).cell? ⟨pb, 0, none⟩ = some (.int .i64 p))
    (h5 : (w.setCell ⟨g, k, none⟩ (.slice (some ⟨xp, 0, none⟩) mp cp)).cell? ⟨g, k + p, none⟩ = some (.slice (some ⟨xp, 0, none⟩) mp cp)) :
    Calls Try.prog 68 (#[.slice (some ⟨g, 0, none⟩) n cap] ++ #[.pointer (some ⟨kb, 0, none⟩), .pointer (some ⟨pb, 0, none⟩)]) w fun e w' => e = .returned (.tuple #[]) ∧ w' = ((w.setCell ⟨g, k, none⟩ (.slice (some ⟨xp, 0, none⟩) mp cp)).setCell ⟨g, k + p, none⟩ (.slice (some ⟨xk, 0, none⟩) mk ck)).drew := by
  have a1 : (k : Int) < (n : Int) := by omega
  have a2 : (k : Int) + (p : Int) < (n : Int) := by omega
  have a3 : (0 : Int) ≤ (k : Int) := by omega
  have a4 : (0 : Int) ≤ (p : Int) := by omega
  go_enter Try.func68, Try.ntmps68
  go_region
  all_goals go_end0
  all_goals exact ⟨rfl, rfl⟩

theorem swapN_inj {bs : Nat → Nat} {n k p : Nat} (hk : k < n) (hp : p < n) (h : ∀ i j, i < n → j < n → bs i = bs j → i = j) : ∀ i j, i < n → j < n → swapN bs k p i = swapN bs k p j → i = j := by
  intro i j hi hj he
  unfold swapN at he
  by_cases a1 : i = p <;> by_cases a2 : j = p
  · omega
  · rw [if_pos a1, if_neg a2] at he
    by_cases a3 : j = k
    · rw [if_pos a3] at he; have := h k p hk hp he; omega
    · rw [if_neg a3] at he; have := h k j hk hj he; omega
  · rw [if_neg a1, if_pos a2] at he
    by_cases a3 : i = k
    · rw [if_pos a3] at he; have := h p k hp hk he; omega
    · rw [if_neg a3] at he; have := h i k hi hk he; omega
  · rw [if_neg a1, if_neg a2] at he
    by_cases a3 : i = k <;> by_cases a4 : j = k
    · omega
    · rw [if_pos a3, if_neg a4] at he; have := h p j hp hj he; omega
    · rw [if_neg a3, if_pos a4] at he; have := h i p hi hp he; omega
    · rw [if_neg a3, if_neg a4] at he; exact h i j hi hj he

theorem MatAt.swap {w : World} {g n m k p : Nat} {bs cs : Nat → Nat} {F : Nat → Nat → Gf.E} (ho : RowAt w g 22 n (fun i => .slice (some ⟨bs i, 0, none⟩) m (cs i))) (hr : ∀ i, i < n → m ≤ cs i ∧ RowAt w (bs i) 5 m (fun j => vb (F i j))) (hk : k < n) (hp : p < n) :
    MatAt ((w.setCell ⟨g, k, none⟩ (.slice (some ⟨bs p, 0, none⟩) m (cs p))).setCell ⟨g, p, none⟩ (.slice (some ⟨bs k, 0, none⟩) m (cs k))) g n m (swapN bs k p) (swapF F k p) := by
  refine ⟨swapN cs k p, ((ho.set k (.slice (some ⟨bs p, 0, none⟩) m (cs p))).set p (.slice (some ⟨bs k, 0, none⟩) m (cs k))).congr (fun i hi => ?_), fun i hi => ?_⟩
  · unfold swapN
    by_cases a1 : i = p
    · simp [a1]
    · by_cases a2 : i = k
      · subst a2; simp [a1]
      · simp [a1, a2]
  · have keep : ∀ q, q < n → RowAt ((w.setCell ⟨g, k, none⟩ (.slice (some ⟨bs p, 0, none⟩) m (cs p))).setCell ⟨g, p, none⟩ (.slice (some ⟨bs k, 0, none⟩) m (cs k))) (bs q) 5 m (fun j => vb (F q j)) := fun q hq => by
      have hne : bs q ≠ g := (hr q hq).2.ne_ ho (by decide)
      exact ((hr q hq).2.setOther (a := ⟨g, k, none⟩) hne _).setOther (a := ⟨g, p, none⟩) hne _
    unfold swapN swapF
    by_cases a1 : i = p
    · simp only [a1, if_true]; exact ⟨(hr k hk).1, keep k hk⟩
    · by_cases a2 : i = k
      · simp only [a1, a2, if_true, if_false]
        rw [if_neg (by omega), if_neg (by omega)]
        exact ⟨(hr p hp).1, (keep p hp).congr (fun j hj => by rw [if_neg (by omega)])⟩
      · simp only [a1, a2, if_false]; exact ⟨(hr i hi).1, keep i hi⟩

theorem swap4_c (w0 : World) (g n cap k p kb pb m : Nat) (bs : Nat → Nat) (F : Nat → Nat → Gf.E) (w : World) (hM : OwnMat w0 w g n m bs F) (hk : k < n) (hp : k + p < n) (hn : n ≤ 255) (h1 : w.cell? ⟨kb, 0, none⟩ = some (.int .i64 k)) (h2 : w.cell? ⟨pb, 0, none⟩ = some (.int .i64 p)) (n1 : kb ≠ g) (n2 : pb ≠ g) :
    Calls Try.prog 68 (#[.slice (some ⟨g, 0, none⟩) n cap] ++ #[.pointer (some ⟨kb, 0, none⟩), .pointer (some ⟨pb, 0, none⟩)]) w fun e w' => e = .returned (.tuple #[]) ∧ OwnMat w0 w' g n m (swapN bs k (k + p)) (swapF F k (k + p)) ∧ Chg (· = g) w w' := by
  obtain ⟨⟨cs, ho, hr⟩, q1, q2, q3, q4⟩ := hM
  refine (swap4_w g n cap k p kb pb (bs k) (cs k) m (bs (k + p)) (cs (k + p)) m w hk hp hn h1 h2 (ho.cell hk) (ho.cell hp) (ho.frozen _) (ho.frozen _) ?_ ?_ ?_).mono ?_
  · exact (World.cell?_setCell_other _ _ _ _ (by intro e; injection e with e1 e2; exact n1 e1.symm)).trans h1
  · exact (World.cell?_setCell_other _ _ _ _ (by intro e; injection e with e1 e2; exact n2 e1.symm)).trans h2
  · have h := (ho.set k (.slice (some ⟨bs (k + p), 0, none⟩) m (cs (k + p)))).cell hp
    by_cases e : k + p = k
    · rw [if_pos e] at h; exact h
    · rw [if_neg e] at h; exact h
  · rintro e w' ⟨rfl, rfl⟩
    have hM := MatAt.swap ho hr hk hp
    refine ⟨rfl, ⟨?_, q1, fun i hi => ?_, swapN_inj hk hp q3, ?_⟩, ?_⟩
    · obtain ⟨cs', a1, a2⟩ := hM
      exact ⟨cs', a1, a2⟩
    · unfold swapN
      split
      · exact q2 k hk
      · split
        · exact q2 _ hp
        · exact q2 i hi
    · exact (Below.setCell (Below.setCell q4 (by exact q1) _) (by exact q1) _).drew
    · exact (((Chg.refl (fun x => x = g) w).set (a := ⟨g, k, none⟩) rfl _).set (a := ⟨g, k + p, none⟩) rfl _).drewN 1

/-! ### scale and plus on a matrix's rows -/
def scaleF (F : Nat → Nat → Gf.E) (k : Nat) (x : Gf.E) : Nat → Nat → Gf.E := fun i j => if i = k then Gf.mul (F i j) x else F i j
def plusF (F : Nat → Nat → Gf.E) (i k : Nat) (y : Gf.E) : Nat → Nat → Gf.E := fun r j => if r = i then Gf.add (F r j) (Gf.mul (F k j) y) else F r j

theorem OwnMat.row {w0 w w1 : World} {g n m k : Nat} {bs : Nat → Nat} {F G : Nat → Nat → Gf.E} (hM : OwnMat w0 w g n m bs F) (hk : k < n) (hr : RowAt w1 (bs k) 5 m (fun j => vb (G k j))) (hc : Chg (· = bs k) w w1) (hG : ∀ i j, i ≠ k → G i j = F i j) : OwnMat w0 w1 g n m bs G := by
  have hne := hM.ne hk
  obtain ⟨⟨cs, h1, h2⟩, h3, h4, h5, h6⟩ := hM
  refine ⟨⟨cs, h1.chg hc hne, fun i hi => ⟨(h2 i hi).1, ?_⟩⟩, h3, h4, h5, hc.below h6 h6.size (fun i e => e ▸ h4 k hk)⟩
  by_cases e : i = k
  · subst e; exact hr
  · exact ((h2 i hi).2.chg hc (fun x => e (h5 i k hi hk x))).congr (fun j hj => by rw [hG i j e])

set_option maxRecDepth 100000 in
set_option maxHeartbeats 1000000 in
theorem scale5_c (w0 : World) (g n cap k kb xb m : Nat) (bs : Nat → Nat) (F : Nat → Nat → Gf.E) (x : Gf.E) (w : World) (hM : OwnMat w0 w g n m bs F) (hk : k < n) (hn : n ≤ 255) (hm : m ≤ 255) (h1 : w.cell? ⟨kb, 0, none⟩ = some (.int .i64 k)) (h2 : w.cell? ⟨xb, 0, none⟩ = some (vb x)) :
    Calls Try.prog 69 (#[.slice (some ⟨g, 0, none⟩) n cap] ++ #[.pointer (some ⟨kb, 0, none⟩), .pointer (some ⟨xb, 0, none⟩)]) w fun e w' => e = .returned (.tuple #[]) ∧ OwnMat w0 w' g n m bs (scaleF F k x) ∧ Chg (· = bs k) w w' := by
  obtain ⟨c, hc1, _⟩ := hM.cellO hk
  have HM := Lib.hid hM
  have hrow : RowAt w (bs k) 5 m (fun j => vb (F k j)) := by obtain ⟨⟨cs, a1, a2⟩, _⟩ := hM; exact (a2 k hk).2
  have HR := Lib.hid hrow
  have a1 : (k : Int) < (n : Int) := by omega
  have a3 : (0 : Int) ≤ (k : Int) := by omega
  unfold vb at h2
  clear hM hrow
  go_enter Try.func69, Try.ntmps69
  go_wp2_with (fail)
  go_still_tail 5, (by kernel_rfl)
  change wpList _ _ _ _ _ w.drew
  go_wp2_with (first | (go_at_call 70; refine (scale_c (bs k) m c (F k) x _ (by exact HR.out.drewN 1) hm).mono ?_; rintro e w5 ⟨rfl, hq⟩; replace hq := Lib.hid hq))
  all_goals go_end0
  all_goals exact ⟨rfl, HM.out.row hk (hq.out.1.congr (fun j hj => by unfold scaleF; rw [if_pos rfl])) (((Chg.refl _ w).drewN 1).trans hq.out.2) (fun i j e => if_neg e), ((Chg.refl _ w).drewN 1).trans hq.out.2⟩

set_option maxRecDepth 100000 in
set_option maxHeartbeats 1000000 in
theorem plus6_c (w0 : World) (g n cap i k ib kb xb m : Nat) (bs : Nat → Nat) (F : Nat → Nat → Gf.E) (x : Gf.E) (w : World) (hM : OwnMat w0 w g n m bs F) (hi : i < n) (hk : k < n) (hne : i ≠ k) (hn : n ≤ 255) (hm : m ≤ 255) (h0 : w.cell? ⟨ib, 0, none⟩ = some (.int .i64 i)) (h1 : w.cell? ⟨kb, 0, none⟩ = some (.int .i64 k)) (h2 : w.cell? ⟨xb, 0, none⟩ = some (vb x)) :
    Calls Try.prog 71 (#[.slice (some ⟨g, 0, none⟩) n cap] ++ #[.pointer (some ⟨ib, 0, none⟩), .pointer (some ⟨kb, 0, none⟩), .pointer (some ⟨xb, 0, none⟩)]) w fun e w' => e = .returned (.tuple #[]) ∧ OwnMat w0 w' g n m bs (plusF F i k x) ∧ Chg (· = bs i) w w' := by
  obtain ⟨c, hc1, _⟩ := hM.cellO hk
  obtain ⟨c2, hc2, _⟩ := hM.cellO hi
  have HM := Lib.hid hM
  have hrow : ∀ q, q < n → RowAt w (bs q) 5 m (fun j => vb (F q j)) := by obtain ⟨⟨cs, a1, a2⟩, _⟩ := hM; exact fun q hq => (a2 q hq).2
  have HR := Lib.hid (hrow k hk)
  have HI := Lib.hid (hrow i hi)
  have hbne : bs i ≠ bs k := fun e => hne (hM.2.2.2.1 i k hi hk e)
  have a1 : (k : Int) < (n : Int) := by omega
  have a3 : (0 : Int) ≤ (k : Int) := by omega
  have b1 : (i : Int) < (n : Int) := by omega
  have b3 : (0 : Int) ≤ (i : Int) := by omega
  unfold vb at h2
  clear hM hrow
  go_enter Try.func71, Try.ntmps71
  go_wp2_with (fail)
  go_still_tail 9, (by kernel_rfl)
  change wpList _ _ _ _ _ w.drew
  go_wp2_with (first | (go_at_call 72; refine (plus_c (bs i) (bs k) m c2 c (F i) (F k) x _ (by exact HI.out.drewN 1) (by exact HR.out.drewN 1) hbne hm).mono ?_; rintro e w5 ⟨rfl, hq⟩; replace hq := Lib.hid hq))
  all_goals go_end0
  all_goals exact ⟨rfl, HM.out.row hi (hq.out.1.congr (fun j hj => by unfold plusF; rw [if_pos rfl])) (((Chg.refl _ w).drewN 1).trans hq.out.2) (fun r j e => if_neg e), ((Chg.refl _ w).drewN 1).trans hq.out.2⟩
end Go.Proofs.Ytccfnhocjiehnaa
