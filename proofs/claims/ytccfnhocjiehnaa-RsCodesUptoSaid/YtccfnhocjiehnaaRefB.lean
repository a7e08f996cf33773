/- The reference's Unit and Cauchy. -/
import Derived.Test.YtccfnhocjiehnaaBlank
import Derived.Test.YtccfnhocjiehnaaRefA
namespace Go.Proofs.Ytccfnhocjiehnaa
open Go.RowKit
set_option linter.unusedVariables false
set_option linter.unusedSimpArgs false

/-- A matrix of the call's own that is written: g, bs as in MatAt; nothing below w's end is it. -/
def OwnMat (w wr : World) (g n m : Nat) (bs : Nat → Nat) (F : Nat → Nat → Gf.E) : Prop :=
  MatAt wr g n m bs F ∧ w.heap.size ≤ g ∧ (∀ i, i < n → w.heap.size ≤ bs i) ∧ (∀ i j, i < n → j < n → bs i = bs j → i = j) ∧ Below w.heap.size w wr
def upd (F : Nat → Nat → Gf.E) (i j : Nat) (x : Gf.E) : Nat → Nat → Gf.E := fun p q => if p = i ∧ q = j then x else F p q

theorem OwnMat.ne {w wr : World} {g n m : Nat} {bs : Nat → Nat} {F : Nat → Nat → Gf.E} (h : OwnMat w wr g n m bs F) {i : Nat} (hi : i < n) : g ≠ bs i := by
  obtain ⟨⟨cs, h1, h2⟩, _⟩ := h
  exact h1.ne_ (h2 i hi).2 (by decide)
theorem OwnMat.congr {w wr : World} {g n m : Nat} {bs : Nat → Nat} {F G : Nat → Nat → Gf.E} (h : OwnMat w wr g n m bs F) (e : ∀ i j, i < n → j < m → F i j = G i j) : OwnMat w wr g n m bs G := by
  obtain ⟨⟨cs, h1, h2⟩, h3⟩ := h
  exact ⟨⟨cs, h1, fun i hi => ⟨(h2 i hi).1, (h2 i hi).2.congr (fun j hj => by rw [e i j hi hj])⟩⟩, h3⟩
theorem OwnMat.drewN {w wr : World} {g n m : Nat} {bs : Nat → Nat} {F : Nat → Nat → Gf.E} (h : OwnMat w wr g n m bs F) (k : Nat) : OwnMat w (wr.drewN k) g n m bs F := by
  obtain ⟨⟨cs, h1, h2⟩, h3, h4, h5, h6⟩ := h
  exact ⟨⟨cs, h1, fun i hi => ⟨(h2 i hi).1, (h2 i hi).2.drewN k⟩⟩, h3, h4, h5, below_drewN h6 k⟩
theorem OwnMat.set {w wr : World} {g n m : Nat} {bs : Nat → Nat} {F : Nat → Nat → Gf.E} (h : OwnMat w wr g n m bs F) {i j : Nat} (hi : i < n) (hj : j < m) (x : Gf.E) : OwnMat w (wr.setCell ⟨bs i, j, none⟩ (vb x)) g n m bs (upd F i j x) := by
  have hne := h.ne hi
  obtain ⟨⟨cs, h1, h2⟩, h3, h4, h5, h6⟩ := h
  refine ⟨⟨cs, h1.setOther hne _, fun p hp => ⟨(h2 p hp).1, ?_⟩⟩, h3, h4, h5, h6.setCell (h4 i hi) _⟩
  by_cases e : p = i
  · subst e
    refine ((h2 p hp).2.set j (vb x)).congr (fun q hq => ?_)
    unfold upd
    by_cases e2 : q = j
    · simp [e2]
    · simp [e2]
  · refine ((h2 p hp).2.setOther (a := ⟨bs i, j, none⟩) (fun he => e (h5 p i hp hi he)) _).congr (fun q hq => ?_)
    unfold upd
    simp [e]
theorem OwnMat.cellO {w wr : World} {g n m : Nat} {bs : Nat → Nat} {F : Nat → Nat → Gf.E} (h : OwnMat w wr g n m bs F) {i : Nat} (hi : i < n) : ∃ c, wr.cell? ⟨g, i, none⟩ = some (.slice (some ⟨bs i, 0, none⟩) m c) ∧ m ≤ c := by
  obtain ⟨⟨cs, h1, h2⟩, _⟩ := h
  exact ⟨cs i, h1.cell hi, (h2 i hi).1⟩
theorem OwnMat.cellE {w wr : World} {g n m : Nat} {bs : Nat → Nat} {F : Nat → Nat → Gf.E} (h : OwnMat w wr g n m bs F) {i j : Nat} (hi : i < n) (hj : j < m) : wr.cell? ⟨bs i, j, none⟩ = some (vb (F i j)) := by
  obtain ⟨⟨cs, h1, h2⟩, _⟩ := h
  exact (h2 i hi).2.cell hj
theorem OwnMat.frz {w wr : World} {g n m : Nat} {bs : Nat → Nat} {F : Nat → Nat → Gf.E} (h : OwnMat w wr g n m bs F) {i : Nat} (hi : i < n) (j : Nat) : wr.frozen? ⟨bs i, j, none⟩ = false := by
  obtain ⟨⟨cs, h1, h2⟩, _⟩ := h
  exact (h2 i hi).2.frozen j

theorem divE_inv (s : Gf.E) : divE 1 s = Gf.inv s := by
  unfold divE
  by_cases h : s = 0
  · rw [if_pos h, h, Gf.inv_zero]
  · rw [if_neg h, Gf.one_mul]

/-! ### Unit -/
def UniF (k : Nat) : Nat → Nat → Gf.E := fun i j => if i = j ∧ i < k then 1 else 0
theorem runit_no (n : Int) (w : World) (h : unitOk n = false) : Calls Try.prog 58 #[.int .i64 n] w fun e w' => e = .returned (.tuple #[.slice none 0 0, .int .i64 1]) ∧ w = w' := by
  have h' : n < 1 ∨ 255 < n := by
    unfold unitOk at h
    have := of_decide_eq_false h
    omega
  rcases h' with h' | h'
  · go_enter Try.func58, Try.ntmps58
    go_wp2
    go_ret2
    exact ⟨rfl, rfl⟩
  · have h2 : ¬ n < 1 := by omega
    go_enter Try.func58, Try.ntmps58
    go_wp2
    go_ret2
    exact ⟨rfl, rfl⟩

set_option maxRecDepth 100000 in
set_option maxHeartbeats 1000000 in
theorem runit_yes (n : Nat) (w : World) (h1 : 1 ≤ n) (h2 : n ≤ 255) : Calls Try.prog 58 #[.int .i64 n] w fun e w' => ∃ v, e = .returned (.tuple #[v, .int .i64 0]) ∧ NewMat w w' v n n unitE := by
  go_enter Try.func58, Try.ntmps58
  go_wp2_with (go_at_call 73; refine (blank_c n n _ (by omega) (by omega) (by omega)).mono ?_; rintro e w1 ⟨v, rfl, g, cap, bs, rfl, hcap, hM⟩; replace hM := Lib.hid (show OwnMat w w1 g n n bs _ from hM))
  go_loopg [5] n (fun kq v5 wr => ∃ k : Nat, k + kq = n ∧ v5 = .int .i64 (k : Int) ∧ Hid (OwnMat w wr g n n bs (UniF k)))
  case atStart => exact ⟨0, by omega, rfl, Lib.hid (hM.out.congr (fun i j _ _ => by simp [UniF]))⟩
  case round =>
    clear hM
    obtain ⟨k, hk, rfl, hM⟩ := hrel
    by_cases hlt : k < n
    · obtain ⟨c, hc1, hc2⟩ := hM.out.cellO hlt
      have hc3 := hM.out.cellE hlt hlt
      have hf := hM.out.frz hlt k
      have hlt' : (k : Int) < (n : Int) := by omega
      have HS : Hid (OwnMat w (wr.setCell ⟨bs k, k, none⟩ (.int .u8 1)) g n n bs (UniF (k + 1))) := by
        refine Lib.hid ((hM.out.set hlt hlt 1).congr (fun i j hi hj => ?_))
        unfold upd UniF
        by_cases e : i = k ∧ j = k
        · rw [if_pos e, if_pos ⟨by omega, by omega⟩]
        · rw [if_neg e]
          by_cases e2 : i = j ∧ i < k
          · rw [if_pos e2, if_pos ⟨e2.1, by omega⟩]
          · rw [if_neg e2, if_neg (by omega)]
      clear hM
      go_wp2
      go_roundg (n - (k + 1))
      case measure => omega
      case rel => exact ⟨k + 1, by omega, by go_num, HS⟩
    · obtain rfl : k = n := by omega
      go_wp2
      go_ret2
      refine ⟨_, rfl, g, cap, bs, rfl, hcap, hM.out.congr (fun i j hi _ => ?_)⟩
      unfold unitE UniF
      by_cases e : i = j
      · rw [if_pos ⟨e, hi⟩, if_pos e]
      · rw [if_neg (fun h => e h.1), if_neg e]

theorem runit_c (n : Int) (w : World) : Calls Try.prog 58 #[.int .i64 n] w fun e w' => ∃ v, e = .returned (.tuple #[v, .int .i64 (errOf (unitOk n))]) ∧ MatOr (unitOk n) w w' v n.toNat n.toNat unitE := by
  by_cases h : unitOk n = true
  · have h' := of_decide_eq_true h
    rw [h]
    obtain ⟨m, rfl⟩ := Int.eq_ofNat_of_zero_le (show 0 ≤ n by omega)
    refine (runit_yes m w (by omega) (by omega)).mono ?_
    rintro e w' ⟨v, rfl, hv⟩
    exact ⟨v, rfl, hv⟩
  · have h' : unitOk n = false := by simpa using h
    rw [h']
    refine (runit_no n w h').mono ?_
    rintro e w' ⟨rfl, rfl⟩
    exact ⟨_, rfl, rfl, Below.refl _ _⟩

/-! ### Cauchy -/
theorem rcauchy_no (r c : Int) (w : World) (h : cauOk r c = false) (hr0 : -9223372036854775808 ≤ r) (hc0 : -9223372036854775808 ≤ c) :
    Calls Try.prog 55 #[.int .i64 r, .int .i64 c] w fun e w' => e = .returned (.tuple #[.slice none 0 0, .int .i64 1]) ∧ w = w' := by
  have h' : r < 1 ∨ c < 1 ∨ 256 < r + c := by
    unfold cauOk at h
    have := of_decide_eq_false h
    omega
  by_cases h1 : r < 1
  · clear h h'
    go_enter Try.func55, Try.ntmps55
    go_wp2
    go_ret2
    exact ⟨rfl, rfl⟩
  · by_cases h2 : c < 1
    · clear h h'
      go_enter Try.func55, Try.ntmps55
      go_wp2
      go_ret2
      exact ⟨rfl, rfl⟩
    · by_cases h3 : 256 < r
      · clear h h'
        go_enter Try.func55, Try.ntmps55
        go_wp2
        go_ret2
        exact ⟨rfl, rfl⟩
      · have h5 : 256 - r < c := by omega
        clear h h'
        go_enter Try.func55, Try.ntmps55
        go_wp2
        go_ret2
        exact ⟨rfl, rfl⟩

/-- Rows above i are done, and of row i the first j elements. -/
def CauF (c i j : Nat) : Nat → Nat → Gf.E := fun p q => if p < i ∨ (p = i ∧ q < j) then cauE c p q else 0

set_option maxRecDepth 100000 in
set_option maxHeartbeats 2000000 in
theorem rcauchy_yes (r c : Nat) (w : World) (h1 : 1 ≤ r) (h2 : 1 ≤ c) (h3 : r + c ≤ 256) :
    Calls Try.prog 55 #[.int .i64 r, .int .i64 c] w fun e w' => ∃ v, e = .returned (.tuple #[v, .int .i64 0]) ∧ NewMat w w' v r c (cauE c) := by
  go_enter Try.func55, Try.ntmps55
  go_wp2_with (go_at_call 73; refine (blank_c r c _ (by omega) (by omega) (by omega)).mono ?_; rintro e w1 ⟨v, rfl, g, cap, bs, rfl, hcap, hM⟩; replace hM := Lib.hid (show OwnMat w w1 g r c bs _ from hM))
  go_loopg [7] r (fun kq v7 wr => ∃ k : Nat, k + kq = r ∧ v7 = .int .i64 (k : Int) ∧ Hid (OwnMat w wr g r c bs (CauF c k 0)))
  case atStart => exact ⟨0, by omega, rfl, Lib.hid (hM.out.congr (fun i j _ _ => by simp [CauF]))⟩
  case round =>
    clear hM
    obtain ⟨k, hk, rfl, hM⟩ := hrel
    by_cases hlt : k < r
    · go_wp2
      go_loopg [8] c (fun kq v8 w2 => ∃ j : Nat, j + kq = c ∧ v8 = .int .i64 (j : Int) ∧ Hid (OwnMat w w2 g r c bs (CauF c k j)))
      case atStart => exact ⟨0, by omega, rfl, hM⟩
      case round =>
        clear hM
        obtain ⟨j, hj, rfl, hM⟩ := hrel
        rename_i wr0
        by_cases hlj : j < c
        · obtain ⟨cc, hc1, hc2⟩ := hM.out.cellO hlt
          have hc3 := hM.out.cellE hlt hlj
          have hf := hM.out.frz hlt j
          have hne := hM.out.ne hlt
          have hlt' : (k : Int) < (r : Int) := by omega
          have hlj' : (j : Int) < (c : Int) := by omega
          have hk0 : (0 : Int) ≤ (k : Int) := by omega
          have hj0 : (0 : Int) ≤ (j : Int) := by omega
          have hw1 : IntKind.i64.wrap ((c : Int) + (k : Int)) = (c : Int) + (k : Int) := by rw [IntKind.wrap_i64]; omega
          have hw2 : IntKind.u8.wrap ((c : Int) + (k : Int)) = (c : Int) + (k : Int) := by rw [IntKind.wrap_u8]; omega
          have hw3 : IntKind.u8.wrap (j : Int) = (j : Int) := by rw [IntKind.wrap_u8]; omega
          have hx : Go.bits .xor .u8 ((c : Int) + (k : Int)) (j : Int) = ((Gf.add (byteE (c + k)) (byteE j)).val : Int) := by
            have e1 := byteE_val (c + k)
            have e2 := byteE_val j
            have e3 := u8_xor_nat (byteE (c + k)).val (byteE j).val (byteE (c + k)).isLt (byteE j).isLt
            rw [e1, e2, show ((c : Int) + k) % 256 = c + k by omega, show (j : Int) % 256 = j by omega] at e3
            rw [e3]; rfl
          have hS := hM.out.drewN 1
          have HS : ∀ q, Hid (OwnMat w ((wr.drewN q).setCell ⟨bs k, j, none⟩ (.int .u8 ((cauE c k j).val : Int))) g r c bs (CauF c k (j + 1))) := fun q => by
            refine Lib.hid (((hM.out.drewN q).set hlt hlj (cauE c k j)).congr (fun p t hp ht => ?_))
            unfold upd CauF
            by_cases e : p = k ∧ t = j
            · rw [if_pos e, if_pos (by omega), e.1, e.2]
            · rw [if_neg e]
              by_cases e2 : p < k ∨ (p = k ∧ t < j)
              · rw [if_pos e2, if_pos (by omega)]
              · rw [if_neg e2, if_neg (by omega)]
          have HE : Hid (cauE c k j = Gf.inv (Gf.add (byteE (c + k)) (byteE j))) := Lib.hid (divE_inv _)
          clear hS hM
          go_wp2
          go_region_held3 (fun w' => w'.cell? ⟨g, k, none⟩ = some (.slice (some ⟨bs k, 0, none⟩) c cc)) (first | exact hc1 | exact (World.cell?_setCell_other _ _ _ _ (by intro e; injection e with e1 e2; exact hne e1.symm)).trans hc1) (first | (go_at_call 74; refine (rinv_c (Gf.add (byteE (c + k)) (byteE j)) _).mono ?_; rintro e w5 ⟨rfl, rfl⟩))
          all_goals go_wp2
          all_goals go_roundg (c - (j + 1))
          case measure => omega
          case rel => exact ⟨j + 1, by omega, by go_num, by rw [HE.out] at HS; exact HS 1⟩
        · obtain rfl : j = c := by omega
          have HS := Lib.hid (hM.out.congr (G := CauF j (k + 1) 0) (fun p t hp ht => by
            unfold CauF
            by_cases e2 : p < k ∨ (p = k ∧ t < j)
            · rw [if_pos e2, if_pos (by omega)]
            · rw [if_neg e2, if_neg (by omega)]))
          clear hM
          go_wp2
          go_roundg (r - (k + 1))
          case measure => omega
          case rel => exact ⟨k + 1, by omega, by go_num, HS⟩
    · obtain rfl : k = r := by omega
      go_wp2
      go_ret2
      exact ⟨_, rfl, g, cap, bs, rfl, hcap, hM.out.congr (fun i j hi hj => by unfold CauF; rw [if_pos (.inl hi)])⟩
end Go.Proofs.Ytccfnhocjiehnaa
