/- The law's spoil: it writes to the matrix that it is given, to nothing else. -/
import Derived.Test.YtldndaimgfegnaaGj
namespace Go.Proofs.Ytldndaimgfegnaa
open Go.RowKit
set_option linter.unusedVariables false
set_option linter.unusedSimpArgs false

set_option maxRecDepth 100000 in
theorem spoil_nil (w : World) : Calls Try.prog 32 #[.slice none 0 0] w fun e w' => e = .returned (.tuple #[]) ∧ w = w' := by
  go_enter Try.func32, Try.ntmps32
  go_wp2
  go_loopg [2] 0 (fun kq v2 wr => v2 = .int .i64 0 ∧ w = wr)
  case atStart => exact ⟨rfl, rfl⟩
  case round =>
    obtain ⟨rfl, rfl⟩ := hrel
    go_wp2
    go_end0
    exact ⟨rfl, rfl⟩

theorem spoil_step {w0 wr : World} {g n m i k : Nat} {bs : Nat → Nat} {F : Mt} (h : OwnMat w0 wr g n m bs F) (hi : i < n) (y : Gf.E) : (∃ F, OwnMat w0 ((wr.drew).setCell ⟨bs i, k, none⟩ (vb y)) g n m bs F) ∧ Chg (fun b => ∃ r, r < n ∧ b = bs r) wr ((wr.drew).setCell ⟨bs i, k, none⟩ (vb y)) := by
  have hr := ((h.rowAt hi).drewN 1).set k (vb y)
  refine ⟨⟨fun r j => if r = i ∧ j = k then y else F r j, h.row hi (G := fun r j => if r = i ∧ j = k then y else F r j) (hr.congr (fun j hj => ?_)) (((Chg.refl (· = bs i) wr).drewN 1).set (a := ⟨bs i, k, none⟩) rfl (vb y)) (fun r j hr' => ?_)⟩, ((Chg.refl _ wr).drewN 1).set (a := ⟨bs i, k, none⟩) ⟨i, hi, rfl⟩ (vb y)⟩
  · by_cases e : j = k
    · simp [e]
    · simp [e]
  · simp [hr']

set_option maxRecDepth 100000 in
set_option maxHeartbeats 4000000 in
theorem spoil_own (w0 : World) (g n c m : Nat) (bs : Nat → Nat) (F : Mt) (w : World) (hM : OwnMat w0 w g n m bs F) (hn : n ≤ 300) (hm : m ≤ 300) :
    Calls Try.prog 32 #[.slice (some ⟨g, 0, none⟩) n c] w fun e w' => e = .returned (.tuple #[]) ∧ Chg (fun b => ∃ r, r < n ∧ b = bs r) w w' := by
  have HI := Lib.hid (show (∃ F, OwnMat w0 w g n m bs F) ∧ Chg (fun b => ∃ r, r < n ∧ b = bs r) w w from ⟨⟨F, hM⟩, Chg.refl _ _⟩)
  clear hM
  go_enter Try.func32, Try.ntmps32
  go_wp2
  go_loopg [2] n (fun kq v2 wr => ∃ i : Nat, i + kq = n ∧ v2 = .int .i64 (i : Int) ∧ Hid ((∃ F, OwnMat w0 wr g n m bs F) ∧ Chg (fun b => ∃ r, r < n ∧ b = bs r) w wr))
  case atStart => exact ⟨0, by omega, rfl, HI⟩
  case round =>
    clear HI
    obtain ⟨i, hi, rfl, HI⟩ := hrel
    by_cases hlt : i < n
    · have i1 : (i : Int) < (n : Int) := by omega
      have i0 : (0 : Int) ≤ (i : Int) := by omega
      go_wp2
      go_loopg [3] m (fun kq v3 wr => ∃ k : Nat, k + kq = m ∧ v3 = .int .i64 (k : Int) ∧ Hid ((∃ F, OwnMat w0 wr g n m bs F) ∧ Chg (fun b => ∃ r, r < n ∧ b = bs r) w wr))
      case atStart => exact ⟨0, by omega, rfl, HI⟩
      case round =>
        clear HI
        obtain ⟨k, hk, rfl, HI⟩ := hrel
        rename_i wr0
        obtain ⟨⟨F1, hM⟩, hCh⟩ := HI.out
        have HM := Lib.hid hM
        have HC := Lib.hid hCh
        clear hCh
        clear HI
        obtain ⟨⟨cs, h1, h2⟩, _⟩ := hM
        have hc1 := h1.cell hlt
        by_cases hlk : k < m
        · have hc2 := (h2 i hlt).2.cell hlk
          have hfz := (h2 i hlt).2.frozen k
          have hcap := (h2 i hlt).1
          have k1 : (k : Int) < (m : Int) := by omega
          have k0 : (0 : Int) ≤ (k : Int) := by omega
          obtain ⟨x, hx⟩ : ∃ x, x = F1 i k := ⟨_, rfl⟩
          rw [← hx] at hc2
          unfold vb at hc2
          have HS0 := spoil_step HM.out hlt (k := k) (byteE ((x.val : Int) + 1))
          have HS := Lib.hid (And.intro HS0.1 (HC.out.trans HS0.2))
          clear HS0
          rw [show vb (byteE ((x.val : Int) + 1)) = .int .u8 (((x.val : Int) + 1) % 256) from congrArg (Value.int .u8) (byteE_val _)] at HS
          clear h1 h2 hx
          go_wp2
          refine wp_region_still_tail 14 (by kernel_rfl) (by kernel_rfl) ?_
          simp only [List.take_succ_cons, List.take_zero, List.drop_succ_cons, List.drop_zero]
          repeat still_step
          refine wpStill_nil ?_
          change wpList _ _ _ _ _ wr.drew
          go_wp2
          go_roundg (m - (k + 1))
          case measure => omega
          case rel => exact ⟨k + 1, by omega, by go_num, HS⟩
        · obtain rfl : k = m := by omega
          have HQ := Lib.hid (show (∃ F, OwnMat w0 wr g n k bs F) ∧ Chg (fun b => ∃ r, r < n ∧ b = bs r) w wr from ⟨⟨F1, HM.out⟩, HC.out⟩)
          clear h1 h2
          go_wp2
          go_roundg (n - (i + 1))
          case measure => omega
          case rel => exact ⟨i + 1, by omega, by go_num, HQ⟩
    · have HB := Lib.hid HI.out.2
      clear HI
      obtain rfl : i = n := by omega
      go_wp2
      go_end0
      exact ⟨rfl, HB.out⟩

/-- nil, or a matrix whose blocks lie from lo to hi. -/
def MayIn (lo hi : Nat) (w : World) (v : Value) : Prop := v = .slice none 0 0 ∨ ∃ (g c n m : Nat) (bs : Nat → Nat) (F : Mt), v = .slice (some ⟨g, 0, none⟩) n c ∧ n ≤ 300 ∧ m ≤ 300 ∧ MatAt w g n m bs F ∧ (∀ i j, i < n → j < n → bs i = bs j → i = j) ∧ lo ≤ g ∧ g < hi ∧ ∀ i, i < n → lo ≤ bs i ∧ bs i < hi
theorem MayIn.chg {S : Nat → Prop} {lo hi : Nat} {w w' : World} {v : Value} (h : MayIn lo hi w v) (hc : Chg S w w') (hS : ∀ i, S i → i < lo ∨ hi ≤ i) : MayIn lo hi w' v := by
  rcases h with h | ⟨g, c, n, m, bs, F, rfl, h1, h2, ⟨cs, h3, h3'⟩, h4, h5, h6, h7⟩
  · exact .inl h
  · refine .inr ⟨g, c, n, m, bs, F, rfl, h1, h2, ⟨cs, h3.chg hc (fun e => ?_), fun i hi => ⟨(h3' i hi).1, (h3' i hi).2.chg hc (fun e => ?_)⟩⟩, h4, h5, h6, h7⟩
    · have := hS _ e; omega
    · have := hS _ e; have := h7 i hi; omega
theorem NewMat.mayIn {w w' : World} {v : Value} {n m : Nat} {F : Mt} (h : NewMat w w' v n m F) (hn : n ≤ 300) (hm : m ≤ 300) : MayIn w.heap.size w'.heap.size w' v ∧ Below w.heap.size w w' := by
  obtain ⟨g, c, bs, rfl, _, hM, h2, h3, h4, hb⟩ := h
  obtain ⟨cs, a1, a2⟩ := hM
  exact ⟨.inr ⟨g, c, n, m, bs, F, rfl, hn, hm, ⟨cs, a1, a2⟩, h4, h2, a1.lt, fun i hi => ⟨h3 i hi, (a2 i hi).2.lt⟩⟩, hb⟩
theorem spoil_may {lo hi : Nat} {w : World} {v : Value} (h : MayIn lo hi w v) : Calls Try.prog 32 #[v] w fun e w' => e = .returned (.tuple #[]) ∧ Chg (fun b => lo ≤ b ∧ b < hi) w w' := by
  rcases h with rfl | ⟨g, c, n, m, bs, F, rfl, h1, h2, h3, h4, h5, h6, h7⟩
  · refine (spoil_nil w).mono ?_
    rintro e w' ⟨rfl, rfl⟩
    exact ⟨rfl, Chg.refl _ _⟩
  · refine (spoil_own { w with heap := #[] } g n c m bs F w ⟨h3, Nat.zero_le _, fun i _ => Nat.zero_le _, h4, ⟨rfl, rfl, rfl, Nat.zero_le _, fun k hk => absurd hk (Nat.not_lt_zero _)⟩⟩ h1 h2).mono ?_
    rintro e w' ⟨rfl, hc⟩
    exact ⟨rfl, hc.mono (fun i ⟨r, hr, hi⟩ => hi ▸ h7 r hr)⟩
end Go.Proofs.Ytldndaimgfegnaa
