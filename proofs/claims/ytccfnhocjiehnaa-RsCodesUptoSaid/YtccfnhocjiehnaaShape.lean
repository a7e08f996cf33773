/- gf.Unit, gf.Cauchy, gf.Right. -/
import Derived.Test.YtccfnhocjiehnaaMade
namespace Go.Proofs.Ytccfnhocjiehnaa
open Go.RowKit
set_option linter.unusedVariables false
set_option linter.unusedSimpArgs false

/-- v is a matrix of the call's own: n rows of m elements, F. -/
def NewMat (w w' : World) (v : Value) (n m : Nat) (F : Nat → Nat → Gf.E) : Prop :=
  ∃ (g cap : Nat) (bs : Nat → Nat), v = .slice (some ⟨g, 0, none⟩) n cap ∧ n ≤ cap ∧ MatAt w' g n m bs F ∧ w.heap.size ≤ g ∧ (∀ i, i < n → w.heap.size ≤ bs i) ∧ (∀ i j, i < n → j < n → bs i = bs j → i = j) ∧ Below w.heap.size w w'

theorem made_new (g : FuncId) (hent : ∀ args w, (callFunc g args).run Try.prog w = .ok (.enter g args) w) (cap : Array Value) (F : Nat → Nat → Gf.E) (r c : Nat) (w : World) (hr : r ≤ 256) (hc : c ≤ 256)
    (hcall : ∀ i j w', i < r → j < c → Below w.heap.size w w' → Calls Try.prog g (#[.int .i64 i, .int .i64 j] ++ cap) w' fun e w'' => e = .returned (vb (F i j)) ∧ Drew w' w'') :
    Calls Try.prog 46 #[.int .i64 r, .int .i64 c, .func (.func g) #[] cap] w fun e w' => ∃ v, e = .returned v ∧ NewMat w w' v r c F :=
  (made_any g hent cap F r c w hr hc hcall).mono fun e w' ⟨he, hs, hb, hm⟩ =>
    ⟨_, he, _, _, _, rfl, Nat.le_refl _, hm, Nat.le_refl _, fun i _ => by omega, fun i j _ _ h => by omega, hb⟩
theorem NewMat.lower {w0 w w' : World} {v : Value} {n m : Nat} {F : Nat → Nat → Gf.E} (h : NewMat w w' v n m F) (hb : Below w0.heap.size w0 w) : NewMat w0 w' v n m F := by
  obtain ⟨g, cap, bs, h1, h0, h2, h3, h4, h5, h6⟩ := h
  have hs := hb.size
  exact ⟨g, cap, bs, h1, h0, h2, by omega, fun i hi => by have := h4 i hi; omega, h5, below_then hb hs h6⟩

/-! ### Unit -/
def unitE (i j : Nat) : Gf.E := if i = j then 1 else 0
theorem unit1_c (i j : Nat) (w : World) : Calls Try.prog 62 (#[.int .i64 i, .int .i64 j] ++ #[]) w fun e w' => e = .returned (vb (unitE i j)) ∧ w = w' := by
  by_cases h : i = j
  · subst h
    have e1 : unitE i i = 1 := if_pos rfl
    rw [e1]
    unfold vb
    go_enter Try.func62, Try.ntmps62
    go_wp2
    go_ret
    exact ⟨rfl, rfl⟩
  · have e1 : unitE i j = 0 := if_neg h
    have c1 : ((i : Int) == (j : Int)) = false := by rw [beq_eq_false_iff_ne]; omega
    rw [e1]
    clear e1
    unfold vb
    go_enter Try.func62, Try.ntmps62
    go_wp2
    go_ret
    exact ⟨rfl, rfl⟩

/-- What Unit, Cauchy answer: a matrix, or nil and the error. -/
def MatOr (ok : Bool) (w w' : World) (v : Value) (n m : Nat) (F : Nat → Nat → Gf.E) : Prop :=
  if ok = true then NewMat w w' v n m F else v = .slice none 0 0 ∧ Below w.heap.size w w'
def unitOk (n : Int) : Bool := decide (1 ≤ n ∧ n ≤ 255)
def errOf (ok : Bool) : Int := if ok = true then 0 else 1
theorem unit_no (n : Int) (w : World) (h : unitOk n = false) : Calls Try.prog 52 #[.int .i64 n] w fun e w' => e = .returned (.tuple #[.slice none 0 0, .int .i64 1]) ∧ w = w' := by
  have h' : n < 1 ∨ 255 < n := by
    unfold unitOk at h
    have := of_decide_eq_false h
    omega
  rcases h' with h' | h'
  · go_enter Try.func52, Try.ntmps52
    go_wp2
    go_ret2
    exact ⟨rfl, rfl⟩
  · have h2 : ¬ n < 1 := by omega
    go_enter Try.func52, Try.ntmps52
    go_wp2
    go_ret2
    exact ⟨rfl, rfl⟩
theorem unit_yes (n : Nat) (w : World) (h1 : 1 ≤ n) (h2 : n ≤ 255) : Calls Try.prog 52 #[.int .i64 n] w fun e w' => ∃ v, e = .returned (.tuple #[v, .int .i64 0]) ∧ NewMat w w' v n n unitE := by
  go_enter Try.func52, Try.ntmps52
  go_wp2_with (go_at_call 46; refine (made_new 62 (fun _ _ => rfl) #[] unitE n n _ (by omega) (by omega) (fun i j w' _ _ _ => (unit1_c i j w').mono fun e w5 h => ⟨h.1, h.2 ▸ Drew.refl _⟩)).mono ?_; rintro e w' ⟨v, rfl, hv⟩)
  go_ret2
  exact ⟨v, rfl, hv⟩
theorem unit_c (n : Int) (w : World) (hhi : n ≤ 9223372036854775807) : Calls Try.prog 52 #[.int .i64 n] w fun e w' => ∃ v, e = .returned (.tuple #[v, .int .i64 (errOf (unitOk n))]) ∧ MatOr (unitOk n) w w' v n.toNat n.toNat unitE := by
  by_cases h : unitOk n = true
  · have h' := of_decide_eq_true h
    rw [h]
    obtain ⟨m, rfl⟩ := Int.eq_ofNat_of_zero_le (show 0 ≤ n by omega)
    refine (unit_yes m w (by omega) (by omega)).mono ?_
    rintro e w' ⟨v, rfl, hv⟩
    exact ⟨v, rfl, hv⟩
  · have h' : unitOk n = false := by simpa using h
    rw [h']
    refine (unit_no n w h').mono ?_
    rintro e w' ⟨rfl, rfl⟩
    exact ⟨_, rfl, rfl, Below.refl _ _⟩

/-! ### Cauchy -/
def cauE (c i j : Nat) : Gf.E := divE 1 (Gf.add (byteE (c + i)) (byteE j))

theorem cauchy1_c (c i j g0 : Nat) (w : World) (hc : c + i < 256) (hj : j < 256) (hcell : w.cell? ⟨g0, 0, none⟩ = some (.int .i64 c)) :
    Calls Try.prog 47 (#[.int .i64 i, .int .i64 j] ++ #[.pointer (some ⟨g0, 0, none⟩)]) w fun e w' => e = .returned (vb (cauE c i j)) ∧ w = w' := by
  have e1 : vb (byteE (c + i)) = .int .u8 ((c : Int) + i) := by unfold vb; rw [byteE_val]; congr 1; omega
  have e2 : vb (byteE j) = .int .u8 (j : Int) := by unfold vb; rw [byteE_val]; congr 1; omega
  have ha := fun w => add_c (byteE (c + i)) (byteE j) w
  rw [e1, e2] at ha
  have HA := Lib.hid ha
  have hd := fun w => div_c 1 (Gf.add (byteE (c + i)) (byteE j)) w
  have HD := Lib.hid hd
  have HC : Hid (divE 1 (Gf.add (byteE (c + i)) (byteE j)) = cauE c i j) := Lib.hid rfl
  have e3 : vb 1 = .int .u8 1 := rfl
  rw [e3] at hd
  replace HD := Lib.hid hd
  clear ha hd e1 e2 e3
  generalize Gf.add (byteE (c + i)) (byteE j) = s at *
  go_enter Try.func47, Try.ntmps47
  go_wp2_with (first | (go_at_call 49; refine (HA.out _).mono ?_; rintro e w' ⟨rfl, rfl⟩) | (go_at_call 48; refine (HD.out _).mono ?_; rintro e w' ⟨rfl, rfl⟩))
  go_ret
  exact ⟨by rw [HC.out]; rfl, rfl⟩

def cauOk (r c : Int) : Bool := decide (1 ≤ r ∧ 1 ≤ c ∧ r + c ≤ 256)
theorem cauchy_no (r c : Int) (w : World) (h : cauOk r c = false) (hr0 : -9223372036854775808 ≤ r) (hc0 : -9223372036854775808 ≤ c) :
    Calls Try.prog 26 #[.int .i64 r, .int .i64 c] w fun e w' => e = .returned (.tuple #[.slice none 0 0, .int .i64 1]) ∧ Below w.heap.size w w' := by
  have h' : r < 1 ∨ c < 1 ∨ 256 < r + c := by
    unfold cauOk at h
    have := of_decide_eq_false h
    omega
  have hb := (Below.refl w.heap.size w).alloc (Nat.le_refl _) (.cells #[.int .i64 c] 3)
  by_cases h1 : r < 1
  · clear h h' hb
    go_enter Try.func26, Try.ntmps26
    go_wp2
    go_ret2
    exact ⟨rfl, (Below.refl _ _).alloc (Nat.le_refl _) _⟩
  · by_cases h2 : c < 1
    · clear h h' hb
      go_enter Try.func26, Try.ntmps26
      go_wp2
      go_ret2
      exact ⟨rfl, (Below.refl _ _).alloc (Nat.le_refl _) _⟩
    · by_cases h3 : 256 < r
      · clear h h' hb
        go_enter Try.func26, Try.ntmps26
        go_wp2
        go_ret2
        exact ⟨rfl, (Below.refl _ _).alloc (Nat.le_refl _) _⟩
      · by_cases h4 : 256 < c
        · clear h h' hb
          go_enter Try.func26, Try.ntmps26
          go_wp2
          go_ret2
          exact ⟨rfl, (Below.refl _ _).alloc (Nat.le_refl _) _⟩
        · have h5 : 256 < r + c := by omega
          clear h h' hb
          go_enter Try.func26, Try.ntmps26
          go_wp2
          go_ret2
          exact ⟨rfl, (Below.refl _ _).alloc (Nat.le_refl _) _⟩
theorem cauchy_yes (r c : Nat) (w : World) (h1 : 1 ≤ r) (h2 : 1 ≤ c) (h3 : r + c ≤ 256) :
    Calls Try.prog 26 #[.int .i64 r, .int .i64 c] w fun e w' => ∃ v, e = .returned (.tuple #[v, .int .i64 0]) ∧ NewMat w w' v r c (cauE c) := by
  have hb := (Below.refl w.heap.size w).alloc (Nat.le_refl _) (.cells #[.int .i64 c] 3)
  have HB := Lib.hid hb
  have hcell : (w.alloc (.cells #[.int .i64 c] 3)).cell? ⟨w.heap.size, 0, none⟩ = some (.int .i64 c) := by rw [World.cell?_alloc_at _ _ _ _ rfl]; rfl
  have HC := Lib.hid hcell
  clear hb hcell
  go_enter Try.func26, Try.ntmps26
  go_wp2_with (go_at_call 46; refine (made_new 47 (fun _ _ => rfl) #[.pointer (some ⟨w.heap.size, 0, none⟩)] (cauE c) r c _ (by omega) (by omega) (fun i j w' hi hj hb => (cauchy1_c c i j w.heap.size w' (by omega) (by omega) (cell_below hb HC.out)).mono fun e w5 h => ⟨h.1, h.2 ▸ Drew.refl _⟩)).mono ?_; rintro e w' ⟨v, rfl, hv⟩)
  go_ret2
  exact ⟨v, rfl, hv.lower HB.out⟩
theorem cauchy_c (r c : Int) (w : World) (hr0 : -9223372036854775808 ≤ r) (hc0 : -9223372036854775808 ≤ c) :
    Calls Try.prog 26 #[.int .i64 r, .int .i64 c] w fun e w' => ∃ v, e = .returned (.tuple #[v, .int .i64 (errOf (cauOk r c))]) ∧ MatOr (cauOk r c) w w' v r.toNat c.toNat (cauE c.toNat) := by
  by_cases h : cauOk r c = true
  · have h' := of_decide_eq_true h
    rw [h]
    obtain ⟨m, rfl⟩ := Int.eq_ofNat_of_zero_le (show 0 ≤ r by omega)
    obtain ⟨n, rfl⟩ := Int.eq_ofNat_of_zero_le (show 0 ≤ c by omega)
    refine (cauchy_yes m n w (by omega) (by omega) (by omega)).mono ?_
    rintro e w' ⟨v, rfl, hv⟩
    exact ⟨v, rfl, hv⟩
  · have h' : cauOk r c = false := by simpa using h
    rw [h']
    refine (cauchy_no r c w h' hr0 hc0).mono ?_
    rintro e w' ⟨rfl, hb⟩
    exact ⟨_, rfl, rfl, hb⟩
end Go.Proofs.Ytccfnhocjiehnaa
