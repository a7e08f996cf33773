/- GfPowers holds: powers of an element add, its logarithms add round 255, a power and the one of the number turned round make 1. No condition. -/
import Derived.Test.YtldndaimgfegnaaRows
import Derived.Test.YtldndaimgfegnaaLawLaws
namespace Go.Proofs.Ytldndaimgfegnaa.gfPowers
open Go.ChangeShapes Go.WideShapes Go.ChangeAt Go.RowKit
open Go.ChangeMaps (open_string shut_string)
open Go.Proofs.Ytldndaimgfegnaa.gfLaws (nev eqv ne0 ne0' eq0 eq0' mul_v log_calls)
set_option linter.unusedVariables false

def pI (a : Gf.E) (n : Int) : Gf.E := Gf.pow a (n % 255).toNat
theorem pI_ne {a : Gf.E} (h : a ≠ 0) (n : Int) : pI a n ≠ 0 := Gf.pow_ne_zero h _
theorem powE_pI {a : Gf.E} (h : a ≠ 0) (n : Int) : powE a n = pI a n := by
  unfold powE pI
  by_cases h0 : n = 0
  · rw [if_pos h0, h0]; rfl
  · rw [if_neg h0, if_neg h]
theorem pI_add {a : Gf.E} (h : a ≠ 0) (m n : Int) : Gf.mul (pI a m) (pI a n) = pI a (m + n) := by
  unfold pI
  rw [← Gf.pow_add, ← Gf.pow_mod h]
  congr 1
  omega
theorem pI_neg {a : Gf.E} (h : a ≠ 0) (n : Int) : Gf.mul (pI a n) (pI a (0 - n)) = 1 := by
  rw [pI_add h, show n + (0 - n) = 0 by omega]
  rfl
theorem pI_log {a : Gf.E} (h : a ≠ 0) (m n : Int) : (Gf.log (pI a m) + Gf.log (pI a n)) % 255 = Gf.log (pI a (m + n)) := by
  rw [← pI_add h, Gf.log_mul (pI_ne h m) (pI_ne h n)]

theorem pow_calls (a : Gf.E) (ha : a ≠ 0) (n : Int) (w : World) (hlo : -9223372036854775808 ≤ n) (hhi : n ≤ 9223372036854775807) :
    Calls Try.prog 14 #[.int .u8 (a.val : Int), .int .i64 n] w fun e w' => e = .returned (.tuple #[.int .u8 ((pI a n).val : Int), .int .i64 0]) ∧ w = w' := by
  have h := pow_c a n w hlo hhi
  rw [powE_pI ha, powX_ne ha] at h
  exact h
theorem log_v (a : Gf.E) (ha : a ≠ 0) (w : World) : Calls Try.prog 16 #[.int .u8 (a.val : Int)] w fun e w' => e = .returned (.tuple #[.int .i64 (Gf.log a : Int), .int .i64 0]) ∧ w = w' := log_calls a ha w

set_option maxRecDepth 100000 in
set_option maxHeartbeats 4000000 in
theorem walk_in (a : Gf.E) (m n : Int) (w : World) (ha : a ≠ 0) (h1 : -1099511627776 ≤ m) (h2 : m ≤ 1099511627776) (h3 : -1099511627776 ≤ n) (h4 : n ≤ 1099511627776) :
    Calls Try.prog 5 #[.int .u8 (a.val : Int), .int .i64 m, .int .i64 n] w fun e w' => e = .returned (.bool true) ∧ Below w.heap.size w w' := by
  have z1 := eq0' ha
  have k1 := nev (pI_add ha m n)
  have k2 : ((((Gf.mul (pI a n) (pI a (0 - n))).val : Nat) : Int) != 1) = false := by rw [pI_neg ha]; rfl
  have k3 : (((Gf.log (pI a m) : Nat) : Int) + ((Gf.log (pI a n) : Nat) : Int)) % 255 = ((Gf.log (pI a (m + n)) : Nat) : Int) := by
    rw [← pI_log ha]; omega
  have l1 := Gf.log_lt (pI_ne ha m)
  have l2 := Gf.log_lt (pI_ne ha n)
  have l3 := Gf.log_lt (pI_ne ha (m + n))
  have k4 : ((((Gf.log (pI a m) : Nat) : Int) + ((Gf.log (pI a n) : Nat) : Int)) % 255 == ((Gf.log (pI a (m + n)) : Nat) : Int)) = true := by rw [k3, beq_iff_eq]
  have HA := Lib.hid ha
  have HK := Lib.hid k3
  clear ha k3
  obtain ⟨sI, hs⟩ : ∃ sI, sI = m + n := ⟨_, rfl⟩
  obtain ⟨nI, hn⟩ : ∃ nI, nI = 0 - n := ⟨_, rfl⟩
  have HP1 := Lib.hid (fun w => pow_calls a HA.out m w (by omega) (by omega))
  have HP2 := Lib.hid (fun w => pow_calls a HA.out n w (by omega) (by omega))
  have HP3 := Lib.hid (fun w => pow_calls a HA.out (m + n) w (by omega) (by omega))
  have HP4 := Lib.hid (fun w => pow_calls a HA.out (0 - n) w (by omega) (by omega))
  have HP5 := Lib.hid (fun w => pow_calls a HA.out (-n) w (by omega) (by omega))
  have e5 : pI a (0 - n) = pI a (-n) := by rw [show 0 - n = -n by omega]
  rw [e5] at k2
  clear hs hn e5
  have HL1 := Lib.hid (fun w => log_v (pI a m) (pI_ne HA.out m) w)
  have HL2 := Lib.hid (fun w => log_v (pI a n) (pI_ne HA.out n) w)
  have HL3 := Lib.hid (fun w => log_v (pI a (m + n)) (pI_ne HA.out (m + n)) w)
  go_enter Try.func5, Try.ntmps5
  go_wp2_with (first | (go_at_call 11; refine (known_c _).mono ?_; rintro e w' ⟨rfl, hb⟩; replace hb := Lib.hid hb) | (go_at_call 19; ((with_reducible refine (mul_v _ _ _).mono ?_)); rintro e w' ⟨rfl, rfl⟩) | (go_at_call 14; ((with_reducible refine (HP1.out _).mono ?_)); rintro e w' ⟨rfl, rfl⟩) | (go_at_call 14; ((with_reducible refine (HP2.out _).mono ?_)); rintro e w' ⟨rfl, rfl⟩) | (go_at_call 14; ((with_reducible refine (HP3.out _).mono ?_)); rintro e w' ⟨rfl, rfl⟩) | (go_at_call 14; ((with_reducible refine (HP4.out _).mono ?_)); rintro e w' ⟨rfl, rfl⟩) | (go_at_call 14; ((with_reducible refine (HP5.out _).mono ?_)); rintro e w' ⟨rfl, rfl⟩) | (go_at_call 16; ((with_reducible refine (HL1.out _).mono ?_)); rintro e w' ⟨rfl, rfl⟩) | (go_at_call 16; ((with_reducible refine (HL2.out _).mono ?_)); rintro e w' ⟨rfl, rfl⟩) | (go_at_call 16; ((with_reducible refine (HL3.out _).mono ?_)); rintro e w' ⟨rfl, rfl⟩))
  go_ret
  exact ⟨rfl, hb.out⟩

set_option maxRecDepth 100000 in
set_option maxHeartbeats 4000000 in
theorem walk_out (a : Gf.E) (m n : Int) (w : World) (h : a = 0 ∨ (a ≠ 0 ∧ (m < -1099511627776 ∨ (-1099511627776 ≤ m ∧ 1099511627776 < m) ∨ (-1099511627776 ≤ m ∧ m ≤ 1099511627776 ∧ n < -1099511627776) ∨ (-1099511627776 ≤ m ∧ m ≤ 1099511627776 ∧ -1099511627776 ≤ n ∧ 1099511627776 < n)))) :
    Calls Try.prog 5 #[.int .u8 (a.val : Int), .int .i64 m, .int .i64 n] w fun e w' => e = .returned (.bool true) ∧ Below w.heap.size w w' := by
  rcases h with h | ⟨h, h1 | ⟨h1, h2⟩ | ⟨h1, h2, h3⟩ | ⟨h1, h2, h3, h4⟩⟩
  · have z1 := eq0 h
    clear h
    go_enter Try.func5, Try.ntmps5
    go_wp2_with (go_at_call 11; refine (known_c _).mono ?_; rintro e w' ⟨rfl, hb⟩; replace hb := Lib.hid hb)
    go_ret
    exact ⟨rfl, hb.out⟩
  all_goals
    have z1 := eq0' h
    clear h
    go_enter Try.func5, Try.ntmps5
    go_wp2_with (go_at_call 11; refine (known_c _).mono ?_; rintro e w' ⟨rfl, hb⟩; replace hb := Lib.hid hb)
    go_ret
    exact ⟨rfl, hb.out⟩

theorem walk (a0 a1 a2 : Int) (w : World) (w0 : (Lit.int .u8 a0).wf = true) (w1 : (Lit.int .i64 a1).wf = true) (w2 : (Lit.int .i64 a2).wf = true) :
    Calls Try.prog 5 #[.int .u8 a0, .int .i64 a1, .int .i64 a2] w fun e w' => e = .returned (.bool true) ∧ Below w.heap.size w w' := by
  obtain ⟨a, rfl⟩ := elem_of w0
  by_cases h : a ≠ 0 ∧ -1099511627776 ≤ a1 ∧ a1 ≤ 1099511627776 ∧ -1099511627776 ≤ a2 ∧ a2 ≤ 1099511627776
  · exact walk_in a a1 a2 w h.1 h.2.1 h.2.2.1 h.2.2.2.1 h.2.2.2.2
  · refine walk_out a a1 a2 w ?_
    by_cases ha : a = 0
    · exact .inl ha
    · refine .inr ⟨ha, ?_⟩
      have h' : ¬ (-1099511627776 ≤ a1 ∧ a1 ≤ 1099511627776 ∧ -1099511627776 ≤ a2 ∧ a2 ≤ 1099511627776) := fun x => h ⟨ha, x⟩
      omega

set_option maxRecDepth 100000 in
theorem lifted (os : Os) (started : os.Started) (H : Type) (enc : TypeId × Value → H) :
    ReturnsInHanded {} Try.checked os 5 .any (Rows.gfPowersSpec.pre6 enc Try.prog Try.f5 Rows.gfPowersRow.domain false) (Rows.gfPowersSpec.post enc Try.prog Try.f5 false true false false) := by
  refine returnsInHanded_of_change_sized (C := Try.checked) own started (by kernel_rfl) Try.func5
    (ChangeSpec.witness6 (enc := enc) (C := Try.checked) false ⟨#[], #[.int .u8 0, .int .i64 0, .int .i64 0], []⟩ 8 (by kernel_rfl) (by kernel_rfl) (by kernel_rfl) (by kernel_rfl)) ?_
  intro W base args ds gs before hval0 hW hcnd hsz0 _
  have hsz : (DataW.weightsEach Try.prog (Try.f5.params.toList ++ Rows.gfPowersSpec.plain.varTypes Try.prog) (ds ++ gs)).all (· ≤ reachBytes) = true := hsz0
  have hval : ∀ (j : Nat) t v, Try.f5.params[j]? = some t → args[j]? = some v → Value.okWide Try.prog W .any base t v := hval0
  have hW' := hW
  obtain ⟨p, q, hA0, hV, rfl, hfz, hnd⟩ := hW
  have hA : DataW.TrodAll enc Try.prog W 0 (fun _ => true) true Try.f5.params.toList args.toList ds p := hA0
  rw [Try.params5] at hA hval hsz
  obtain ⟨v0, vs0, d0, ds0, p0, q0, hargs, rfl, rfl, h0, r0⟩ := trodAll_cons hA
  obtain ⟨v1, vs1, d1, ds1, p1, q1, rfl, rfl, rfl, h1, r1⟩ := trodAll_cons r0
  obtain ⟨v2, vs2, d2, ds2, p2, q2, rfl, rfl, rfl, h2, r2⟩ := trodAll_cons r1
  obtain ⟨rfl, rfl, rfl⟩ := trodAll_nil r2
  obtain rfl : args = #[v0, v1, v2] := by cases args; simp_all
  obtain ⟨rfl, rfl⟩ := trodVars_none hV
  obtain ⟨a0, rfl, rfl, rfl, w0⟩ := open_int Try.underlying5 (hval 0 5 v0 rfl rfl) h0
  obtain ⟨a1, rfl, rfl, rfl, w1⟩ := open_int Try.underlying3 (hval 1 3 v1 rfl rfl) h1
  obtain ⟨a2, rfl, rfl, rfl, w2⟩ := open_int Try.underlying3 (hval 2 3 v2 rfl rfl) h2
  clear hA0 hval0 hsz0 hsz
  refine (walk a0 a1 a2 W w0 w1 w2).mono fun e W' ⟨he, bel⟩ => ?_
  subst he
  exact ⟨_, rfl, _, _, _, [], _, [], hW', trodAll_mk1 (shut_bool Try.underlying4 _), (trodAll_cons_mk (shut_int Try.underlying5 w0) (trodAll_cons_mk (shut_int Try.underlying3 w1) (trodAll_cons_mk (shut_int Try.underlying3 w2) trodAll_mk0))), rfl, bel.frame _, fun h => by cases h⟩
theorem over : Rows.gfPowersRow.holds Try.pinned (OpenSpec.ofChange Rows.gfPowersSpec) :=
  OpenClaim.holds_of_wide 5 Try.f5 rfl rfl rfl rfl rfl rfl rfl ⟨rfl, rfl, rfl, rfl, rfl⟩ rfl rfl rfl rfl rfl (by kernel_rfl) Try.func5 (by kernel_rfl)
    (of_decide_eq_true (by kernel_rfl)) (by unfold Func.isWrapper; first | (rw [if_pos (by decide +kernel)]; kernel_rfl) | (rw [if_neg (by decide +kernel)]; exact ⟨rfl, rfl⟩))
    (fun os started H enc _ => lifted os started H enc)
theorem proved : Rows.GfPowersSaid := over
#print axioms proved
end Go.Proofs.Ytldndaimgfegnaa.gfPowers
namespace Go.Proofs.Ytldndaimgfegnaa
/-- The row, under a short name, for the claim. -/
theorem gfPowers_holds : Rows.GfPowersSaid := gfPowers.proved
end Go.Proofs.Ytldndaimgfegnaa
