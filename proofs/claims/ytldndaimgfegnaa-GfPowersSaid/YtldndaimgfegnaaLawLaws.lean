/- GfLaws holds: the field's laws hold of gf's functions, at any three elements. No condition. -/
import Derived.Test.YtldndaimgfegnaaRows
import Derived.Test.YtldndaimgfegnaaKnown
import Derived.Test.YtldndaimgfegnaaRowWords
namespace Go.Proofs.Ytldndaimgfegnaa.gfLaws
open Go.ChangeShapes Go.WideShapes Go.ChangeAt Go.RowKit
open Go.ChangeMaps (open_string shut_string)
set_option linter.unusedVariables false

theorem nev {x y : Gf.E} (h : x = y) : ((x.val : Int) != (y.val : Int)) = false := by rw [h, bne_eq_false_iff_eq]
theorem eqv {x y : Gf.E} (h : x = y) : ((x.val : Int) == (y.val : Int)) = true := by rw [h, beq_iff_eq]
theorem ne0 {x : Gf.E} (h : x = 0) : ((x.val : Int) != 0) = false := by rw [h]; rfl
theorem ne0' {x : Gf.E} (h : x ≠ 0) : ((x.val : Int) != 0) = true := by
  rw [bne_iff_ne]
  intro e
  exact h (Fin.ext (by show x.val = 0; omega))
theorem eq0 {x : Gf.E} (h : x = 0) : ((x.val : Int) == 0) = true := by rw [h]; rfl
theorem eq0' {x : Gf.E} (h : x ≠ 0) : ((x.val : Int) == 0) = false := by rw [val_zero]; exact decide_eq_false h

theorem div_mul {a b : Gf.E} (h : b ≠ 0) : divE (Gf.mul a b) b = a := by
  unfold divE
  rw [if_neg h, Gf.mul_assoc, Gf.mul_inv h, Gf.mul_one]

theorem mul_v (x y : Gf.E) (w : World) : Calls Try.prog 19 #[.int .u8 (x.val : Int), .int .u8 (y.val : Int)] w fun e w' => e = .returned (.int .u8 ((Gf.mul x y).val : Int)) ∧ w = w' := mul_c x y w
theorem mul_1 (x : Gf.E) (w : World) : Calls Try.prog 19 #[.int .u8 (x.val : Int), .int .u8 1] w fun e w' => e = .returned (.int .u8 ((Gf.mul x 1).val : Int)) ∧ w = w' := mul_c x 1 w
theorem mul_0 (x : Gf.E) (w : World) : Calls Try.prog 19 #[.int .u8 (x.val : Int), .int .u8 0] w fun e w' => e = .returned (.int .u8 ((Gf.mul x 0).val : Int)) ∧ w = w' := mul_c x 0 w
theorem add_v (x y : Gf.E) (w : World) : Calls Try.prog 18 #[.int .u8 (x.val : Int), .int .u8 (y.val : Int)] w fun e w' => e = .returned (.int .u8 ((Gf.add x y).val : Int)) ∧ w = w' := add_c x y w
theorem log_calls (a : Gf.E) (ha : a ≠ 0) (w : World) : Calls Try.prog 16 #[vb a] w fun e w' => e = .returned (.tuple #[.int .i64 (Gf.log a : Int), .int .i64 0]) ∧ w = w' := by
  have h := log_c a w
  rw [show logI a = (Gf.log a : Int) from if_neg ha, show logX a = 0 from if_neg ha] at h
  exact h
theorem pow2_calls (a : Gf.E) (ha : a ≠ 0) (w : World) : Calls Try.prog 14 #[.int .u8 2, .int .i64 (Gf.log a : Int)] w fun e w' => e = .returned (.tuple #[vb a, .int .i64 0]) ∧ w = w' := by
  have hl := Gf.log_lt ha
  have h := pow_c 2 (Gf.log a : Int) w (by omega) (by omega)
  have e1 : powE 2 (Gf.log a : Int) = a := by
    unfold powE
    by_cases h0 : (Gf.log a : Int) = 0
    · rw [if_pos h0]
      have := Gf.pow_log ha
      rw [show Gf.log a = 0 by omega] at this
      exact this
    · rw [if_neg h0, if_neg (by decide), show ((Gf.log a : Int) % 255).toNat = Gf.log a by omega, Gf.pow_log ha]
  have e2 : powX 2 (Gf.log a : Int) = 0 := powX_ne (by decide) _
  rw [e1, e2] at h
  exact h
theorem div_calls (a b : Gf.E) (hb : b ≠ 0) (w : World) : Calls Try.prog 12 #[vb (Gf.mul a b), vb b] w fun e w' => e = .returned (.tuple #[vb a, .int .i64 0]) ∧ w = w' := by
  have h := div_c (Gf.mul a b) b w
  rw [div_mul hb, show divX b = 0 from if_neg hb] at h
  exact h

set_option maxRecDepth 100000 in
set_option maxHeartbeats 4000000 in
theorem walk0 (a b c : Gf.E) (w : World) : Calls Try.prog 4 #[vb a, vb b, vb c] w fun e w' => e = .returned (.bool true) ∧ Below w.heap.size w w' := by
  have h1 := nev (Gf.mul_comm a b)
  have h2 := nev (Gf.mul_assoc a b c).symm
  have h3 := nev (Gf.mul_add a b c)
  have h4 := ne0 (Gf.add_self a)
  have h5 := nev (Gf.mul_one a)
  have h6 := ne0 (Gf.mul_zero a)
  by_cases ha : a = 0
  · have z1 := eq0 ha
    by_cases hb : b = 0
    · have z2 := ne0 hb
      clear ha hb
      go_enter Try.func4, Try.ntmps4
      go_wp2_with (first | (go_at_call 11; refine (known_c _).mono ?_; rintro e w' ⟨rfl, hb⟩; replace hb := Lib.hid hb) | (go_at_call 19; ((with_reducible refine (mul_v _ _ _).mono ?_)); rintro e w' ⟨rfl, rfl⟩) | (go_at_call 19; ((with_reducible refine (mul_1 _ _).mono ?_)); rintro e w' ⟨rfl, rfl⟩) | (go_at_call 19; ((with_reducible refine (mul_0 _ _).mono ?_)); rintro e w' ⟨rfl, rfl⟩) | (go_at_call 18; ((with_reducible refine (add_v _ _ _).mono ?_)); rintro e w' ⟨rfl, rfl⟩))
      go_ret
      exact ⟨rfl, hb.out⟩
    · have z2 := ne0' hb
      have HD := Lib.hid (fun w => div_calls a b hb w)
      clear ha hb
      go_enter Try.func4, Try.ntmps4
      go_wp2_with (first | (go_at_call 11; refine (known_c _).mono ?_; rintro e w' ⟨rfl, hb⟩; replace hb := Lib.hid hb) | (go_at_call 19; ((with_reducible refine (mul_v _ _ _).mono ?_)); rintro e w' ⟨rfl, rfl⟩) | (go_at_call 19; ((with_reducible refine (mul_1 _ _).mono ?_)); rintro e w' ⟨rfl, rfl⟩) | (go_at_call 19; ((with_reducible refine (mul_0 _ _).mono ?_)); rintro e w' ⟨rfl, rfl⟩) | (go_at_call 18; ((with_reducible refine (add_v _ _ _).mono ?_)); rintro e w' ⟨rfl, rfl⟩) | (go_at_call 12; refine (HD.out _).mono ?_; rintro e w' ⟨rfl, rfl⟩))
      go_ret
      exact ⟨rfl, hb.out⟩
  · have z1 := eq0' ha
    have hl := Gf.log_lt ha
    have HL := Lib.hid (fun w => log_calls a ha w)
    have HP := Lib.hid (fun w => pow2_calls a ha w)
    by_cases hb : b = 0
    · have z2 := ne0 hb
      clear ha hb
      go_enter Try.func4, Try.ntmps4
      go_wp2_with (first | (go_at_call 11; refine (known_c _).mono ?_; rintro e w' ⟨rfl, hb⟩; replace hb := Lib.hid hb) | (go_at_call 19; ((with_reducible refine (mul_v _ _ _).mono ?_)); rintro e w' ⟨rfl, rfl⟩) | (go_at_call 19; ((with_reducible refine (mul_1 _ _).mono ?_)); rintro e w' ⟨rfl, rfl⟩) | (go_at_call 19; ((with_reducible refine (mul_0 _ _).mono ?_)); rintro e w' ⟨rfl, rfl⟩) | (go_at_call 18; ((with_reducible refine (add_v _ _ _).mono ?_)); rintro e w' ⟨rfl, rfl⟩) | (go_at_call 16; refine (HL.out _).mono ?_; rintro e w' ⟨rfl, rfl⟩) | (go_at_call 14; refine (HP.out _).mono ?_; rintro e w' ⟨rfl, rfl⟩))
      go_ret
      exact ⟨by show Ending.returned (.bool (decide ((Gf.log a : Int) < 255))) = _; rw [decide_eq_true (by omega)], hb.out⟩
    · have z2 := ne0' hb
      have HD := Lib.hid (fun w => div_calls a b hb w)
      clear ha hb
      go_enter Try.func4, Try.ntmps4
      go_wp2_with (first | (go_at_call 11; refine (known_c _).mono ?_; rintro e w' ⟨rfl, hb⟩; replace hb := Lib.hid hb) | (go_at_call 19; ((with_reducible refine (mul_v _ _ _).mono ?_)); rintro e w' ⟨rfl, rfl⟩) | (go_at_call 19; ((with_reducible refine (mul_1 _ _).mono ?_)); rintro e w' ⟨rfl, rfl⟩) | (go_at_call 19; ((with_reducible refine (mul_0 _ _).mono ?_)); rintro e w' ⟨rfl, rfl⟩) | (go_at_call 18; ((with_reducible refine (add_v _ _ _).mono ?_)); rintro e w' ⟨rfl, rfl⟩) | (go_at_call 12; refine (HD.out _).mono ?_; rintro e w' ⟨rfl, rfl⟩) | (go_at_call 16; refine (HL.out _).mono ?_; rintro e w' ⟨rfl, rfl⟩) | (go_at_call 14; refine (HP.out _).mono ?_; rintro e w' ⟨rfl, rfl⟩))
      go_ret
      exact ⟨by show Ending.returned (.bool (decide ((Gf.log a : Int) < 255))) = _; rw [decide_eq_true (by omega)], hb.out⟩

theorem walk (a0 a1 a2 : Int) (w : World) (w0 : (Lit.int .u8 a0).wf = true) (w1 : (Lit.int .u8 a1).wf = true) (w2 : (Lit.int .u8 a2).wf = true) :
    Calls Try.prog 4 #[.int .u8 a0, .int .u8 a1, .int .u8 a2] w fun e w' => e = .returned (.bool true) ∧ Below w.heap.size w w' := by
  obtain ⟨a, rfl⟩ := elem_of w0
  obtain ⟨b, rfl⟩ := elem_of w1
  obtain ⟨c, rfl⟩ := elem_of w2
  exact walk0 a b c w

set_option maxRecDepth 100000 in
theorem lifted (os : Os) (started : os.Started) (H : Type) (enc : TypeId × Value → H) :
    ReturnsInHanded {} Try.checked os 4 .any (Rows.gfLawsSpec.pre6 enc Try.prog Try.f4 Rows.gfLawsRow.domain false) (Rows.gfLawsSpec.post enc Try.prog Try.f4 false true false false) := by
  refine returnsInHanded_of_change_sized (C := Try.checked) own started (by kernel_rfl) Try.func4
    (ChangeSpec.witness6 (enc := enc) (C := Try.checked) false ⟨#[], #[.int .u8 0, .int .u8 0, .int .u8 0], []⟩ 8 (by kernel_rfl) (by kernel_rfl) (by kernel_rfl) (by kernel_rfl)) ?_
  intro W base args ds gs before hval0 hW hcnd hsz0 _
  have hsz : (DataW.weightsEach Try.prog (Try.f4.params.toList ++ Rows.gfLawsSpec.plain.varTypes Try.prog) (ds ++ gs)).all (· ≤ reachBytes) = true := hsz0
  have hval : ∀ (j : Nat) t v, Try.f4.params[j]? = some t → args[j]? = some v → Value.okWide Try.prog W .any base t v := hval0
  have hW' := hW
  obtain ⟨p, q, hA0, hV, rfl, hfz, hnd⟩ := hW
  have hA : DataW.TrodAll enc Try.prog W 0 (fun _ => true) true Try.f4.params.toList args.toList ds p := hA0
  rw [Try.params4] at hA hval hsz
  obtain ⟨v0, vs0, d0, ds0, p0, q0, hargs, rfl, rfl, h0, r0⟩ := trodAll_cons hA
  obtain ⟨v1, vs1, d1, ds1, p1, q1, rfl, rfl, rfl, h1, r1⟩ := trodAll_cons r0
  obtain ⟨v2, vs2, d2, ds2, p2, q2, rfl, rfl, rfl, h2, r2⟩ := trodAll_cons r1
  obtain ⟨rfl, rfl, rfl⟩ := trodAll_nil r2
  obtain rfl : args = #[v0, v1, v2] := by cases args; simp_all
  obtain ⟨rfl, rfl⟩ := trodVars_none hV
  obtain ⟨a0, rfl, rfl, rfl, w0⟩ := open_int Try.underlying5 (hval 0 5 v0 rfl rfl) h0
  obtain ⟨a1, rfl, rfl, rfl, w1⟩ := open_int Try.underlying5 (hval 1 5 v1 rfl rfl) h1
  obtain ⟨a2, rfl, rfl, rfl, w2⟩ := open_int Try.underlying5 (hval 2 5 v2 rfl rfl) h2
  clear hA0 hval0 hsz0 hsz
  refine (walk a0 a1 a2 W w0 w1 w2).mono fun e W' ⟨he, bel⟩ => ?_
  subst he
  exact ⟨_, rfl, _, _, _, [], _, [], hW', trodAll_mk1 (shut_bool Try.underlying4 _), (trodAll_cons_mk (shut_int Try.underlying5 w0) (trodAll_cons_mk (shut_int Try.underlying5 w1) (trodAll_cons_mk (shut_int Try.underlying5 w2) trodAll_mk0))), rfl, bel.frame _, fun h => by cases h⟩
theorem over : Rows.gfLawsRow.holds Try.pinned (OpenSpec.ofChange Rows.gfLawsSpec) :=
  OpenClaim.holds_of_wide 4 Try.f4 rfl rfl rfl rfl rfl rfl rfl ⟨rfl, rfl, rfl, rfl, rfl⟩ rfl rfl rfl rfl rfl (by kernel_rfl) Try.func4 (by kernel_rfl)
    (of_decide_eq_true (by kernel_rfl)) (by unfold Func.isWrapper; first | (rw [if_pos (by decide +kernel)]; kernel_rfl) | (rw [if_neg (by decide +kernel)]; exact ⟨rfl, rfl⟩))
    (fun os started H enc _ => lifted os started H enc)
theorem proved : Rows.GfLawsSaid := over
#print axioms proved
end Go.Proofs.Ytldndaimgfegnaa.gfLaws
namespace Go.Proofs.Ytldndaimgfegnaa
/-- The row, under a short name, for the claim. -/
theorem gfLaws_holds : Rows.GfLawsSaid := gfLaws.proved
end Go.Proofs.Ytldndaimgfegnaa
