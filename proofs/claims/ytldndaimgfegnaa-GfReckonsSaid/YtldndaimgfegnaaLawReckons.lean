/- GfReckons holds: for any two elements and any power, gf and the reference tell the same sums, products, quotients, powers and logarithms. No condition. -/
import Derived.Test.YtldndaimgfegnaaRows
import Derived.Test.YtldndaimgfegnaaKnown
import Derived.Test.YtldndaimgfegnaaRefA
import Derived.Test.YtldndaimgfegnaaRowWords
namespace Go.Proofs.Ytldndaimgfegnaa.gfReckons
open Go.ChangeShapes Go.WideShapes Go.ChangeAt Go.RowKit
open Go.ChangeMaps (open_string shut_string)
set_option linter.unusedVariables false

set_option maxRecDepth 100000 in
set_option maxHeartbeats 2000000 in
theorem walk0 (a b : Gf.E) (n : Int) (w : World) (hlo : -9223372036854775808 ≤ n) (hhi : n ≤ 9223372036854775807) :
    Calls Try.prog 3 #[vb a, vb b, .int .i64 n] w fun e w' => e = .returned (.bool true) ∧ Below w.heap.size w w' := by
  have hx := u8_xor_nat a.val b.val a.isLt b.isLt
  have hx2 : ((Gf.add a b).val : Int) = ((a.val ^^^ b.val : Nat) : Int) := rfl
  have hx3 : (((Gf.add a b).val : Int) == Go.bits .xor .u8 (a.val : Int) (b.val : Int)) = true := by rw [hx, hx2, beq_iff_eq]
  have HX := Lib.hid hx
  clear hx hx2
  unfold vb
  go_enter Try.func3, Try.ntmps3
  go_wp2_with (first | (go_at_call 11; refine (known_c _).mono ?_; rintro e w' ⟨rfl, hb⟩; replace hb := Lib.hid hb) | (go_at_call 12; refine (div_c a b _).mono ?_; rintro e w' ⟨rfl, rfl⟩) | (go_at_call 13; refine (rdiv_c a b _).mono ?_; rintro e w' ⟨rfl, rfl⟩) | (go_at_call 14; refine (pow_c a n _ hlo hhi).mono ?_; rintro e w' ⟨rfl, rfl⟩) | (go_at_call 15; refine (rpow_c a n _ hlo hhi).mono ?_; rintro e w' ⟨rfl, rfl⟩) | (go_at_call 16; refine (log_c a _).mono ?_; rintro e w' ⟨rfl, rfl⟩) | (go_at_call 17; refine (rlog_c a _).mono ?_; rintro e w' ⟨rfl, rfl⟩) | (go_at_call 18; refine (add_c a b _).mono ?_; rintro e w' ⟨rfl, rfl⟩) | (go_at_call 19; refine (mul_c a b _).mono ?_; rintro e w' ⟨rfl, rfl⟩) | (go_at_call 20; refine (rmul_c a b _).mono ?_; rintro e w' ⟨rfl, rfl⟩))
  go_ret
  exact ⟨rfl, hb.out⟩

theorem walk (a0 a1 a2 : Int) (w : World) (w0 : (Lit.int .u8 a0).wf = true) (w1 : (Lit.int .u8 a1).wf = true) (w2 : (Lit.int .i64 a2).wf = true) :
    Calls Try.prog 3 #[.int .u8 a0, .int .u8 a1, .int .i64 a2] w fun e w' => e = .returned (.bool true) ∧ Below w.heap.size w w' := by
  obtain ⟨a, rfl⟩ := elem_of w0
  obtain ⟨b, rfl⟩ := elem_of w1
  obtain ⟨h1, h2⟩ := int_of w2
  exact walk0 a b a2 w h1 h2

set_option maxRecDepth 100000 in
theorem lifted (os : Os) (started : os.Started) (H : Type) (enc : TypeId × Value → H) :
    ReturnsInHanded {} Try.checked os 3 .any (Rows.gfReckonsSpec.pre6 enc Try.prog Try.f3 Rows.gfReckonsRow.domain false) (Rows.gfReckonsSpec.post enc Try.prog Try.f3 false true false false) := by
  refine returnsInHanded_of_change_sized (C := Try.checked) own started (by kernel_rfl) Try.func3
    (ChangeSpec.witness6 (enc := enc) (C := Try.checked) false ⟨#[], #[.int .u8 0, .int .u8 0, .int .i64 0], []⟩ 8 (by kernel_rfl) (by kernel_rfl) (by kernel_rfl) (by kernel_rfl)) ?_
  intro W base args ds gs before hval0 hW hcnd hsz0 _
  have hsz : (DataW.weightsEach Try.prog (Try.f3.params.toList ++ Rows.gfReckonsSpec.plain.varTypes Try.prog) (ds ++ gs)).all (· ≤ reachBytes) = true := hsz0
  have hval : ∀ (j : Nat) t v, Try.f3.params[j]? = some t → args[j]? = some v → Value.okWide Try.prog W .any base t v := hval0
  have hW' := hW
  obtain ⟨p, q, hA0, hV, rfl, hfz, hnd⟩ := hW
  have hA : DataW.TrodAll enc Try.prog W 0 (fun _ => true) true Try.f3.params.toList args.toList ds p := hA0
  rw [Try.params3] at hA hval hsz
  obtain ⟨v0, vs0, d0, ds0, p0, q0, hargs, rfl, rfl, h0, r0⟩ := trodAll_cons hA
  obtain ⟨v1, vs1, d1, ds1, p1, q1, rfl, rfl, rfl, h1, r1⟩ := trodAll_cons r0
  obtain ⟨v2, vs2, d2, ds2, p2, q2, rfl, rfl, rfl, h2, r2⟩ := trodAll_cons r1
  obtain ⟨rfl, rfl, rfl⟩ := trodAll_nil r2
  obtain rfl : args = #[v0, v1, v2] := by cases args; simp_all
  obtain ⟨rfl, rfl⟩ := trodVars_none hV
  obtain ⟨a0, rfl, rfl, rfl, w0⟩ := open_int Try.underlying5 (hval 0 5 v0 rfl rfl) h0
  obtain ⟨a1, rfl, rfl, rfl, w1⟩ := open_int Try.underlying5 (hval 1 5 v1 rfl rfl) h1
  obtain ⟨a2, rfl, rfl, rfl, w2⟩ := open_int Try.underlying3 (hval 2 3 v2 rfl rfl) h2
  clear hA0 hval0 hsz0 hsz
  refine (walk a0 a1 a2 W w0 w1 w2).mono fun e W' ⟨he, bel⟩ => ?_
  subst he
  exact ⟨_, rfl, _, _, _, [], _, [], hW', trodAll_mk1 (shut_bool Try.underlying4 _), (trodAll_cons_mk (shut_int Try.underlying5 w0) (trodAll_cons_mk (shut_int Try.underlying5 w1) (trodAll_cons_mk (shut_int Try.underlying3 w2) trodAll_mk0))), rfl, bel.frame _, fun h => by cases h⟩
theorem over : Rows.gfReckonsRow.holds Try.pinned (OpenSpec.ofChange Rows.gfReckonsSpec) :=
  OpenClaim.holds_of_wide 3 Try.f3 rfl rfl rfl rfl rfl rfl rfl ⟨rfl, rfl, rfl, rfl, rfl⟩ rfl rfl rfl rfl rfl (by kernel_rfl) Try.func3 (by kernel_rfl)
    (of_decide_eq_true (by kernel_rfl)) (by unfold Func.isWrapper; first | (rw [if_pos (by decide +kernel)]; kernel_rfl) | (rw [if_neg (by decide +kernel)]; exact ⟨rfl, rfl⟩))
    (fun os started H enc _ => lifted os started H enc)
theorem proved : Rows.GfReckonsSaid := over
#print axioms proved
end Go.Proofs.Ytldndaimgfegnaa.gfReckons
namespace Go.Proofs.Ytldndaimgfegnaa
/-- The row, under a short name, for the claim. -/
theorem gfReckons_holds : Rows.GfReckonsSaid := gfReckons.proved
end Go.Proofs.Ytldndaimgfegnaa
