/- GfMakes holds where what it reads is of bulk at most 1048576: gf and the reference make the same unit and Cauchy matrices, or the same error, of any sizes, and call the same matrices right. -/
import Derived.Test.YtldndaimgfegnaaOpen
import Derived.Test.YtldndaimgfegnaaKnown
import Derived.Test.YtldndaimgfegnaaRight
import Derived.Test.YtldndaimgfegnaaRefB
namespace Go.Proofs.Ytldndaimgfegnaa.gfMakes
open Go.ChangeShapes Go.WideShapes Go.ChangeAt Go.RowKit
open Go.ChangeMaps (open_string shut_string)
set_option linter.unusedVariables false

def szOf (ok : Bool) (n : Nat) : Nat := if ok = true then n else 0
theorem szOf_le {ok : Bool} {n b : Nat} (h : ok = true → n ≤ b) : szOf ok n ≤ b := by
  unfold szOf
  split
  · exact h ‹_›
  · omega
theorem matOr_rd {ok : Bool} {w w' : World} {v : Value} {n m : Nat} {F : Nat → Nat → Gf.E} (h : MatOr ok w w' v n m F) :
    ∃ (A : Option Addr) (c : Nat), v = .slice A (szOf ok n) c ∧ RdM w' A (szOf ok n) (fun _ => m) F ∧ Below w.heap.size w w' := by
  unfold MatOr szOf at *
  split
  · rename_i e
    rw [if_pos e] at h
    obtain ⟨g, cap, bs, rfl, _, hm, _, _, _, hb⟩ := h
    exact ⟨_, _, rfl, hm.rd, hb⟩
  · rename_i e
    rw [if_neg e] at h
    obtain ⟨rfl, hb⟩ := h
    exact ⟨none, 0, rfl, ⟨fun _ => none, fun _ => 0, RdF.none_, fun i hi => absurd hi (Nat.not_lt_zero _)⟩, hb⟩
theorem same_true {A B : Option Addr} {n c d m : Nat} {F : Nat → Nat → Gf.E} {w : World} (ha : RdM w A n (fun _ => m) F) (hb : RdM w B n (fun _ => m) F) (hn : n ≤ 256) :
    Calls Try.prog 24 #[.slice A n c, .slice B n d] w fun e w' => e = .returned (.bool true) ∧ Drew w w' := by
  have h := same_c A B n n c d (fun _ => m) (fun _ => m) F F w ha hb (by omega) (by omega)
  rw [sameB_true ⟨rfl, fun i _ => ⟨rfl, fun j _ => rfl⟩⟩] at h
  exact h
theorem unit_sz (n : Int) : szOf (unitOk n) n.toNat ≤ 256 := szOf_le (fun h => by have := of_decide_eq_true h; omega)
theorem cau_sz (r c : Int) : szOf (cauOk r c) r.toNat ≤ 256 := szOf_le (fun h => by have := of_decide_eq_true h; omega)

theorem unit2 (n : Int) (w : World) (h : n ≤ 9223372036854775807) : Calls Try.prog 22 #[.int .i64 n] w fun e w' => ∃ (A : Option Addr) (c : Nat), e = .returned (.tuple #[.slice A (szOf (unitOk n) n.toNat) c, .int .i64 (errOf (unitOk n))]) ∧ Hid (RdM w' A (szOf (unitOk n) n.toNat) (fun _ => n.toNat) unitE) ∧ Hid (Below w.heap.size w w') := by
  refine (unit_c n w h).mono ?_
  rintro e w' ⟨v, rfl, hv⟩
  obtain ⟨A, c, rfl, h1, h2⟩ := matOr_rd hv
  exact ⟨A, c, rfl, Lib.hid h1, Lib.hid h2⟩
theorem runit2 (n : Int) (w : World) : Calls Try.prog 23 #[.int .i64 n] w fun e w' => ∃ (A : Option Addr) (c : Nat), e = .returned (.tuple #[.slice A (szOf (unitOk n) n.toNat) c, .int .i64 (errOf (unitOk n))]) ∧ Hid (RdM w' A (szOf (unitOk n) n.toNat) (fun _ => n.toNat) unitE) ∧ Hid (Below w.heap.size w w') := by
  refine (runit_c n w).mono ?_
  rintro e w' ⟨v, rfl, hv⟩
  obtain ⟨A, c, rfl, h1, h2⟩ := matOr_rd hv
  exact ⟨A, c, rfl, Lib.hid h1, Lib.hid h2⟩
theorem cauchy2 (r c : Int) (w : World) (hr0 : -9223372036854775808 ≤ r) (hc0 : -9223372036854775808 ≤ c) : Calls Try.prog 25 #[.int .i64 r, .int .i64 c] w fun e w' => ∃ (A : Option Addr) (cc : Nat), e = .returned (.tuple #[.slice A (szOf (cauOk r c) r.toNat) cc, .int .i64 (errOf (cauOk r c))]) ∧ Hid (RdM w' A (szOf (cauOk r c) r.toNat) (fun _ => c.toNat) (cauE c.toNat)) ∧ Hid (Below w.heap.size w w') := by
  refine (cauchy_c r c w hr0 hc0).mono ?_
  rintro e w' ⟨v, rfl, hv⟩
  obtain ⟨A, c, rfl, h1, h2⟩ := matOr_rd hv
  exact ⟨A, c, rfl, Lib.hid h1, Lib.hid h2⟩
theorem rcauchy2 (r c : Int) (w : World) (hr0 : -9223372036854775808 ≤ r) (hc0 : -9223372036854775808 ≤ c) : Calls Try.prog 26 #[.int .i64 r, .int .i64 c] w fun e w' => ∃ (A : Option Addr) (cc : Nat), e = .returned (.tuple #[.slice A (szOf (cauOk r c) r.toNat) cc, .int .i64 (errOf (cauOk r c))]) ∧ Hid (RdM w' A (szOf (cauOk r c) r.toNat) (fun _ => c.toNat) (cauE c.toNat)) ∧ Hid (Below w.heap.size w w') := by
  by_cases h : cauOk r c = true
  · have h' := of_decide_eq_true h
    rw [h]
    obtain ⟨m, rfl⟩ := Int.eq_ofNat_of_zero_le (show 0 ≤ r by omega)
    obtain ⟨n, rfl⟩ := Int.eq_ofNat_of_zero_le (show 0 ≤ c by omega)
    refine (rcauchy_yes m n w (by omega) (by omega) (by omega)).mono ?_
    rintro e w' ⟨v, rfl, g, cap, bs, rfl, _, hm, _, _, _, hb⟩
    exact ⟨_, _, rfl, Lib.hid hm.rd, Lib.hid hb⟩
  · have h' : cauOk r c = false := by simpa using h
    rw [h']
    refine (rcauchy_no r c w h' hr0 hc0).mono ?_
    rintro e w' ⟨rfl, rfl⟩
    exact ⟨none, 0, rfl, Lib.hid ⟨fun _ => none, fun _ => 0, RdF.none_, fun i hi => absurd hi (Nat.not_lt_zero _)⟩, Lib.hid (Below.refl _ _)⟩
theorem bel_trans {w w1 w2 : World} (h : Hid (Below w.heap.size w w1)) (k : Hid (Below w1.heap.size w1 w2)) : Hid (Below w.heap.size w w2) := Lib.hid (below_then h.out h.out.size k.out)
theorem bel_drew {w w1 w2 : World} (h : Hid (Below w.heap.size w w1)) (k : Drew w1 w2) : Hid (Below w.heap.size w w2) := Lib.hid (below_then h.out h.out.size k.below)

set_option maxRecDepth 100000 in
set_option maxHeartbeats 4000000 in
theorem walk_few (n r c : Int) (A : Option Addr) (len cap : Nat) (L : Nat → Nat) (F : Nat → Nat → Gf.E) (w : World) (hm : RdM w A len L F) (hs : len + sumL L len ≤ 1048576) (hf : fewB len L = false) :
    Calls Try.prog 6 #[.int .i64 n, .int .i64 r, .int .i64 c, .slice A len cap] w fun e w' => e = .returned (.bool true) ∧ Below w.heap.size w w' := by
  have HM := Lib.hid hm
  have HF := Lib.hid hf
  clear hm hf
  go_enter Try.func6, Try.ntmps6
  go_wp2_with (first | (go_at_call 11; refine (known_c _).mono ?_; rintro e w1 ⟨rfl, hb⟩; replace hb := Lib.hid hb) | (go_at_call 21; refine (few_c A len cap L F _ (HM.out.below hb.out) hs).mono ?_; rintro e w2 ⟨rfl, rfl⟩; rw [HF.out]))
  go_ret
  exact ⟨rfl, hb.out⟩

set_option maxRecDepth 100000 in
set_option maxHeartbeats 4000000 in
theorem walk0 (n r c : Int) (A : Option Addr) (len cap : Nat) (L : Nat → Nat) (F : Nat → Nat → Gf.E) (w : World) (hm : RdM w A len L F) (hs : len + sumL L len ≤ 1048576) (hf : fewB len L = true)
    (hn : n ≤ 9223372036854775807) (hr0 : -9223372036854775808 ≤ r) (hc0 : -9223372036854775808 ≤ c) :
    Calls Try.prog 6 #[.int .i64 n, .int .i64 r, .int .i64 c, .slice A len cap] w fun e w' => e = .returned (.bool true) ∧ Below w.heap.size w w' := by
  have HM := Lib.hid hm
  have HF := Lib.hid hf
  have HL : Hid (∀ i, i < len → L i ≤ 4611686018427387904) := Lib.hid (fun i hi => by have := sumL_le L hi; omega)
  have HN := Lib.hid hn
  have HR0 := Lib.hid hr0
  have HC0 := Lib.hid hc0
  clear hm hf hn hr0 hc0
  go_enter Try.func6, Try.ntmps6
  go_wp2_with (first | (go_at_call 11; refine (known_c _).mono ?_; rintro e w1 ⟨rfl, hb⟩; replace hb := Lib.hid hb) | (go_at_call 21; refine (few_c A len cap L F _ (HM.out.below hb.out) hs).mono ?_; rintro e w2 ⟨rfl, rfl⟩; rw [HF.out]) | (go_at_call 22; refine (unit2 n _ HN.out).mono ?_; rintro e w3 ⟨A1, c1, rfl, m1, b1⟩; replace hb := bel_trans hb b1) | (go_at_call 23; refine (runit2 n _).mono ?_; rintro e w4 ⟨A2, c2, rfl, m2, b2⟩; replace hb := bel_trans hb b2) | (go_at_call 25; refine (cauchy2 r c _ HR0.out HC0.out).mono ?_; rintro e w5 ⟨A3, c3, rfl, m3, b3⟩; replace hb := bel_trans hb b3) | (go_at_call 26; refine (rcauchy2 r c _ HR0.out HC0.out).mono ?_; rintro e w6 ⟨A4, c4, rfl, m4, b4⟩; replace hb := bel_trans hb b4) | (go_at_call 24; refine (same_true (m1.out.below b2.out) m2.out (unit_sz n)).mono ?_; rintro e w7 ⟨rfl, hd⟩; replace hb := bel_drew hb hd; clear m1 m2; obtain ⟨q, rfl⟩ := hd) | (go_at_call 24; refine (same_true (m3.out.below b4.out) m4.out (cau_sz r c)).mono ?_; rintro e w7 ⟨rfl, hd⟩; replace hb := bel_drew hb hd; obtain ⟨q2, rfl⟩ := hd) | (go_at_call 27; refine (gright_c A len cap L F _ (HM.out.below hb.out) (by omega) HL.out).mono ?_; rintro e w8 ⟨rfl, b8⟩; replace hb := bel_trans hb (Lib.hid b8); clear b8) | (go_at_call 28; refine (rright_c A len cap L F _ (HM.out.below hb.out) (by omega) HL.out).mono ?_; rintro e w9 ⟨rfl, hd⟩; replace hb := bel_drew hb hd; obtain ⟨q3, rfl⟩ := hd))
  go_ret
  exact ⟨rfl, hb.out⟩

theorem walk (a0 a1 a2 : Int) (a3 : Option Addr) (len3 cap3 : Nat) (w : World) (w0 : (Lit.int .i64 a0).wf = true) (w1 : (Lit.int .i64 a1).wf = true) (w2 : (Lit.int .i64 a2).wf = true) (y3 : len3 ≤ 1048576) (w3 : IsMat w a3 len3 cap3) :
    Calls Try.prog 6 #[.int .i64 a0, .int .i64 a1, .int .i64 a2, .slice a3 len3 cap3] w fun e w' => e = .returned (.bool true) ∧ Below w.heap.size w w' := by
  obtain ⟨L, F, h1, h2, h3⟩ := w3
  by_cases hf : fewB len3 L = true
  · exact walk0 a0 a1 a2 a3 len3 cap3 L F w h1 h2 hf (int_of w0).2 (int_of w1).1 (int_of w2).1
  · exact walk_few a0 a1 a2 a3 len3 cap3 L F w h1 h2 (by simpa using hf)

theorem contract (H : Type) (enc : TypeId × Value → H) (W : World) (base : Nat) (args : Array Value) (ds gs : List (DataW H)) (before : List MemPlace)
    (hval : ∀ (j : Nat) t v, Try.f6.params[j]? = some t → args[j]? = some v → Value.okWide Try.prog W .any base t v)
    (hW : DataW.Whole enc Try.prog Try.f6.params.toList Rows.gfMakesSpec.vars false W args.toList ds gs before) (hk : Rows.uptoSmall H (ds ++ gs) = true) :
    Calls Try.prog 6 args W fun e W' => ∃ v, e = .returned v ∧ Rows.gfMakesSpec.post enc Try.prog Try.f6 false true false false W args v W' := by
  have hW' := hW
  obtain ⟨p, q, hA0, hV, rfl, hfz, hnd⟩ := hW
  have hA : DataW.TrodAll enc Try.prog W 0 (fun _ => true) true Try.f6.params.toList args.toList ds p := hA0
  rw [Try.params6] at hA hval
  obtain ⟨v0, vs0, d0, ds0, p0, q0, hargs, rfl, rfl, h0, r0⟩ := trodAll_cons hA
  obtain ⟨v1, vs1, d1, ds1, p1, q1, rfl, rfl, rfl, h1, r1⟩ := trodAll_cons r0
  obtain ⟨v2, vs2, d2, ds2, p2, q2, rfl, rfl, rfl, h2, r2⟩ := trodAll_cons r1
  obtain ⟨v3, vs3, d3, ds3, p3, q3, rfl, rfl, rfl, h3, r3⟩ := trodAll_cons r2
  obtain ⟨rfl, rfl, rfl⟩ := trodAll_nil r3
  obtain rfl : args = #[v0, v1, v2, v3] := by cases args; simp_all
  obtain ⟨rfl, rfl⟩ := trodVars_none hV
  obtain ⟨a0, rfl, rfl, rfl, w0⟩ := open_int Try.underlying3 (hval 0 3 v0 rfl rfl) h0
  obtain ⟨a1, rfl, rfl, rfl, w1⟩ := open_int Try.underlying3 (hval 1 3 v1 rfl rfl) h1
  obtain ⟨a2, rfl, rfl, rfl, w2⟩ := open_int Try.underlying3 (hval 2 3 v2 rfl rfl) h2
  obtain ⟨a3, len3, cap3, rfl⟩ := okWide_slice Try.underlying38 (hval 3 38 v3 rfl rfl)
  have k3 := h3
  have lt3 : ∀ x ∈ p3, x.block < W.heap.size := by obtain ⟨m, hm⟩ := k3; exact DataW.trod_lt m _ _ _ hm
  obtain ⟨y3, w3⟩ := mat_up hk (by simp) h3
  clear hA0 hk
  refine (walk a0 a1 a2 a3 len3 cap3 W w0 w1 w2 y3 w3).mono fun e W' ⟨he, bel⟩ => ?_
  subst he
  exact ⟨_, rfl, _, _, _, [], _, [], hW', trodAll_mk1 (shut_bool Try.underlying4 _), (trodAll_cons_mk (shut_int Try.underlying3 w0) (trodAll_cons_mk (shut_int Try.underlying3 w1) (trodAll_cons_mk (shut_int Try.underlying3 w2) (trodAll_cons_mk (Below.trod laidOut (by kernel_rfl) (of_decide_eq_true (by kernel_rfl)) k3 bel lt3) trodAll_mk0)))), rfl, bel.frame _, fun h => by cases h⟩
set_option maxRecDepth 100000 in
theorem lifted (os : Os) (started : os.Started) (H : Type) (enc : TypeId × Value → H) (F : Stop.Interp) :
    ReturnsInHanded {} Try.checked os 6 .any ((Rows.OpenSpec.upto Rows.gfMakesSpec).pre6 enc Try.prog Try.f6 Rows.gfMakesUptoRow.domain false) (((Rows.OpenSpec.upto Rows.gfMakesSpec).at F).post enc Try.prog Try.f6 false true false false) := by
  refine returnsInHanded_of_cond (C := Try.checked) (s := Rows.OpenSpec.upto Rows.gfMakesSpec) (k := Rows.uptoSmall) rfl own started (by kernel_rfl) Try.func6
    (OpenSpec.witness (enc := enc) (C := Try.checked) (s := Rows.OpenSpec.upto Rows.gfMakesSpec) (k := Rows.uptoSmall) rfl false ⟨#[], #[.int .i64 0, .int .i64 0, .int .i64 0, .slice none 0 0], []⟩ 8 (by kernel_rfl) (by kernel_rfl) (by kernel_rfl)
      (x := ([.lit (.int .i64 0), .lit (.int .i64 0), .lit (.int .i64 0), .nil], [], [])) (by kernel_rfl) rfl (by kernel_rfl)) ?_
  intro W base args ds gs before hval hW _ hk _
  exact contract H enc W base args ds gs before hval hW hk
theorem over : Rows.gfMakesUptoRow.holds Try.pinned (Rows.OpenSpec.upto Rows.gfMakesSpec) :=
  OpenClaim.holds_of_cond 6 Try.f6 rfl rfl rfl rfl rfl rfl rfl ⟨rfl, rfl, rfl, rfl, rfl⟩ rfl rfl rfl rfl rfl (by kernel_rfl) Try.func6 (by kernel_rfl)
    (of_decide_eq_true (by kernel_rfl)) (by unfold Func.isWrapper; first | (rw [if_pos (by decide +kernel)]; kernel_rfl) | (rw [if_neg (by decide +kernel)]; exact ⟨rfl, rfl⟩))
    (fun os started H enc _ F => lifted os started H enc F)
theorem proved : Rows.GfMakesUptoSaid := over
#print axioms proved
end Go.Proofs.Ytldndaimgfegnaa.gfMakes
namespace Go.Proofs.Ytldndaimgfegnaa
/-- The row of the second form, under a short name, for the claim. -/
theorem gfMakes_upto : Rows.GfMakesUptoSaid := gfMakes.proved
end Go.Proofs.Ytldndaimgfegnaa
