/- GfSolves holds where what it reads is of bulk at most 1048576: an inverse undoes a matrix. -/
import Derived.Test.YtldndaimgfegnaaOpen
import Derived.Test.YtldndaimgfegnaaKnown
import Derived.Test.YtldndaimgfegnaaApply
import Derived.Test.YtldndaimgfegnaaLin
namespace Go.Proofs.Ytldndaimgfegnaa.gfSolves
open Go.ChangeShapes Go.WideShapes Go.ChangeAt Go.RowKit
open Go.ChangeMaps (open_string shut_string)
set_option linter.unusedVariables false
set_option linter.unusedSimpArgs false

/-- What the inverse makes of what the matrix makes of x is x. -/
theorem undone {n : Nat} {F : Mt} {s : Mt × Mt} (h : gjTo n F n = some s) (x : Nat → Gf.E) {i : Nat} (hi : i < n) : applyF s.2 (applyF F x n) n i = x i := by
  have hinv := (gj_inv h).2
  show sumE n (fun k => Gf.mul (s.2 i k) (sumE n (fun j => Gf.mul (F k j) (x j)))) = x i
  have e1 : sumE n (fun k => Gf.mul (s.2 i k) (sumE n (fun j => Gf.mul (F k j) (x j)))) = sumE n (fun k => sumE n (fun j => Gf.mul (Gf.mul (s.2 i k) (F k j)) (x j))) := by
    refine sumE_congr fun k _ => ?_
    rw [← sumE_mul]
    exact sumE_congr fun j _ => (Gf.mul_assoc _ _ _).symm
  rw [e1, sumE_swap]
  have e2 : sumE n (fun j => sumE n (fun k => Gf.mul (Gf.mul (s.2 i k) (F k j)) (x j))) = sumE n (fun j => Gf.mul (unitE i j) (x j)) := by
    refine sumE_congr fun j hj => ?_
    rw [← hinv i j hi hj]
    show _ = Gf.mul (sumE n (fun k => Gf.mul (s.2 i k) (F k j))) (x j)
    rw [Gf.mul_comm, ← sumE_mul]
    exact sumE_congr fun k _ => Gf.mul_comm _ _
  rw [e2]
  exact dot_unit hi x

set_option maxRecDepth 100000 in
set_option maxHeartbeats 4000000 in
theorem walk_few (A V : Option Addr) (len cap vn vc : Nat) (L : Nat → Nat) (F : Mt) (w : World) (hm : RdM w A len L F) (hs : len + sumL L len ≤ 1048576) (hf : fewB len L = false ∨ (fewB len L = true ∧ 20 < len)) :
    Calls Try.prog 9 #[.slice A len cap, .slice V vn vc] w fun e w' => e = .returned (.bool true) ∧ Below w.heap.size w w' := by
  have HM := Lib.hid hm
  rcases hf with hf | ⟨hf, h3⟩
  · have HF := Lib.hid hf
    clear hm hf
    go_enter Try.func9, Try.ntmps9
    go_wp2_with (first | (go_at_call 11; refine (known_c _).mono ?_; rintro e w1 ⟨rfl, hb⟩; replace hb := Lib.hid hb) | (go_at_call 21; refine (few_c A len cap L F _ (HM.out.below hb.out) hs).mono ?_; rintro e w2 ⟨rfl, rfl⟩; rw [HF.out]))
    go_ret
    exact ⟨rfl, hb.out⟩
  · have HF := Lib.hid hf
    have h3' : (20 : Int) < (len : Int) := by omega
    clear hm hf
    go_enter Try.func9, Try.ntmps9
    go_wp2_with (first | (go_at_call 11; refine (known_c _).mono ?_; rintro e w1 ⟨rfl, hb⟩; replace hb := Lib.hid hb) | (go_at_call 21; refine (few_c A len cap L F _ (HM.out.below hb.out) hs).mono ?_; rintro e w2 ⟨rfl, rfl⟩; rw [HF.out]))
    go_ret
    exact ⟨rfl, hb.out⟩

set_option maxRecDepth 100000 in
set_option maxHeartbeats 8000000 in
theorem walk_in (A V : Option Addr) (len cap vn vc : Nat) (L : Nat → Nat) (F : Mt) (x : Nat → Gf.E) (w : World) (hm : RdM w A len L F) (hV : RdB w V vn x) (hvn : vn ≤ 4611686018427387904) (hf : fewB len L = true) (h20 : len ≤ 20) :
    Calls Try.prog 9 #[.slice A len cap, .slice V vn vc] w fun e w' => e = .returned (.bool true) ∧ Below w.heap.size w w' := by
  have hfew := of_decide_eq_true hf
  have hs : len + sumL L len ≤ 1048576 := by omega
  have HL : Hid (∀ i, i < len → L i ≤ 4611686018427387904) := Lib.hid (fun i hi => by have := sumL_le L hi; omega)
  have HM := Lib.hid hm
  have HV := Lib.hid hV
  have HF := Lib.hid hf
  have h20' : (len : Int) ≤ 20 := by omega
  clear hm hV hf hfew
  go_enter Try.func9, Try.ntmps9
  go_wp2_with (first | (go_at_call 11; refine (known_c _).mono ?_; rintro e w1 ⟨rfl, hb⟩; replace hb := Lib.hid hb) | (go_at_call 21; refine (few_c A len cap L F _ (HM.out.below hb.out) hs).mono ?_; rintro e w2 ⟨rfl, rfl⟩; rw [HF.out]))
  refine (inverse_c A len cap L F w1 (HM.out.below hb.out) (by omega) HL.out).mono ?_
  rintro e w2 ⟨v, ⟨hok, A', O', hgj, rfl, g, c, bs, rfl, hgc, hN⟩ | ⟨hok, hgj, rfl, hb2⟩ | ⟨hok, rfl, hb2⟩⟩
  · replace hN := Lib.hid (show OwnMat w1 w2 g len len bs O' from hN)
    have hb2 := Lib.hid hN.out.2.2.2.2
    unfold invOk at hok
    rw [Bool.and_eq_true] at hok
    obtain ⟨hr1, hr2⟩ := hok
    have hr2 := of_decide_eq_true hr2
    obtain ⟨p1, p2, p3, p4, p5⟩ := rightB_pos hr1
    have HR1 := Lib.hid hr1
    have HR2 := Lib.hid hr2
    have HG := Lib.hid hgj
    have HB1 := Lib.hid (below_then hb.out hb.out.size hb2.out)
    clear hr1 hr2 hgj p5
    by_cases hv : vn = len
    · subst hv
      have e0 : ((vn : Int) != (vn : Int)) = false := by rw [bne_eq_false_iff_eq]
      go_wp2_with (fail)
      refine (apply_yes A V vn cap vn vc L F x w2 ((HM.out.below hb.out).below hb2.out) (RdF.below (RdF.below HV.out hb.out) hb2.out) (by omega) HL.out HR1.out HR2.out).mono ?_
      rintro e w3 ⟨b3, c3, rfl, hc3, h3, hb3⟩
      replace h3 := Lib.hid h3
      replace hb3 := Lib.hid hb3
      go_wp2_with (fail)
      refine (apply_yes (some ⟨g, 0, none⟩) (some ⟨b3, 0, none⟩) vn c vn c3 (fun _ => vn) O' (applyF F x vn) w3 (hN.out.1.rd.below hb3.out) h3.out.rd (by omega) (fun _ _ => by omega) (decide_eq_true ⟨p1, p2, p1, p2, fun _ _ => rfl⟩) rfl).mono ?_
      rintro e w4 ⟨b4, c4, rfl, hc4, h4, hb4⟩
      replace h4 := Lib.hid h4
      replace hb4 := Lib.hid hb4
      have HX := Lib.hid (show RdB w4 (some ⟨b4, 0, none⟩) vn x from (h4.out.congr (fun i hi => by rw [undone HG.out x hi])).rd)
      have HV4 := Lib.hid (RdF.below (RdF.below (RdF.below (RdF.below HV.out hb.out) hb2.out) hb3.out) hb4.out)
      have hcv : (convert 56 9 (.slice (some ⟨b4, 0, none⟩) vn c4)).run Try.prog w4 = .ok (.string (strE vn x)) w4 := run_conv_bytes Try.underlying56 Try.underlying5 Try.underlying9 HX.out
      have hcv2 : (convert 56 9 (.slice V vn vc)).run Try.prog w4 = .ok (.string (strE vn x)) w4 := run_conv_bytes Try.underlying56 Try.underlying5 Try.underlying9 HV4.out
      have b3 := below_then HB1.out HB1.out.size hb3.out
      have HB4 := Lib.hid (below_then b3 b3.size hb4.out)
      clear b3
      go_wp2_with (fail)
      go_ret
      exact ⟨rfl, HB4.out⟩
    · have e0 : ((vn : Int) != (len : Int)) = true := by rw [bne_iff_ne]; omega
      have HNE := Lib.hid hv
      clear hv
      go_wp2_with (fail)
      go_ret
      exact ⟨rfl, HB1.out⟩
  · have HB1 := Lib.hid (below_then hb.out hb.out.size hb2)
    clear hb2 hgj hok
    go_wp2_with (fail)
    go_ret
    exact ⟨rfl, HB1.out⟩
  · have HB1 := Lib.hid (below_then hb.out hb.out.size hb2)
    clear hb2 hok
    go_wp2_with (fail)
    go_ret
    exact ⟨rfl, HB1.out⟩

theorem walk (a0 : Option Addr) (len0 cap0 : Nat) (a1 : Option Addr) (len1 cap1 : Nat) (w : World) (y0 : len0 ≤ 1048576) (w0 : IsMat w a0 len0 cap0) (y1 : len1 ≤ 1048576) (w1 : IsBytes w a1 len1 cap1) :
    Calls Try.prog 9 #[.slice a0 len0 cap0, .slice a1 len1 cap1] w fun e w' => e = .returned (.bool true) ∧ Below w.heap.size w w' := by
  obtain ⟨L, F, h1, h2, h3⟩ := w0
  obtain ⟨x, h4, h5⟩ := w1
  by_cases hf : fewB len0 L = true
  · by_cases h7 : len0 ≤ 20
    · exact walk_in a0 a1 len0 cap0 len1 cap1 L F x w h1 h4 (by omega) hf h7
    · exact walk_few a0 a1 len0 cap0 len1 cap1 L F w h1 h2 (.inr ⟨hf, by omega⟩)
  · exact walk_few a0 a1 len0 cap0 len1 cap1 L F w h1 h2 (.inl (by simpa using hf))

theorem contract (H : Type) (enc : TypeId × Value → H) (W : World) (base : Nat) (args : Array Value) (ds gs : List (DataW H)) (before : List MemPlace)
    (hval : ∀ (j : Nat) t v, Try.f9.params[j]? = some t → args[j]? = some v → Value.okWide Try.prog W .any base t v)
    (hW : DataW.Whole enc Try.prog Try.f9.params.toList Rows.gfSolvesSpec.vars false W args.toList ds gs before) (hk : Rows.uptoSmall H (ds ++ gs) = true) :
    Calls Try.prog 9 args W fun e W' => ∃ v, e = .returned v ∧ Rows.gfSolvesSpec.post enc Try.prog Try.f9 false true false false W args v W' := by
  have hW' := hW
  obtain ⟨p, q, hA0, hV, rfl, hfz, hnd⟩ := hW
  have hA : DataW.TrodAll enc Try.prog W 0 (fun _ => true) true Try.f9.params.toList args.toList ds p := hA0
  rw [Try.params9] at hA hval
  obtain ⟨v0, vs0, d0, ds0, p0, q0, hargs, rfl, rfl, h0, r0⟩ := trodAll_cons hA
  obtain ⟨v1, vs1, d1, ds1, p1, q1, rfl, rfl, rfl, h1, r1⟩ := trodAll_cons r0
  obtain ⟨rfl, rfl, rfl⟩ := trodAll_nil r1
  obtain rfl : args = #[v0, v1] := by cases args; simp_all
  obtain ⟨rfl, rfl⟩ := trodVars_none hV
  obtain ⟨a0, len0, cap0, rfl⟩ := okWide_slice Try.underlying38 (hval 0 38 v0 rfl rfl)
  have k0 := h0
  have lt0 : ∀ x ∈ p0, x.block < W.heap.size := by obtain ⟨m, hm⟩ := k0; exact DataW.trod_lt m _ _ _ hm
  obtain ⟨y0, w0⟩ := mat_up hk (by simp) h0
  obtain ⟨a1, len1, cap1, rfl⟩ := okWide_slice Try.underlying56 (hval 1 56 v1 rfl rfl)
  have k1 := h1
  have lt1 : ∀ x ∈ p1, x.block < W.heap.size := by obtain ⟨m, hm⟩ := k1; exact DataW.trod_lt m _ _ _ hm
  obtain ⟨y1, w1⟩ := bytes_up hk (by simp) h1
  clear hA0 hk
  refine (walk a0 len0 cap0 a1 len1 cap1 W y0 w0 y1 w1).mono fun e W' ⟨he, bel⟩ => ?_
  subst he
  exact ⟨_, rfl, _, _, _, [], _, [], hW', trodAll_mk1 (shut_bool Try.underlying4 _), (trodAll_cons_mk (Below.trod laidOut (by kernel_rfl) (of_decide_eq_true (by kernel_rfl)) k0 bel lt0) (trodAll_cons_mk (Below.trod laidOut (by kernel_rfl) (of_decide_eq_true (by kernel_rfl)) k1 bel lt1) trodAll_mk0)), rfl, bel.frame _, fun h => by cases h⟩
set_option maxRecDepth 100000 in
theorem lifted (os : Os) (started : os.Started) (H : Type) (enc : TypeId × Value → H) (F : Stop.Interp) :
    ReturnsInHanded {} Try.checked os 9 .any ((Rows.OpenSpec.upto Rows.gfSolvesSpec).pre6 enc Try.prog Try.f9 Rows.gfSolvesUptoRow.domain false) (((Rows.OpenSpec.upto Rows.gfSolvesSpec).at F).post enc Try.prog Try.f9 false true false false) := by
  refine returnsInHanded_of_cond (C := Try.checked) (s := Rows.OpenSpec.upto Rows.gfSolvesSpec) (k := Rows.uptoSmall) rfl own started (by kernel_rfl) Try.func9
    (OpenSpec.witness (enc := enc) (C := Try.checked) (s := Rows.OpenSpec.upto Rows.gfSolvesSpec) (k := Rows.uptoSmall) rfl false ⟨#[], #[.slice none 0 0, .slice none 0 0], []⟩ 8 (by kernel_rfl) (by kernel_rfl) (by kernel_rfl)
      (x := ([.nil, .nil], [], [])) (by kernel_rfl) rfl (by kernel_rfl)) ?_
  intro W base args ds gs before hval hW _ hk _
  exact contract H enc W base args ds gs before hval hW hk
theorem over : Rows.gfSolvesUptoRow.holds Try.pinned (Rows.OpenSpec.upto Rows.gfSolvesSpec) :=
  OpenClaim.holds_of_cond 9 Try.f9 rfl rfl rfl rfl rfl rfl rfl ⟨rfl, rfl, rfl, rfl, rfl⟩ rfl rfl rfl rfl rfl (by kernel_rfl) Try.func9 (by kernel_rfl)
    (of_decide_eq_true (by kernel_rfl)) (by unfold Func.isWrapper; first | (rw [if_pos (by decide +kernel)]; kernel_rfl) | (rw [if_neg (by decide +kernel)]; exact ⟨rfl, rfl⟩))
    (fun os started H enc _ F => lifted os started H enc F)
theorem proved : Rows.GfSolvesUptoSaid := over
#print axioms proved
end Go.Proofs.Ytldndaimgfegnaa.gfSolves
namespace Go.Proofs.Ytldndaimgfegnaa
/-- The row of the second form, under a short name, for the claim. -/
theorem gfSolves_upto : Rows.GfSolvesUptoSaid := gfSolves.proved
end Go.Proofs.Ytldndaimgfegnaa
