/- RsCodes holds: all that a code tells is the document's. -/
import Derived.Test.YtccfnhocjiehnaaOpen
import Derived.Test.YtccfnhocjiehnaaRsKnown
import Derived.Test.YtccfnhocjiehnaaRsTold
import Derived.Test.YtccfnhocjiehnaaDocRep
namespace Go.Proofs.Ytccfnhocjiehnaa.rsCodes
open Go.ChangeShapes Go.WideShapes Go.ChangeAt Go.RowKit
open Go.ChangeMaps (open_string shut_string)
set_option linter.unusedVariables false
set_option linter.unusedSimpArgs false

set_option maxRecDepth 100000 in
set_option maxHeartbeats 4000000 in
theorem walk_no (k m : Int) (A : Option Addr) (n ac : Nat) (z : Int) (A4 : Option Addr) (s c : Nat) (w : World) (hk : -9223372036854775808 ≤ k ∧ k ≤ 9223372036854775807) (hm : -9223372036854775808 ≤ m ∧ m ≤ 9223372036854775807) (h : newOk k m = false) :
    Calls Try.prog 6 #[.int .i64 k, .int .i64 m, .slice A n ac, .int .i64 z, .slice A4 s c] w fun e w' => e = .returned (.bool true) ∧ Below w.heap.size w w' := by
  have hnot : ∀ (x : Bool) (w : World), (Op.unary .not (.bool x)).run Try.prog w = .ok (.bool (!x)) w := fun _ _ => rfl
  have hn1 : ∀ (W : World), (binOp .eql 24 (.pointer none) (.pointer none)).run Try.prog W = .ok (.bool true) W := fun _ => by simp [go_sem]
  have hn2 : ∀ (W : World), (binOp .eql 42 (.pointer none) (.pointer none)).run Try.prog W = .ok (.bool true) W := fun _ => by simp [go_sem]
  have HN := Lib.hid (fun W => new_no k m W h hk.1 hm.1)
  have HD := Lib.hid (fun W => docnew_no k m W h hk.1 hm.1 hm.2)
  clear h hk hm
  go_enter Try.func6, Try.ntmps6
  go_wp2_with (first | (go_at_call 7; refine (rsknown_c _).mono ?_; rintro e w1 ⟨rfl, hb⟩; replace hb := Lib.hid hb) | (go_at_call 8; refine (HN.out _).mono ?_; rintro e w2 ⟨rfl, rfl⟩) | (go_at_call 15; refine (HD.out _).mono ?_; rintro e w3 ⟨rfl, rfl⟩))
  go_ret
  exact ⟨rfl, hb.out⟩

set_option maxRecDepth 100000 in
set_option maxHeartbeats 16000000 in
theorem walk_yes (k m : Nat) (A : Option Addr) (n ac : Nat) (d : Nat → Gf.E) (z : Int) (A4 : Option Addr) (s c : Nat) (L : Nat → Nat) (G : Nat → Nat → Gf.E) (w : World) (hk : 1 ≤ k) (hkm : k + m ≤ 255) (hn : n ≤ 4611686018427387904) (hd : RdB w A n d) (hz : -9223372036854775808 ≤ z ∧ z ≤ 9223372036854775807) (ha : RdM w A4 s L G) (hs : s ≤ 1048576) (hl : ∀ i, i < s → L i ≤ 1048576) (hsc : s ≤ c) :
    Calls Try.prog 6 #[.int .i64 k, .int .i64 m, .slice A n ac, .int .i64 z, .slice A4 s c] w fun e w' => e = .returned (.bool true) ∧ Below w.heap.size w w' := by
  have hnot : ∀ (x : Bool) (w : World), (Op.unary .not (.bool x)).run Try.prog w = .ok (.bool (!x)) w := fun _ _ => rfl
  have hn1 : ∀ (g : Nat) (W : World), (binOp .eql 24 (.pointer (some ⟨g, 0, none⟩)) (.pointer none)).run Try.prog W = .ok (.bool false) W := fun _ _ => by simp [go_sem]
  have hn2 : ∀ (g : Nat) (W : World), (binOp .eql 42 (.pointer (some ⟨g, 0, none⟩)) (.pointer none)).run Try.prog W = .ok (.bool false) W := fun _ _ => by simp [go_sem]
  have k2' : k ≤ 255 := by omega
  have k1 : (1 : Int) ≤ (k : Int) := by omega
  have k2 : (k : Int) ≤ 255 := by omega
  have m1 : (0 : Int) ≤ (m : Int) := by omega
  have m2 : (m : Int) ≤ 255 := by omega
  have HD := Lib.hid hd
  have HA := Lib.hid ha
  have HL := Lib.hid hl
  have HFEW := Lib.hid (fun W (hb : Below w.heap.size w W) => few_c A4 s c L G W (ha.below hb) (by omega) (fun i hi => by have := hl i hi; omega))
  have HZ := Lib.hid hz
  clear hd ha hl hz
  go_enter Try.func6, Try.ntmps6
  go_wp2_with (first | (go_at_call 7; refine (rsknown_c _).mono ?_; rintro e w1 ⟨rfl, hb⟩; replace hb := Lib.hid hb) | (go_at_call 8; refine (new_yes k m _ hk hkm).mono ?_; rintro e w2 ⟨cb, rfl, hC, hcb, hb2⟩; replace hC := Lib.hid hC; replace hb2 := Lib.hid (below_then hb.out hb.out.size hb2)))
  refine (docnew_yes k m w2 hk hkm).mono ?_
  rintro e w3 ⟨rb, rfl, hR, hb3⟩
  have HC := Lib.hid (hC.out.below hb3)
  have HR := Lib.hid hR
  have HB := Lib.hid (below_then hb2.out hb2.out.size hb3)
  clear hR hb3
  by_cases a1 : 20 < k + m
  · have d1 : (20 : Int) < (k : Int) + (m : Int) := by omega
    go_wp2_with (fail)
    go_ret
    exact ⟨rfl, HB.out⟩
  · have d1 : (k : Int) + (m : Int) ≤ 20 := by omega
    clear a1
    by_cases a2 : 2000 < n
    · have d2 : (2000 : Int) < (n : Int) := by omega
      clear a2
      go_wp2_with (fail)
      go_ret
      exact ⟨rfl, HB.out⟩
    · have d2 : (n : Int) ≤ 2000 := by omega
      have n2 : n ≤ 2000 := by omega
      clear a2
      have HFW := Lib.hid (HFEW.out w3 HB.out)
      go_wp2_with (fail)
      refine HFW.out.mono ?_
      rintro e w4 ⟨rfl, rfl⟩
      by_cases a3 : rsFewB s L = false
      · rw [a3]
        go_wp2_with (fail)
        go_ret
        exact ⟨rfl, HB.out⟩
      · have a3' : rsFewB s L = true := by simpa using a3
        rw [a3']
        clear a3 a3' HFEW HFW
        go_wp2_with (fail)
        have HK3 := Lib.hid (show k ≤ s ∨ True from .inr trivial)
        have HNU := Lib.hid (numbers_c cb k m w3 HC.out hkm)
        refine HNU.out.mono ?_
        rintro e w4 ⟨rfl, hd4⟩
        have HB4 := Lib.hid (below_then HB.out HB.out.size hd4.below)
        have HC4 := Lib.hid (HC.out.below hd4.below)
        have HR4 := Lib.hid (HR.out.below hd4.below)
        clear hd4 HNU
        go_wp2_with (fail)
        refine (split_c cb k m A n ac d w4 HC4.out hk hkm (RdF.below HD.out HB4.out) (by omega)).mono ?_
        rintro e w5 ⟨v5, As5, cs5, x5, rfl, hb5, hC5⟩
        obtain ⟨A5, c5, rfl, _, hr5⟩ := hC5.rd
        have HX5 := Lib.hid (below_then hb5 hb5.size hC5.below)
        have HR5 := Lib.hid hr5
        clear hb5 hC5 hr5
        go_wp2_with (fail)
        refine (docsplit_c rb k m A n ac d w5 (HR4.out.below HX5.out) hk k2' (RdF.below (RdF.below HD.out HB4.out) HX5.out) (by omega)).mono ?_
        rintro e w6 ⟨v6, As6, cs6, x6, rfl, hb6, hC6⟩
        obtain ⟨A6, c6, rfl, _, hr6⟩ := hC6.rd
        have HX6 := Lib.hid (below_then hb6 hb6.size hC6.below)
        have HR6 := Lib.hid hr6
        clear hb6 hC6 hr6
        go_wp2_with (fail)
        have HS6 := same_c A5 A6 k k c5 c6 _ _ _ _ w6 (HR5.out.below HX6.out) HR6.out (by omega) (by omega)
        rw [sameB_true ⟨rfl, fun _ _ => ⟨rfl, fun _ _ => rfl⟩⟩] at HS6
        refine HS6.mono ?_
        rintro e w7 ⟨rfl, hd7⟩
        have HB7 := Lib.hid (below_then HB4.out HB4.out.size (below_then HX5.out HX5.out.size (below_then HX6.out HX6.out.size hd7.below)))
        have HX7 := Lib.hid (below_then HX5.out HX5.out.size (below_then HX6.out HX6.out.size hd7.below))
        clear HS6 hd7 HR5 HR6
        go_wp2_with (fail)
        refine (encode_c cb k m A n ac d w7 (HC4.out.below HX7.out) hk hkm (RdF.below (RdF.below HD.out HB4.out) HX7.out) (by omega)).mono ?_
        rintro e w8 ⟨v8, rfl, hN8⟩
        obtain ⟨A8, c8, rfl, hr8, hb8⟩ := hN8.told
        have HR8 := Lib.hid hr8
        have HX8 := Lib.hid (below_then HX7.out HX7.out.size hb8)
        clear hN8 hr8 hb8
        go_wp2_with (fail)
        refine (docencode_c rb k m A n ac d w8 (HR4.out.below HX8.out) hk hkm (RdF.below (RdF.below HD.out HB4.out) HX8.out) (by omega)).mono ?_
        rintro e w9 ⟨v9, rfl, hN9⟩
        obtain ⟨A9, c9, rfl, hr9, hb9⟩ := hN9.told
        have HR9 := Lib.hid hr9
        have HY9 := Lib.hid hb9
        have HX9 := Lib.hid (below_then HX8.out HX8.out.size hb9)
        clear hN9 hr9 hb9
        go_wp2_with (fail)
        have HS9 := same_c A8 A9 (k + m) (k + m) c8 c9 _ _ _ _ w9 (HR8.out.below HY9.out) HR9.out (by omega) (by omega)
        rw [sameB_true ⟨rfl, fun _ _ => ⟨rfl, fun _ _ => rfl⟩⟩] at HS9
        refine HS9.mono ?_
        rintro e w10 ⟨rfl, hd10⟩
        have HX10 := Lib.hid (below_then HX9.out HX9.out.size hd10.below)
        clear HS9 hd10 HR8 HR9 HY9
        go_wp2_with (fail)
        refine (rsparity_t cb k m s A4 c L G w10 (HC4.out.below HX10.out) hk hkm ((HA.out.below HB4.out).below HX10.out) hs HL.out).mono ?_
        rintro e w11 ⟨A11, c11, rfl, hr11, hb11⟩
        have HX11 := Lib.hid (below_then HX10.out HX10.out.size hb11.out)
        go_wp2_with (fail)
        refine (docparity_t rb k m s A4 c L G w11 (HR4.out.below HX11.out) hk hkm ((HA.out.below HB4.out).below HX11.out) hs HL.out).mono ?_
        rintro e w12 ⟨A12, c12, rfl, hr12, hb12⟩
        have HX12 := Lib.hid (below_then HX11.out HX11.out.size hb12.out)
        have hpn : parN s k m L ≤ 255 := by unfold parN; split <;> omega
        go_wp2_with (fail)
        have HS12 := same_c A11 A12 (parN s k m L) (parN s k m L) c11 c12 _ _ _ _ w12 (hr11.out.below hb12.out) hr12.out (by omega) (by omega)
        rw [sameB_true ⟨rfl, fun _ _ => ⟨rfl, fun _ _ => rfl⟩⟩] at HS12
        refine HS12.mono ?_
        rintro e w13 ⟨rfl, hd13⟩
        have HX13 := Lib.hid (below_then HX12.out HX12.out.size hd13.below)
        clear HS12 hd13 hr11 hr12 hb11 hb12
        go_wp2_with (fail)
        refine (rsdec_t cb k m s A4 c z L G w13 (HC4.out.below HX13.out) hk hkm ((HA.out.below HB4.out).below HX13.out) hs HL.out hsc HZ.out).mono ?_
        rintro e w14 ⟨A14, c14, f14, rfl, hr14, hb14, hg14⟩
        have HX14 := Lib.hid (below_then HX13.out HX13.out.size hb14.out)
        go_wp2_with (fail)
        refine (docdec_t rb k m s A4 c z L G w14 (HR4.out.below HX14.out) hk hkm ((HA.out.below HB4.out).below HX14.out) hs HL.out HZ.out).mono ?_
        rintro e w15 ⟨A15, c15, f15, rfl, hr15, hb15, hg15⟩
        have HX15 := Lib.hid (below_then HX14.out HX14.out.size hb15.out)
        have hcv1 : (convert 22 9 (.slice A14 (decN s k m L z) c14)).run Try.prog w15 = .ok (.string (strE (decN s k m L z) f14)) w15 := run_conv_bytes Try.underlying22 Try.underlying5 Try.underlying9 (RdF.below hr14.out hb15.out)
        have hcv2 : (convert 22 9 (.slice A15 (decN s k m L z) c15)).run Try.prog w15 = .ok (.string (strE (decN s k m L z) f14)) w15 := by
          rw [strE_congr (g := f15) (fun t ht => by
            by_cases hks : k ≤ s
            · exact dec_agree hks hg14.out hg15.out t ht
            · exfalso
              unfold decN at ht
              rw [if_neg (fun h => hks (by have := (of_decide_eq_true h.1).1; omega))] at ht
              omega)]
          exact run_conv_bytes Try.underlying22 Try.underlying5 Try.underlying9 hr15.out
        clear hr14 hb14 hg14 hr15 hb15 hg15
        go_wp2_with (fail)
        clear hcv1 hcv2
        refine (rsrep_t cb k m s A4 c L G w15 (HC4.out.below HX15.out) hk hkm ((HA.out.below HB4.out).below HX15.out) hs HL.out hsc).mono ?_
        rintro e w16 ⟨A16, c16, F16, rfl, hr16, hb16, hg16⟩
        have HX16 := Lib.hid (below_then HX15.out HX15.out.size hb16.out)
        go_wp2_with (fail)
        refine (docrep_t rb k m s A4 c L G w16 (HR4.out.below HX16.out) hk hkm ((HA.out.below HB4.out).below HX16.out) hs HL.out).mono ?_
        rintro e w17 ⟨A17, c17, F17, rfl, hr17, hb17, hg17⟩
        have HX17 := Lib.hid (below_then HX16.out HX16.out.size hb17.out)
        have hrn : repN s k m L ≤ 1048576 := by unfold repN; split <;> (try split) <;> omega
        go_wp2_with (fail)
        have HS17 := same_c A16 A17 (repN s k m L) (repN s k m L) c16 c17 _ _ _ _ w17 (hr16.out.below hb17.out) hr17.out (by omega) (by omega)
        rw [show sameB (repN s k m L) (repN s k m L) (fun _ => maxL L s) (fun _ => maxL L s) F16 F17 = true from by
          by_cases hks : k ≤ s
          · exact rep_agree hks hg16.out hg17.out
          · have e0 : repN s k m L = 0 := by
              unfold repN
              rw [if_neg (fun h => hks (by have := (of_decide_eq_true h).1; omega))]
            rw [e0]
            exact sameB_true ⟨rfl, fun i hi => absurd hi (Nat.not_lt_zero _)⟩] at HS17
        refine HS17.mono ?_
        rintro e w18 ⟨rfl, hd18⟩
        have HX18 := Lib.hid (below_then HX17.out HX17.out.size hd18.below)
        clear HS17 hd18 hr16 hb16 hg16 hr17 hb17 hg17
        go_wp2_with (fail)
        refine (rschk_t cb k m s A4 c L G w18 (HC4.out.below HX18.out) hk hkm ((HA.out.below HB4.out).below HX18.out) hs HL.out hsc).mono ?_
        rintro e w19 ⟨rfl, hb19⟩
        have HX19 := Lib.hid (below_then HX18.out HX18.out.size hb19.out)
        go_wp2_with (fail)
        refine (docchk_t rb k m s A4 c L G w19 (HR4.out.below HX19.out) hk hkm ((HA.out.below HB4.out).below HX19.out) hs HL.out hsc).mono ?_
        rintro e w20 ⟨rfl, hb20⟩
        have HX20 := Lib.hid (below_then HX19.out HX19.out.size hb20.out)
        go_wp2_with (fail)
        go_ret
        exact ⟨by simp, below_then HB4.out HB4.out.size HX20.out⟩

theorem walk (a0 a1 : Int) (a2 : Option Addr) (len2 cap2 : Nat) (a3 : Int) (a4 : Option Addr) (len4 cap4 : Nat) (w : World) (w0 : (Lit.int .i64 a0).wf = true) (w1 : (Lit.int .i64 a1).wf = true) (y2 : len2 ≤ 1048576) (w2 : IsBytes w a2 len2 cap2) (w3 : (Lit.int .i64 a3).wf = true) (y4 : len4 ≤ 1048576) (w4 : IsMat w a4 len4 cap4) :
    Calls Try.prog 6 #[.int .i64 a0, .int .i64 a1, .slice a2 len2 cap2, .int .i64 a3, .slice a4 len4 cap4] w fun e w' => e = .returned (.bool true) ∧ Below w.heap.size w w' := by
  obtain ⟨f2, h2, c2⟩ := w2
  obtain ⟨L, F, h4, c4, d4⟩ := w4
  by_cases h : newOk a0 a1 = true
  · obtain ⟨g1, g2, g3⟩ := of_decide_eq_true h
    obtain ⟨k, rfl⟩ := Int.eq_ofNat_of_zero_le (show 0 ≤ a0 by omega)
    obtain ⟨m, rfl⟩ := Int.eq_ofNat_of_zero_le g2
    exact walk_yes k m a2 len2 cap2 f2 a3 a4 len4 cap4 L F w (by omega) (by omega) (by omega) h2 (int_of w3) h4 y4 (fun i hi => by have := sumL_part' (L := L) hi; omega) d4
  · exact walk_no a0 a1 a2 len2 cap2 a3 a4 len4 cap4 w (int_of w0) (int_of w1) (by simpa using h)

theorem contract (H : Type) (enc : TypeId × Value → H) (W : World) (base : Nat) (args : Array Value) (ds gs : List (DataW H)) (before : List MemPlace)
    (hval : ∀ (j : Nat) t v, Try.f6.params[j]? = some t → args[j]? = some v → Value.okWide Try.prog W .any base t v)
    (hW : DataW.Whole enc Try.prog Try.f6.params.toList Rows.rsCodesSpec.vars false W args.toList ds gs before) (hk : Rows.uptoSmall H (ds ++ gs) = true) :
    Calls Try.prog 6 args W fun e W' => ∃ v, e = .returned v ∧ Rows.rsCodesSpec.post enc Try.prog Try.f6 false true false false W args v W' := by
  have hW' := hW
  obtain ⟨p, q, hA0, hV, rfl, hfz, hnd⟩ := hW
  have hA : DataW.TrodAll enc Try.prog W 0 (fun _ => true) true Try.f6.params.toList args.toList ds p := hA0
  rw [Try.params6] at hA hval
  obtain ⟨v0, vs0, d0, ds0, p0, q0, hargs, rfl, rfl, h0, r0⟩ := trodAll_cons hA
  obtain ⟨v1, vs1, d1, ds1, p1, q1, rfl, rfl, rfl, h1, r1⟩ := trodAll_cons r0
  obtain ⟨v2, vs2, d2, ds2, p2, q2, rfl, rfl, rfl, h2, r2⟩ := trodAll_cons r1
  obtain ⟨v3, vs3, d3, ds3, p3, q3, rfl, rfl, rfl, h3, r3⟩ := trodAll_cons r2
  obtain ⟨v4, vs4, d4, ds4, p4, q4, rfl, rfl, rfl, h4, r4⟩ := trodAll_cons r3
  obtain ⟨rfl, rfl, rfl⟩ := trodAll_nil r4
  obtain rfl : args = #[v0, v1, v2, v3, v4] := by cases args; simp_all
  obtain ⟨rfl, rfl⟩ := trodVars_none hV
  obtain ⟨a0, rfl, rfl, rfl, w0⟩ := open_int Try.underlying3 (hval 0 3 v0 rfl rfl) h0
  obtain ⟨a1, rfl, rfl, rfl, w1⟩ := open_int Try.underlying3 (hval 1 3 v1 rfl rfl) h1
  obtain ⟨a2, len2, cap2, rfl⟩ := okWide_slice Try.underlying22 (hval 2 22 v2 rfl rfl)
  have k2 := h2
  have lt2 : ∀ x ∈ p2, x.block < W.heap.size := by obtain ⟨m, hm⟩ := k2; exact DataW.trod_lt m _ _ _ hm
  obtain ⟨y2, w2⟩ := bytes_up hk (by simp) h2
  obtain ⟨a3, rfl, rfl, rfl, w3⟩ := open_int Try.underlying3 (hval 3 3 v3 rfl rfl) h3
  obtain ⟨a4, len4, cap4, rfl⟩ := okWide_slice Try.underlying28 (hval 4 28 v4 rfl rfl)
  have k4 := h4
  have lt4 : ∀ x ∈ p4, x.block < W.heap.size := by obtain ⟨m, hm⟩ := k4; exact DataW.trod_lt m _ _ _ hm
  obtain ⟨y4, w4⟩ := mat_up hk (by simp) h4
  clear hA0 hk
  refine (walk a0 a1 a2 len2 cap2 a3 a4 len4 cap4 W w0 w1 y2 w2 w3 y4 w4).mono fun e W' ⟨he, bel⟩ => ?_
  subst he
  exact ⟨_, rfl, _, _, _, [], _, [], hW', trodAll_mk1 (shut_bool Try.underlying4 _), (trodAll_cons_mk (shut_int Try.underlying3 w0) (trodAll_cons_mk (shut_int Try.underlying3 w1) (trodAll_cons_mk (Below.trod laidOut (by kernel_rfl) (of_decide_eq_true (by kernel_rfl)) k2 bel lt2) (trodAll_cons_mk (shut_int Try.underlying3 w3) (trodAll_cons_mk (Below.trod laidOut (by kernel_rfl) (of_decide_eq_true (by kernel_rfl)) k4 bel lt4) trodAll_mk0))))), rfl, bel.frame _, fun h => by cases h⟩
set_option maxRecDepth 100000 in
theorem lifted (os : Os) (started : os.Started) (H : Type) (enc : TypeId × Value → H) (F : Stop.Interp) :
    ReturnsInHanded {} Try.checked os 6 .any ((Rows.OpenSpec.upto Rows.rsCodesSpec).pre6 enc Try.prog Try.f6 Rows.rsCodesUptoRow.domain false) (((Rows.OpenSpec.upto Rows.rsCodesSpec).at F).post enc Try.prog Try.f6 false true false false) := by
  refine returnsInHanded_of_cond (C := Try.checked) (s := Rows.OpenSpec.upto Rows.rsCodesSpec) (k := Rows.uptoSmall) rfl own started (by kernel_rfl) Try.func6
    (OpenSpec.witness (enc := enc) (C := Try.checked) (s := Rows.OpenSpec.upto Rows.rsCodesSpec) (k := Rows.uptoSmall) rfl false ⟨#[], #[.int .i64 0, .int .i64 0, .slice none 0 0, .int .i64 0, .slice none 0 0], []⟩ 8 (by kernel_rfl) (by kernel_rfl) (by kernel_rfl)
      (x := ([.lit (.int .i64 0), .lit (.int .i64 0), .nil, .lit (.int .i64 0), .nil], [], [])) (by kernel_rfl) rfl (by kernel_rfl)) ?_
  intro W base args ds gs before hval hW _ hk _
  exact contract H enc W base args ds gs before hval hW hk
theorem over : Rows.rsCodesUptoRow.holds Try.pinned (Rows.OpenSpec.upto Rows.rsCodesSpec) :=
  OpenClaim.holds_of_cond 6 Try.f6 rfl rfl rfl rfl rfl rfl rfl ⟨rfl, rfl, rfl, rfl, rfl⟩ rfl rfl rfl rfl rfl (by kernel_rfl) Try.func6 (by kernel_rfl)
    (of_decide_eq_true (by kernel_rfl)) (by unfold Func.isWrapper; first | (rw [if_pos (by decide +kernel)]; kernel_rfl) | (rw [if_neg (by decide +kernel)]; exact ⟨rfl, rfl⟩))
    (fun os started H enc _ F => lifted os started H enc F)
theorem proved : Rows.RsCodesUptoSaid := over
#print axioms proved
end Go.Proofs.Ytccfnhocjiehnaa.rsCodes
namespace Go.Proofs.Ytccfnhocjiehnaa
/-- The row of the second form, under a short name, for the claim. -/
theorem rsCodes_upto : Rows.RsCodesUptoSaid := rsCodes.proved
end Go.Proofs.Ytccfnhocjiehnaa
