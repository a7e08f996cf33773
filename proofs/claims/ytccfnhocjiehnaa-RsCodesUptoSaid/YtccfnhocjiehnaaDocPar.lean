/- The document's parity. -/
import Derived.Test.YtccfnhocjiehnaaDocSplit
import Derived.Test.YtccfnhocjiehnaaRefTimes
import Derived.Deep.RegionLaw
import Derived.Deep.AppendLies
namespace Go.Proofs.Ytccfnhocjiehnaa
open Go.RowKit
set_option linter.unusedVariables false
set_option linter.unusedSimpArgs false

/-- A row that is being filled, one place of it under way. -/
def partF (i : Nat) (y : Gf.E) (f : Nat → Gf.E) (x : Nat) : Gf.E := if x < i then f x else if x = i then y else 0
structure PartR (w wr : World) (b q i : Nat) (y : Gf.E) (f : Nat → Gf.E) : Prop where
  row : wr.rowIs b 5 q (fun x => vb (partF i y f x))
  below : Below w.heap.size w wr
theorem FillR.part {w wr : World} {b q i : Nat} {f : Nat → Gf.E} (h : FillR w wr b q i f) : PartR w wr b q i 0 f :=
  ⟨rowIs_congr h.row (fun x _ => by unfold fillF partF; split <;> simp), h.below⟩
theorem PartR.at_ {w wr : World} {b q i : Nat} {y : Gf.E} {f : Nat → Gf.E} (h : PartR w wr b q i y f) (hi : i < q) : wr.cell? ⟨b, i, none⟩ = some (vb y) := by
  have h1 := h.row.cell hi
  unfold partF at h1
  rwa [if_neg (by omega), if_pos rfl] at h1
theorem PartR.set {w wr : World} {q i : Nat} {y : Gf.E} {f : Nat → Gf.E} (h : PartR w wr w.heap.size q i y f) (z : Gf.E) : PartR w ((wr.drewN 1).setCell ⟨w.heap.size, i, none⟩ (.int .u8 (z.val : Int))) w.heap.size q i z f :=
  ⟨rowIs_congr ((show (wr.drewN 1).rowIs w.heap.size 5 q (fun x => vb (partF i y f x)) from h.row).set i _) (fun x hx => by
    unfold partF
    by_cases e : x = i
    · subst e; rw [if_pos rfl, if_neg (by omega), if_pos rfl]; rfl
    · rw [if_neg e, if_neg e, if_neg e]), (below_drewN h.below 1).setCell (Nat.le_refl _) _⟩
theorem PartR.next {w wr : World} {b q i : Nat} {f : Nat → Gf.E} (h : PartR w wr b q i (f i) f) : FillR w wr b q (i + 1) f :=
  ⟨rowIs_congr h.row (fun x _ => by
    unfold fillF partF
    by_cases e : x < i
    · rw [if_pos e, if_pos (by omega)]
    · rw [if_neg e]
      by_cases e2 : x = i
      · rw [if_pos e2, if_pos (by omega), e2]
      · rw [if_neg e2, if_neg (by omega)]), h.below⟩

theorem docpar_zero (b k : Nat) (v : Value) (w : World) (hc : DocR w b k 0) : Calls Try.prog 41 #[.pointer (some ⟨b, 0, none⟩), v] w fun e w' => e = .returned (.slice none 0 0) ∧ w = w' := by
  have c2 := hc.2
  go_enter Try.func41, Try.ntmps41
  go_wp2_with (fail)
  go_ret
  exact ⟨rfl, rfl⟩

set_option maxRecDepth 100000 in
set_option maxHeartbeats 16000000 in
theorem docpar_yes (b k m : Nat) (A : Option Addr) (c q : Nat) (G : Nat → Nat → Gf.E) (w : World) (hc : DocR w b k m) (hk : 1 ≤ k) (hm : 1 ≤ m) (hkm : k + m ≤ 255) (ha : RdM w A k (fun _ => q) G) (hq : 1 ≤ q) (hq2 : q ≤ 1048576) :
    Calls Try.prog 41 #[.pointer (some ⟨b, 0, none⟩), .slice A k c] w fun e w' => ∃ v As cs w1, e = .returned v ∧ Below w.heap.size w w1 ∧ CopyR w1 w' m v As cs (fun _ => q) (timesF (cauE k) G k) := by
  have c1 := hc.1
  have c2 := hc.2
  obtain ⟨i56, hi, hz0, hz1, hz2⟩ := info_parts info56
  have hmk := run_make_row' (P := Try.prog) 22 5 (.int .u8 0) 1 Try.underlying22 info5 rfl .i64 .i64 q (by omega) (by omega)
  have HA := Lib.hid ha
  have HC := Lib.hid hc
  have m1 : (1 : Int) ≤ (m : Int) := by omega
  have k1 : (1 : Int) ≤ (k : Int) := by omega
  clear ha hc
  go_enter Try.func41, Try.ntmps41
  go_wp2_with (fail)
  refine wp_region_noPanic ?_
  go_region_law (go_simp; go_at_call 55; refine (rcauchy_yes m k _ (by omega) (by omega) (by omega)).mono ?_; rintro e w1 ⟨v, rfl, g, cap, bs, rfl, hcap, hM, _, _, _, hb1⟩; replace hM := Lib.hid hM; replace hb1 := Lib.hid hb1)
  all_goals refine NoPanic.normal ?_
  all_goals go_wp2_with (fail)
  all_goals
    have HM := hM
    have HB1 := Lib.hid (show Below w.heap.size w w1 from below_then (below_drewN (Below.refl _ _) 1) (Nat.le_refl _) hb1.out)
    have HST := Lib.hid (CopyR.start w1 w1 (fun _ => q) (timesF (cauE k) G k) (Below.refl _ _))
    have hmc : (m : Int) ≤ (cap : Int) := by omega
    clear hM hb1 c1 c2
    go_loopg [7, 8] m (fun kq v7 v8 wr => ∃ j : Nat, j + kq = m ∧ v8 = .int .i64 (j : Int) ∧ ∃ As cs, Hid (CopyR w1 wr j v7 As cs (fun _ => q) (timesF (cauE k) G k)))
    case atStart => exact ⟨0, by omega, rfl, _, _, HST⟩
    case round =>
      clear HST
      obtain ⟨j, hj0, rfl, As, cs, HI⟩ := hrel
      obtain ⟨wo, hwo⟩ : ∃ wo, wo = wr := ⟨_, rfl⟩
      subst hwo
      have HBO := Lib.hid (below_then HB1.out HB1.out.size HI.out.below)
      have c1 := (HC.out.below HBO.out).1
      have c2 := (HC.out.below HBO.out).2
      by_cases hlt : j < m
      · have j1 : (j : Int) < (m : Int) := by omega
        have j0 : (0 : Int) ≤ (j : Int) := by omega
        obtain ⟨Ar, Cr, ha1, _⟩ := HA.out.below HBO.out
        obtain ⟨ad, rfl, f0⟩ := ha1.at_ (show 0 < k by omega)
        rw [show ad.add 0 = ad by simp [Addr.add]] at f0
        obtain ⟨f, hf⟩ : ∃ f, f = timesF (cauE k) G k j := ⟨_, rfl⟩
        have HF := Lib.hid (FillR.start wo q f)
        have HFF := Lib.hid hf
        clear ha1 hf
        go_wp2_with (fail)
        go_loopg [10] q (fun iq v10 wr => ∃ i : Nat, i + iq = q ∧ v10 = .int .i64 (i : Int) ∧ Hid (FillR wo wr wo.heap.size q i f))
        case atStart => exact ⟨0, by omega, rfl, HF⟩
        case round =>
          clear HF
          obtain ⟨i, hi0, rfl, HF⟩ := hrel
          have c1 := cell_below HF.out.below c1
          by_cases hiq : i < q
          · have i1 : (i : Int) < (q : Int) := by omega
            have i0 : (0 : Int) ≤ (i : Int) := by omega
            have HP := Lib.hid (HF.out.part)
            obtain ⟨w8, hw8⟩ : ∃ w8, w8 = wr := ⟨_, rfl⟩
            subst hw8
            clear HF
            go_wp2_with (fail)
            go_loopg [11] k (fun tq v11 wr => ∃ t : Nat, t + tq = k ∧ v11 = .int .i64 (t : Int) ∧ Hid (PartR wo wr wo.heap.size q i (sumE t (fun a => Gf.mul (cauE k j a) (G a i))) f))
            case atStart => exact ⟨0, by omega, rfl, HP⟩
            case round =>
              clear HP c1
              obtain ⟨t, ht0, rfl, HP⟩ := hrel
              have hbw := below_then HBO.out HBO.out.size HP.out.below
              have c1 := (HC.out.below hbw).1
              by_cases htk : t < k
              · have t1 : (t : Int) < (k : Int) := by omega
                have t0 : (0 : Int) ≤ (t : Int) := by omega
                have f2 := HP.out.at_ hiq
                have fz := HP.out.row.frozen i
                obtain ⟨csM, hm1, hm2⟩ := (HM.out.below HI.out.below).below HP.out.below
                have f3 := hm1.cell hlt
                have f4 := (hm2 j hlt).2.cell htk
                obtain ⟨Ax, Cx, hx1, hx2⟩ := HA.out.below hbw
                obtain ⟨ax, hax, f5⟩ := hx1.at_ htk
                injection hax with hax
                subst hax
                obtain ⟨bk, hbk, f6⟩ := (hx2 t htk).2.at_ hiq
                rw [hbk] at f5
                unfold vb at f2 f4 f6
                obtain ⟨s0, hs0⟩ : ∃ s, s = sumE t (fun a => Gf.mul (cauE k j a) (G a i)) := ⟨_, rfl⟩
                rw [← hs0] at f2
                have e3 := u8_xor_nat s0.val (Gf.mul (cauE k j t) (G t i)).val s0.isLt (Gf.mul (cauE k j t) (G t i)).isLt
                have hN := HP.out.set (Gf.add s0 (Gf.mul (cauE k j t) (G t i)))
                have hs : sumE (t + 1) (fun a => Gf.mul (cauE k j a) (G a i)) = Gf.add s0 (Gf.mul (cauE k j t) (G t i)) := by rw [hs0]; rfl
                rw [← hs] at hN
                rw [show (PartR wo ((wr.drewN 1).setCell ⟨wo.heap.size, i, none⟩ (.int .u8 ((sumE (t + 1) (fun a => Gf.mul (cauE k j a) (G a i))).val : Int))) wo.heap.size q i (sumE (t + 1) (fun a => Gf.mul (cauE k j a) (G a i))) f) = (PartR wo ((wr.drewN 1).setCell ⟨wo.heap.size, i, none⟩ (.int .u8 ((Gf.add s0 (Gf.mul (cauE k j t) (G t i))).val : Int))) wo.heap.size q i (sumE (t + 1) (fun a => Gf.mul (cauE k j a) (G a i))) f) by rw [hs]] at hN
                have HN := Lib.hid hN
                clear hbw hm1 hm2 hx1 hx2 hbk HP hs0 hs hN
                go_wp2_with (fail)
                refine wp_region_still_tail 23 (by kernel_rfl) (by kernel_rfl) ?_
                simp only [List.take_succ_cons, List.take_zero, List.drop_succ_cons, List.drop_zero]
                repeat (first | still_step | still_call ((rmul_v _ _ _).mono fun _ _ h => ⟨h.1, h.2.symm⟩))
                refine wpStill_nil ?_
                change wpList _ _ _ _ _ wr.drew
                go_wp2_with (fail)
                go_roundg (k - (t + 1))
                case measure => omega
                case rel => exact ⟨t + 1, by omega, by go_num, HN⟩
              · obtain rfl : t = k := by omega
                have hN := HP.out
                rw [show sumE t (fun a => Gf.mul (cauE t j a) (G a i)) = f i by rw [HFF.out]; rfl] at hN
                have HN := Lib.hid hN.next
                clear HP hN hbw
                go_wp2_with (fail)
                go_roundg (q - (i + 1))
                case measure => omega
                case rel => exact ⟨i + 1, by omega, by go_num, HN⟩
          · obtain rfl : i = q := by omega
            have HB := Lib.hid HF.out.below
            have hO := HF.out.done (fun x hx1 hx2 => by omega) (by unfold maxLen; omega)
            rw [HFF.out] at hO
            have HO := Lib.hid hO
            clear HF hO
            go_wp2_with (at_builtin; refine wpList_append_own _ rfl (.tmp 79) (.tmp 81) 28 rfl w1.heap.size 22 i56 (.slice none 0 0) 1 24 Try.underlying28 hi hz0 hz1 hz2 rfl (by decide) _ j _ rfl (HI.out.ownUp HB.out _) _ 1 1 [.slice (some ⟨wo.heap.size, 0, none⟩) i i] rfl rfl (one_news _ _ _ rfl) (one_one _ rfl) (by unfold maxLen; omega) (by omega) (by have := HI.out.below.size; have := HB.out.size; simp; omega) ?_; intro v2 w4 hown2 hgrow2 hz; clear hz; have HS := Lib.hid (HI.out.step HB.out HO.out hown2 hgrow2); clear hown2 hgrow2)
            obtain ⟨As2, cs2, hS⟩ := HS.out
            replace hS := Lib.hid hS
            clear HS
            go_roundg (m - (j + 1))
            case measure => omega
            case rel => exact ⟨j + 1, by omega, by go_num, _, _, hS⟩
      · obtain rfl : j = m := by omega
        go_wp2_with (fail)
        go_ret
        exact ⟨_, As, cs, w1, rfl, HB1.out, HI.out⟩
end Go.Proofs.Ytccfnhocjiehnaa
