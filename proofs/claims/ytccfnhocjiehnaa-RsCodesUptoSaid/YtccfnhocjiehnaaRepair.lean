/- rs.whole told in one; rs.Repair. -/
import Derived.Test.YtccfnhocjiehnaaKept
import Derived.Deep.RegionLaw
import Derived.Deep.AppendLies
namespace Go.Proofs.Ytccfnhocjiehnaa
open Go.RowKit
set_option linter.unusedVariables false
set_option linter.unusedSimpArgs false

theorem rowsTo_all {L : Nat → Nat} {k : Nat} (hL : ∀ i, i < k → 0 < L i) : ∀ {i : Nat}, rowsTo L k i = List.range (min i k)
  | 0 => by rw [rowsTo_zero]; simp
  | i + 1 => by
    have ih := rowsTo_all hL (i := i)
    by_cases h : i < k
    · rw [rowsTo_yes (hL i h) (by rw [ih]; simp; omega), ih, show min i k = i by omega, show min (i + 1) k = i + 1 by omega, List.range_succ]
    · rw [rowsTo_full (by rw [ih]; simp; omega), ih, show min i k = k by omega, show min (i + 1) k = k by omega]
theorem rowN_all {L : Nat → Nat} {k s : Nat} (hL : ∀ i, i < k → 0 < L i) (hs : k ≤ s) {j : Nat} (hj : j < k) : rowN L k s j = j := by
  unfold rowN
  rw [rowsTo_all hL, show min s k = k by omega, List.getD_eq_getElem?_getD, List.getElem?_range hj]; rfl
/-- What whole makes of the shards that are there. -/
def WholeD (L : Nat → Nat) (G : Nat → Nat → Gf.E) (k s : Nat) (D : Nat → Nat → Gf.E) : Prop :=
  ((∀ i, i < k → 0 < L i) ∧ D = G) ∨ ∃ A' O', gjTo k (rowsF (unitCau k) fun j => (rowN L k s j : Int)) k = some (A', O') ∧ D = timesF O' (fun i => G (rowN L k s i)) k

theorem whole_c (b k m s : Nat) (A : Option Addr) (c q : Nat) (L : Nat → Nat) (G : Nat → Nat → Gf.E) (w : World) (hs : s = k + m) (hc : CodeR w b k m) (ha : RdM w A s L G) (hk : 1 ≤ k) (hkm : s ≤ 255) (hsc : s ≤ c) (hl : ∀ i, i < s → L i = 0 ∨ L i = q) (hq1 : 1 ≤ q) (hq2 : q ≤ 1048576) :
    Calls Try.prog 35 #[.pointer (some ⟨b, 0, none⟩), .slice A s c] w fun e w' => ((rowsTo L k s).length < k ∧ e = .panicked [gaveUp 16] ∧ Below w.heap.size w w') ∨
      ((rowsTo L k s).length = k ∧ ∃ A' c' D, e = .returned (.slice A' k c') ∧ k ≤ c' ∧ RdM w' A' k (fun _ => q) D ∧ WholeD L G k s D ∧ Below w.heap.size w w') := by
  by_cases hL : ∀ i, i < k → 0 < L i
  · refine (whole_a b k m A s c L G w hc ha hk (by omega) (by omega) hsc (fun i hi => by rcases hl i hi with h | h <;> omega) hL).mono ?_
    rintro e w' ⟨rfl, hd⟩
    refine .inr ⟨by rw [rowsTo_all hL]; simp; omega, A, k, G, rfl, Nat.le_refl _, ?_, .inl ⟨hL, rfl⟩, hd.below⟩
    exact ((ha.below hd.below).take (by omega)).len (fun i hi => by
      have := hL i hi
      rcases hl i (by omega) with h | h
      · omega
      · exact h)
  · have hL' : ∃ i, i < k ∧ L i = 0 := Decidable.byContradiction fun h => hL (fun i hi => Decidable.byContradiction fun h2 => h ⟨i, hi, by omega⟩)
    refine (whole_b b k m s A c q L G w hs hc ha hk hkm hsc hl hq1 hq2 hL').mono ?_
    rintro e w' (h | ⟨h1, v, A', O', rfl, hg, g, cap, bs, rfl, hcap, hM⟩)
    · exact .inl h
    · exact .inr ⟨h1, _, _, _, rfl, hcap, hM.1.rd, .inr ⟨A', O', hg, rfl⟩, hM.2.2.2.2⟩

theorem whole_k (B b k m s : Nat) (A : Option Addr) (c q : Nat) (L : Nat → Nat) (G : Nat → Nat → Gf.E) (w : World) (hB : B < w.heap.size) (hs : s = k + m) (hc : CodeR w b k m) (ha : Kept B w A s L G) (hk : 1 ≤ k) (hkm : s ≤ 255) (hsc : s ≤ c) (hl : ∀ i, i < s → L i = 0 ∨ L i = q) (hq1 : 1 ≤ q) (hq2 : q ≤ 1048576) :
    Calls Try.prog 35 #[.pointer (some ⟨b, 0, none⟩), .slice A s c] w fun e w' => ((rowsTo L k s).length < k ∧ e = .panicked [gaveUp 16] ∧ Below w.heap.size w w') ∨
      ((rowsTo L k s).length = k ∧ ∃ a' c' D, e = .returned (.slice (some a') k c') ∧ k ≤ c' ∧ Kept B w' (some a') k (fun _ => q) D ∧ WholeD L G k s D ∧ Below w.heap.size w w') := by
  by_cases hL : ∀ i, i < k → 0 < L i
  · refine (whole_a b k m A s c L G w hc ha.rd hk (by omega) (by omega) hsc (fun i hi => by rcases hl i hi with h | h <;> omega) hL).mono ?_
    rintro e w' ⟨rfl, hd⟩
    have hK := (((ha.over hd.below).take (show k ≤ s by omega)).len (M := fun _ => q) (fun i hi => by
      have := hL i hi
      rcases hl i (by omega) with h | h
      · omega
      · exact h))
    obtain ⟨Ar, Cr, hr, _⟩ := hK.rd
    obtain ⟨a', rfl, _⟩ := hr.at_ (show 0 < k by omega)
    exact .inr ⟨by rw [rowsTo_all hL]; simp; omega, a', k, G, rfl, Nat.le_refl _, hK, .inl ⟨hL, rfl⟩, hd.below⟩
  · have hL' : ∃ i, i < k ∧ L i = 0 := Decidable.byContradiction fun h => hL (fun i hi => Decidable.byContradiction fun h2 => h ⟨i, hi, by omega⟩)
    refine (whole_b b k m s A c q L G w hs hc ha.rd hk hkm hsc hl hq1 hq2 hL').mono ?_
    rintro e w' (h | ⟨h1, v, A', O', rfl, hg, g, cap, bs, rfl, hcap, hM⟩)
    · exact .inl h
    · exact .inr ⟨h1, _, _, _, rfl, hcap, Kept.mat hM.1 (by have := hM.2.1; omega) (fun i hi => by have := hM.2.2.1 i hi; omega), .inr ⟨A', O', hg, rfl⟩, hM.2.2.2.2⟩

/-- What Repair makes. -/
def repF (L : Nat → Nat) (G D : Nat → Nat → Gf.E) (k : Nat) : Nat → Nat → Gf.E := fun i => if 0 < L i then G i else if i < k then D i else timesF (cauE k) D k (i - k)

theorem clip_c (A : Option Addr) (n c : Nat) (w : World) (hc : n ≤ c) : Calls Try.prog 36 #[.slice A n c] w fun e w' => e = .returned (.slice A n n) ∧ w = w' := by
  have h1 : (n : Int) ≤ (c : Int) := by omega
  have h2 : (0 : Int) ≤ (n : Int) := by omega
  go_enter Try.func36, Try.ntmps36
  go_wp2
  go_ret
  exact ⟨rfl, rfl⟩

set_option maxRecDepth 100000 in
set_option maxHeartbeats 4000000 in
theorem repair_no (b k m s : Nat) (A : Option Addr) (c : Nat) (L : Nat → Nat) (G : Nat → Nat → Gf.E) (w : World) (hc : CodeR w b k m) (hkm : k + m ≤ 255) (ha : RdM w A s L G) (hs : s ≤ 1048576) (hl : ∀ i, i < s → L i ≤ 1048576) (hf : alikeB s (k + m) L = false) :
    Calls Try.prog 11 #[.pointer (some ⟨b, 0, none⟩), .slice A s c] w fun e w' => e = .returned (.tuple #[.slice none 0 0, .int .i64 1]) ∧ Below w.heap.size w w' := by
  have hmf := makeFunc_run
  have hb := box2 w (.slice none 0 0) (.int .i64 0) 28 25
  have hT := Two.start w (.slice none 0 0) (.int .i64 0) 28 25
  have HT := Lib.hid hT
  obtain ⟨c1, c2, _⟩ := hc.below hb
  obtain ⟨Ar, Cr, hr, _⟩ := ha.below hb
  have HAL := Lib.hid (fun n => alike_c A s c ((k : Int) + m) L Ar Cr _ (hr.drewN n) (by omega) (fun i hi => by have := hl i hi; omega) (by omega))
  rw [show ((k : Int) + m).toNat = k + m by omega, hf] at HAL
  have e1 : IntKind.i64.wrap ((k : Int) + (m : Int)) = (k : Int) + (m : Int) := by rw [IntKind.wrap_i64]; omega
  clear hc ha hb hr hl hT hf
  go_enter_defers Try.func11, Try.ntmps11
  go_wp2_with (fail)
  generalize (w.alloc (.cells #[.slice none 0 0] 28)).alloc (.cells #[.int .i64 0] 25) = W at *
  refine wp_region_still_tail 10 (by kernel_rfl) (by kernel_rfl) ?_
  simp only [List.take_succ_cons, List.take_zero, List.drop_succ_cons, List.drop_zero]
  repeat (first | still_step)
  refine wpStill_nil ?_
  change wpList _ _ _ _ _ W.drew
  go_wp2_with (fail)
  refine (HAL.out 1).mono ?_
  rintro e w' ⟨rfl, ⟨h, _⟩ | ⟨_, rfl⟩⟩
  · cases h
  · go_wp2
    refine two_up (fun _ _ => rfl) (HT.out.over (below_drewN (Below.refl _ _) 1)) (fun W h1 h2 => zero2_c _ _ W h1 h2) (fun W h1 h2 => by simp [results, Try.results11, go_sem, h1, h2]) (fun W hW => ⟨rfl, hW⟩)

set_option maxRecDepth 100000 in
set_option maxHeartbeats 16000000 in
theorem repair_yes (b k m s : Nat) (A : Option Addr) (c q : Nat) (L : Nat → Nat) (G : Nat → Nat → Gf.E) (w : World) (hs : s = k + m) (hc : CodeR w b k m) (hk : 1 ≤ k) (hkm : s ≤ 255) (ha : RdM w A s L G) (hsc : s ≤ c) (hl : ∀ i, i < s → L i = 0 ∨ L i = q) (hq1 : 1 ≤ q) (hq2 : q ≤ 1048576) (hf : alikeB s (k + m) L = true) :
    Calls Try.prog 11 #[.pointer (some ⟨b, 0, none⟩), .slice A s c] w fun e w' => ((rowsTo L k s).length < k ∧ e = .returned (.tuple #[.slice none 0 0, .int .i64 16]) ∧ Below w.heap.size w w') ∨
      ((rowsTo L k s).length = k ∧ ∃ v D, e = .returned (.tuple #[v, .int .i64 0]) ∧ WholeD L G k s D ∧ NewMat w w' v s q (repF L G D k)) := by
  have hmf := makeFunc_run
  have hb := box2 w (.slice none 0 0) (.int .i64 0) 28 25
  have hT := Two.start w (.slice none 0 0) (.int .i64 0) 28 25
  have HT := Lib.hid hT
  have HKA0 := Lib.hid (Kept.input (B := w.heap.size) ha hb (Nat.le_refl _))
  have HC := Lib.hid (hc.below hb)
  have HL := Lib.hid hl
  obtain ⟨c1, c2, _⟩ := hc.below hb
  obtain ⟨Ar0, Cr0, hr, hrow⟩ := ha.below hb
  have HAL := Lib.hid (fun n => alike_c A s c ((k : Int) + m) L Ar0 Cr0 _ (hr.drewN n) (by omega) (fun i hi => by rcases hl i hi with h | h <;> omega) (by omega))
  rw [show ((k : Int) + m).toNat = k + m by omega, hf] at HAL
  have e1 : IntKind.i64.wrap ((k : Int) + (m : Int)) = (k : Int) + (m : Int) := by rw [IntKind.wrap_i64]; omega
  obtain ⟨i56, hi, hz0, hz1, hz2⟩ := info_parts info56
  have hm1 : m ≤ 255 := by omega
  have ks : k ≤ s := by omega
  have HS := Lib.hid hs
  clear hc ha hb hr hl hT hf hrow hs
  go_enter_defers Try.func11, Try.ntmps11
  go_wp2_with (fail)
  generalize (w.alloc (.cells #[.slice none 0 0] 28)).alloc (.cells #[.int .i64 0] 25) = W at *
  refine wp_region_still_tail 10 (by kernel_rfl) (by kernel_rfl) ?_
  simp only [List.take_succ_cons, List.take_zero, List.drop_succ_cons, List.drop_zero]
  repeat (first | still_step)
  refine wpStill_nil ?_
  change wpList _ _ _ _ _ W.drew
  go_wp2_with (fail)
  refine (HAL.out 1).mono ?_
  rintro e w' ⟨rfl, ⟨_, rfl⟩ | ⟨h, _⟩⟩
  · have hbD : Below W.heap.size W (W.drewN 1) := below_drewN (Below.refl _ _) 1
    have hB4 : w.heap.size < W.heap.size := (Array.getElem?_eq_some_iff.1 HT.out.one).1
    have HX := Lib.hid (whole_k w.heap.size b k m s A c q L G (W.drewN 1) hB4 HS.out (HC.out.below hbD) (HKA0.out.over hbD) hk hkm hsc HL.out hq1 hq2)
    clear e1 c1 c2 HAL hbD hB4
    go_wp2_with (fail)
    refine HX.out.mono ?_
    rintro e w1 (⟨hlost, rfl, hb1⟩ | ⟨hlen, a1, cc1, D, rfl, hcc1, hD, hWD, hb1⟩)
    · have HLO := Lib.hid hlost
      have HB1 := Lib.hid (below_then (below_drewN (Below.refl _ _) 1) (Nat.le_refl _) hb1)
      clear hlost hb1
      go_wp2
      refine two_up (fun _ _ => rfl) (HT.out.over HB1.out) (fun W h1 h2 => zero2_c _ _ W h1 h2) (fun W h1 h2 => by simp [results, Try.results11, go_sem, h1, h2]) (fun W hW => .inl ⟨HLO.out, rfl, hW⟩)
    · have HLEN := Lib.hid hlen
      have HD := Lib.hid hD
      have HWD := Lib.hid hWD
      have HB1 := Lib.hid (show Below W.heap.size W w1 from below_then (below_drewN (Below.refl _ _) 1) (Nat.le_refl _) hb1)
      have HKW := HKA0
      clear hlen hD hWD hb1 HX
      by_cases hm : m = 0
      · have HM0 := Lib.hid hm
        have HP := Lib.hid (par_zero b k (some a1) cc1 q D w1 (by have := HC.out.below HB1.out; rwa [hm] at this) HD.out.rd hk (by omega) hq1 hq2)
        clear hm
        go_wp2_with (fail)
        refine HP.out.mono ?_
        rintro e wq ⟨rfl, hbq⟩
        have HBQ := Lib.hid (below_then HB1.out HB1.out.size hbq)
        have HTQ := Lib.hid (HT.out.over HBQ.out)
        have HLEN0 : Hid (k = s) := Lib.hid (by have := HS.out; have := HM0.out; omega)
        have HKE := Lib.hid (show Kept w.heap.size wq (some a1) k (fun _ => q) (bothF D (timesF (cauE k) D k) k) from by
          obtain ⟨Dr, Dc, h⟩ := HD.out.over hbq
          exact ⟨Dr, Dc, fun wr hr => ⟨(h wr hr).1, fun i hi => ⟨((h wr hr).2 i hi).1, RdF.congr ((h wr hr).2 i hi).2 (fun j hj => by unfold bothF; rw [if_pos hi])⟩⟩⟩)
        clear hbq
        go_wp2_with (fail)
        refine (clip_c (some a1) k cc1 _ hcc1).mono ?_
        rintro e w2' ⟨rfl, rfl⟩
        go_wp2_with (fail)
        have hwq : w.heap.size + 1 < wq.heap.size := by have := (Array.getElem?_eq_some_iff.1 HTQ.out.two).1; exact this
        have HST : Hid (RepR w wq wq 0 q (.slice none 0 0) (fun _ => none) (fun _ => 0) (repF L G D k)) := Lib.hid ⟨World.ownsRow_nil _ _ _ _, fun x hx => absurd hx (Nat.not_lt_zero _), fun x y hx => absurd hx (Nat.not_lt_zero _), HTQ.out, Chg.refl _ _⟩
        have lk0 : 1 ≤ k := by omega
        have HKA := Lib.hid (show Kept w.heap.size wq A s L G from HKW.out.over HBQ.out)
        go_loopg [37] k (fun kq v37 wr => ∃ i : Nat, i + kq = k ∧ v37 = .int .i64 (i : Int) ∧ ∃ A0 c0 As cs, Hid (RepR w wq wr i q (.slice A0 i c0) As cs (repF L G D k)))
        case atStart => exact ⟨0, by omega, rfl, none, 0, _, _, HST⟩
        case round =>
          clear HST
          obtain ⟨i, hi0, rfl, A0, c0, As, cs, HI⟩ := hrel
          have HSL := HLEN0.out
          obtain ⟨Er, Ec, hE⟩ := HKE.out
          obtain ⟨Ar, Cr, hA⟩ := HKA.out
          obtain ⟨hE1, hE2⟩ := hE wr HI.out.chg
          obtain ⟨hA1, hA2⟩ := hA wr HI.out.chg
          have p1 := HI.out.two.cell1
          have p2 := HI.out.two.cell2
          have z1 := HI.out.two.frz1
          have z2 := HI.out.two.frz2
          by_cases hlt : i < k
          · obtain ⟨ea, he, f1⟩ := hE1.at_ hlt
            injection he with he
            subst he
            obtain ⟨sa, rfl, f2⟩ := hA1.at_ (show i < s by omega)
            have i1 : (i : Int) < (k : Int) := by omega
            have i2 : (i : Int) < (s : Int) := by omega
            have i0 : (0 : Int) ≤ (i : Int) := by omega
            have hl1 := HL.out i (show i < s by omega)
            by_cases h0 : L i = 0
            · have d1 : ((L i : Nat) : Int) ≤ 0 := by omega
              have HROW := Lib.hid (show RdB wr.drew (Er i) q (repF L G D k i) from by
                have h := (hE2 i hlt).2
                have e : repF L G D k i = bothF D (timesF (cauE k) D k) k i := by unfold repF bothF; rw [if_neg (by omega)]
                rw [e]; exact h)
              clear hE1 hE2 hA1 hA2 hE hA h0 hl1 HSL
              have H0 := Lib.hid (show RepR w wq wr.drew i q (.slice A0 i c0) As cs (repF L G D k) from ⟨own_below HI.out.own (below_drewN (Below.refl _ _) 1), fun x hx => by obtain ⟨h1, b, h2, h3, h4⟩ := HI.out.rows x hx; exact ⟨h1, b, h2, h3, h4.below (below_drewN (Below.refl _ _) 1)⟩, HI.out.inj, HI.out.two.over (below_drewN (Below.refl _ _) 1), HI.out.chg.drewN 1⟩)
              have HMORE : Hid (∀ w3 A3 c3 v4 w4, Below wr.drew.heap.size wr.drew w3 → w3.ownsRow wr.drew.heap.size 5 1 (.slice A3 q c3) q (newsB q (repF L G D k i)) → w4.ownsRow wq.heap.size 22 1 v4 (i + 1) ((List.range i).map (fun x => Value.slice (As x) q (cs x)) ++ [.slice A3 q c3]) → (w3.alloc (.cells #[.slice A3 q c3] 22)).grownBy w4 (Value.slice A0 i c0).ownBlock →
                  ∃ A4 c4, v4 = .slice A4 (i + 1) c4 ∧ (∃ As' cs', RepR w wq (w4.setCell ⟨w.heap.size, 0, none⟩ (.slice A4 (i + 1) c4)) (i + 1) q (.slice A4 (i + 1) c4) As' cs' (repF L G D k)) ∧ w4.cell? ⟨w.heap.size, 0, none⟩ = some (.slice A0 i c0) ∧ w4.frozen? ⟨w.heap.size, 0, none⟩ = false) := Lib.hid (fun w3 A3 c3 v4 w4 hb3 ho3 hown4 hg4 => by
                obtain ⟨A4, c4, rfl, _⟩ := own_form hown4
                have hT3 := (H0.out.two.over hb3).over (box_below w3 (.cells #[.slice A3 q c3] 22))
                have hO3 := (own_below H0.out.own hb3).alloc (.cells #[.slice A3 q c3] 22)
                have hT4 := hT3.grown hg4 (blk_ne_own hO3 hT3.one (by decide)) (blk_ne_own hO3 hT3.two (by decide)) (fun g hg' => by have := own_base H0.out.own g hg'; omega)
                exact ⟨A4, c4, rfl, H0.out.step (by omega) hwq hb3 ho3 hown4 hg4, hT4.cell1, hT4.frz1⟩)
              have HX3 := Lib.hid (show i + 1 ≤ maxLen by unfold maxLen; omega)
              have HX5 := Lib.hid (show (i + 1) * 24 ≤ 140737488355328 by omega)
              have HX6 : Hid (∀ w3, Below wr.drew.heap.size wr.drew w3 → ∀ o, wq.heap.size ≤ (w3.alloc o).heap.size) := Lib.hid (fun w3 hb o => by have := H0.out.chg.size; have := hb.size; simp; omega)
              clear HI p2 z1 z2
              go_wp2_with (fail)
              refine wp_region_noPanic ?_
              go_region_law (first | (refine step_append_lies _ (by rfl) (.tmp 52) (.tmp 55) 28 (by rfl) wq.heap.size 22 i56 (.slice none 0 0) 1 24 Try.underlying28 hi hz0 hz1 hz2 rfl (by decide) (.slice A0 i c0) i _ (by rfl) ((own_below H0.out.own hb3.out).alloc _) ⟨w3.heap.size, 0, none⟩ 1 1 [.slice A3 q c3] (by rfl) rfl (one_news _ _ _ rfl) (one_one _ rfl) (by decide) HX3.out HX5.out (HX6.out w3 hb3.out _) _ rfl ?_; intro g4 c4 w4 hown4 hg4 hz1 hz2; clear hz1 hz2; obtain ⟨A4, c4', hv4, hn4, p1', z1'⟩ := HMORE.out w3 A3 c3 _ w4 hb3.out ho3.out hown4 hg4; have HN := Lib.hid hn4; clear hn4 hown4 hg4) | (go_simp; go_at_call 37; refine (clone_c (Er i) q (Ec i) (repF L G D k i) _ HROW.out hq2).mono ?_; rintro e w3 ⟨v3, rfl, ho3, hb3⟩; obtain ⟨A3, c3, rfl, _⟩ := own_form ho3; have q1 := cell_below hb3 p1; have q2 := fun o => cell_below (box_below w3 o) q1; replace ho3 := Lib.hid ho3; replace hb3 := Lib.hid hb3))
              all_goals refine NoPanic.normal ?_
              all_goals obtain ⟨As', cs', hN⟩ := HN.out
              all_goals replace hN := Lib.hid hN
              all_goals clear HN
              all_goals go_wp2_with (fail)
              all_goals go_roundg (k - (i + 1))
              all_goals first | exact ⟨i + 1, by omega, by go_num, _, _, As', cs', hN⟩ | omega
            · rcases hl1 with h | hl1
              · exact absurd h h0
              rw [hl1] at f2
              have d1 : (0 : Int) < (q : Int) := by omega
              have HROW := Lib.hid (show RdB wr.drew (Ar i) q (repF L G D k i) from by
                have h := (hA2 i (by omega)).2
                have e : repF L G D k i = G i := by unfold repF; rw [if_pos (by omega)]
                rw [hl1] at h
                rw [e]; exact h)
              clear hE1 hE2 hA1 hA2 hE hA h0 hl1 HSL
              have H0 := Lib.hid (show RepR w wq wr.drew i q (.slice A0 i c0) As cs (repF L G D k) from ⟨own_below HI.out.own (below_drewN (Below.refl _ _) 1), fun x hx => by obtain ⟨h1, b, h2, h3, h4⟩ := HI.out.rows x hx; exact ⟨h1, b, h2, h3, h4.below (below_drewN (Below.refl _ _) 1)⟩, HI.out.inj, HI.out.two.over (below_drewN (Below.refl _ _) 1), HI.out.chg.drewN 1⟩)
              have HMORE : Hid (∀ w3 A3 c3 v4 w4, Below wr.drew.heap.size wr.drew w3 → w3.ownsRow wr.drew.heap.size 5 1 (.slice A3 q c3) q (newsB q (repF L G D k i)) → w4.ownsRow wq.heap.size 22 1 v4 (i + 1) ((List.range i).map (fun x => Value.slice (As x) q (cs x)) ++ [.slice A3 q c3]) → (w3.alloc (.cells #[.slice A3 q c3] 22)).grownBy w4 (Value.slice A0 i c0).ownBlock →
                  ∃ A4 c4, v4 = .slice A4 (i + 1) c4 ∧ (∃ As' cs', RepR w wq (w4.setCell ⟨w.heap.size, 0, none⟩ (.slice A4 (i + 1) c4)) (i + 1) q (.slice A4 (i + 1) c4) As' cs' (repF L G D k)) ∧ w4.cell? ⟨w.heap.size, 0, none⟩ = some (.slice A0 i c0) ∧ w4.frozen? ⟨w.heap.size, 0, none⟩ = false) := Lib.hid (fun w3 A3 c3 v4 w4 hb3 ho3 hown4 hg4 => by
                obtain ⟨A4, c4, rfl, _⟩ := own_form hown4
                have hT3 := (H0.out.two.over hb3).over (box_below w3 (.cells #[.slice A3 q c3] 22))
                have hO3 := (own_below H0.out.own hb3).alloc (.cells #[.slice A3 q c3] 22)
                have hT4 := hT3.grown hg4 (blk_ne_own hO3 hT3.one (by decide)) (blk_ne_own hO3 hT3.two (by decide)) (fun g hg' => by have := own_base H0.out.own g hg'; omega)
                exact ⟨A4, c4, rfl, H0.out.step (by omega) hwq hb3 ho3 hown4 hg4, hT4.cell1, hT4.frz1⟩)
              have HX3 := Lib.hid (show i + 1 ≤ maxLen by unfold maxLen; omega)
              have HX5 := Lib.hid (show (i + 1) * 24 ≤ 140737488355328 by omega)
              have HX6 : Hid (∀ w3, Below wr.drew.heap.size wr.drew w3 → ∀ o, wq.heap.size ≤ (w3.alloc o).heap.size) := Lib.hid (fun w3 hb o => by have := H0.out.chg.size; have := hb.size; simp; omega)
              clear HI p2 z1 z2
              go_wp2_with (fail)
              refine wp_region_noPanic ?_
              go_region_law (first | (refine step_append_lies _ (by rfl) (.tmp 52) (.tmp 55) 28 (by rfl) wq.heap.size 22 i56 (.slice none 0 0) 1 24 Try.underlying28 hi hz0 hz1 hz2 rfl (by decide) (.slice A0 i c0) i _ (by rfl) ((own_below H0.out.own hb3.out).alloc _) ⟨w3.heap.size, 0, none⟩ 1 1 [.slice A3 q c3] (by rfl) rfl (one_news _ _ _ rfl) (one_one _ rfl) (by decide) HX3.out HX5.out (HX6.out w3 hb3.out _) _ rfl ?_; intro g4 c4 w4 hown4 hg4 hz1 hz2; clear hz1 hz2; obtain ⟨A4, c4', hv4, hn4, p1', z1'⟩ := HMORE.out w3 A3 c3 _ w4 hb3.out ho3.out hown4 hg4; have HN := Lib.hid hn4; clear hn4 hown4 hg4) | (go_simp; go_at_call 37; refine (clone_c (Ar i) q (Cr i) (repF L G D k i) _ HROW.out hq2).mono ?_; rintro e w3 ⟨v3, rfl, ho3, hb3⟩; obtain ⟨A3, c3, rfl, _⟩ := own_form ho3; have q1 := cell_below hb3 p1; have q2 := fun o => cell_below (box_below w3 o) q1; replace ho3 := Lib.hid ho3; replace hb3 := Lib.hid hb3))
              all_goals refine NoPanic.normal ?_
              all_goals obtain ⟨As', cs', hN⟩ := HN.out
              all_goals replace hN := Lib.hid hN
              all_goals clear HN
              all_goals go_wp2_with (fail)
              all_goals go_roundg (k - (i + 1))
              all_goals first | exact ⟨i + 1, by omega, by go_num, _, _, As', cs', hN⟩ | omega
          · obtain rfl : k = i := by omega
            have hT3 := Lib.hid ((HI.out.two.set1 (.slice A0 k c0)).set2 (.int .i64 0))
            obtain ⟨g, cap, bs, hv, hcap, hM, hg, hbs, hinj⟩ := HI.out.new (by omega) hwq
            have hM2 := (hM.far (a := ⟨w.heap.size, 0, none⟩) HI.out.two.one (by decide) (by decide) (.slice A0 k c0)).far (a := ⟨w.heap.size + 1, 0, none⟩) (HI.out.two.set1 _).two (by decide) (by decide) (.int .i64 0)
            injection hv with hvA hvn hvc
            subst hvA
            subst hvc
            have HFIN := Lib.hid (show NewMat w _ (.slice (some ⟨g, 0, none⟩) k c0) k q (repF L G D k) from ⟨g, c0, bs, rfl, hcap, hM2, by omega, fun i hi => by have := hbs i hi; omega, hinj, hT3.out.below⟩)
            clear hM hM2 hinj hE1 hE2 hA1 hA2 hE hA hbs HI
            replace HSL := Lib.hid HSL
            go_wp2
            refine two_ret hT3.out (fun W h1 h2 => by simp [results, Try.results11, go_sem, h1, h2]) (.inr ⟨HLEN.out, _, rfl, D, HWD.out, by rw [← HSL.out]; exact HFIN.out⟩)
      · have HP := Lib.hid (par_yes b k m (some a1) cc1 q D w1 (HC.out.below HB1.out) HD.out.rd hk (by omega) (by have := HS.out; omega) hq1 hq2)
        go_wp2_with (fail)
        refine HP.out.mono ?_
        rintro e w2 ⟨v2, rfl, g2, cap2, bs2, rfl, hcap2, hM2⟩
        obtain ⟨⟨cs2, hm1', hm2⟩, hm3, hm4, hm5, hm6⟩ := hM2
        obtain ⟨Dr, Dc, hDk⟩ := HD.out.over hm6
        obtain ⟨hD1, hD2⟩ := hDk w2 (Chg.refl _ _)
        have hB2 : w.heap.size + 1 < w1.heap.size := by
          have h1 := (Array.getElem?_eq_some_iff.1 HT.out.two).1
          have h2 := HB1.out.size
          omega
        have HX1 := Lib.hid (show ((List.range k).map fun i => Value.slice (Dr i) q (Dc i)).length = k * 1 by simp)
        have HX2 := Lib.hid (show (rowVals m q bs2 cs2).length = m * 1 by rw [rowVals_len, Nat.mul_one])
        have HX3 := Lib.hid (show k < k + m by omega)
        have HX4 := Lib.hid (show k + m ≤ maxLen by have := HS.out; unfold maxLen; omega)
        have HX5 := Lib.hid (show (k + m) * 24 ≤ 140737488355328 by have := HS.out; omega)
        have HU1 := Lib.hid (show ∀ b : Addr, some a1 = some b → ∀ j u, ((List.range k).map fun i => Value.slice (Dr i) q (Dc i))[j]? = some u → w2.cell? (b.add j) = some u from fun b e j u hj => by
          injection e with e
          subst e
          have hl : j < k := by
            have := (List.getElem?_eq_some_iff.1 hj).1
            simpa using this
          rw [List.getElem?_map, List.getElem?_range hl] at hj
          injection hj with hj
          obtain ⟨pb, e, hc⟩ := hD1.at_ hl
          injection e with e
          subst e
          rw [← hj]; exact hc)
        have HP1 := Lib.hid (show ∀ j u, (rowVals m q bs2 cs2)[j]? = some u → w2.cell? ((⟨g2, 0, none⟩ : Addr).add j) = some u from fun j u hj => by
          have hl : j < m := by
            have := (List.getElem?_eq_some_iff.1 hj).1
            rwa [rowVals_len] at this
          rw [rowVals_at hl] at hj
          injection hj with hj
          rw [← hj, add_plain]; exact hm1'.cell hl)
        have HMORE2 : Hid (∀ v5 w5, w5.ownsRow w2.heap.size 22 1 v5 (k + m) (((List.range k).map fun i => Value.slice (Dr i) q (Dc i)) ++ rowVals m q bs2 cs2) → w2.grownBy w5 none → ∃ g5 c5, v5 = .slice (some ⟨g5, 0, none⟩) s c5 ∧ Kept w.heap.size w5 (some ⟨g5, 0, none⟩) s (fun _ => q) (bothF D (timesF (cauE k) D k) k) ∧ Below W.heap.size W w5) := Lib.hid (fun v5 w5 ho hg => by
          have hb5 : Below w2.heap.size w2 w5 := ⟨hg.os, hg.tape, hg.output, hg.size, fun i hi => hg.block i hi (by simp)⟩
          obtain ⟨A5, c5, rfl, _⟩ := own_form ho
          have hsz := hm6.size
          have hk := Kept.both (B := w.heap.size) (fun wr hr i hi => (hDk wr hr).2 i hi) hm2 (fun i hi => by have := hm4 i hi; omega) hb5 (by omega) (by omega) ho
          obtain ⟨g5, cap5, hv, _⟩ := ho.form (by omega)
          injection hv with hA
          subst hA
          have b1 := below_then HB1.out HB1.out.size hm6
          exact ⟨g5, c5, by rw [HS.out], by rw [HS.out]; exact hk, below_then b1 b1.size hb5⟩)
        clear hm1' hm2 hm3 hm4 hm5 hm6 hD1 hD2 hDk hB2 HP
        go_wp2_with (fail)
        refine (clip_c (some a1) k cc1 _ hcc1).mono ?_
        rintro e w2' ⟨rfl, rfl⟩
        go_wp2_with (first | (at_builtin; refine wpList_append_grows _ rfl (.tmp 33) (.tmp 34) 28 rfl 22 i56 (.slice none 0 0) 1 24 Try.underlying28 hi hz0 hz1 hz2 rfl (by decide) (some a1) k k ((List.range k).map fun i => Value.slice (Dr i) q (Dc i)) (by rfl) (fun h => by cases h) HX1.out HU1.out ⟨g2, 0, none⟩ m cap2 (rowVals m q bs2 cs2) (by rfl) HX2.out HP1.out (rowVals_one _ _ _ _) HX3.out HX4.out HX5.out ?_; intro v5 wq hown5 hg5; obtain ⟨g5, c5, hv5, hk5, hb5⟩ := HMORE2.out v5 wq hown5 hg5; subst hv5; have HKE := Lib.hid hk5; have HBQ := Lib.hid hb5; clear hown5 hg5 hk5 hb5))
        have HTQ := Lib.hid (HT.out.over HBQ.out)
        have HLEN0 : Hid (s = s) := Lib.hid rfl
        have hwq : w.heap.size + 1 < wq.heap.size := by have := (Array.getElem?_eq_some_iff.1 HTQ.out.two).1; exact this
        have HST : Hid (RepR w wq wq 0 q (.slice none 0 0) (fun _ => none) (fun _ => 0) (repF L G D k)) := Lib.hid ⟨World.ownsRow_nil _ _ _ _, fun x hx => absurd hx (Nat.not_lt_zero _), fun x y hx => absurd hx (Nat.not_lt_zero _), HTQ.out, Chg.refl _ _⟩
        have lk0 : 1 ≤ s := by omega
        have HKA := Lib.hid (show Kept w.heap.size wq A s L G from HKW.out.over HBQ.out)
        go_loopg [37] s (fun kq v37 wr => ∃ i : Nat, i + kq = s ∧ v37 = .int .i64 (i : Int) ∧ ∃ A0 c0 As cs, Hid (RepR w wq wr i q (.slice A0 i c0) As cs (repF L G D k)))
        case atStart => exact ⟨0, by omega, rfl, none, 0, _, _, HST⟩
        case round =>
          clear HST
          obtain ⟨i, hi0, rfl, A0, c0, As, cs, HI⟩ := hrel
          have HSL := HLEN0.out
          obtain ⟨Er, Ec, hE⟩ := HKE.out
          obtain ⟨Ar, Cr, hA⟩ := HKA.out
          obtain ⟨hE1, hE2⟩ := hE wr HI.out.chg
          obtain ⟨hA1, hA2⟩ := hA wr HI.out.chg
          have p1 := HI.out.two.cell1
          have p2 := HI.out.two.cell2
          have z1 := HI.out.two.frz1
          have z2 := HI.out.two.frz2
          by_cases hlt : i < s
          · obtain ⟨ea, he, f1⟩ := hE1.at_ hlt
            injection he with he
            subst he
            rw [add_plain] at f1
            obtain ⟨sa, rfl, f2⟩ := hA1.at_ (show i < s by omega)
            have i1 : (i : Int) < (s : Int) := by omega
            have i2 : (i : Int) < (s : Int) := by omega
            have i0 : (0 : Int) ≤ (i : Int) := by omega
            have hl1 := HL.out i (show i < s by omega)
            by_cases h0 : L i = 0
            · have d1 : ((L i : Nat) : Int) ≤ 0 := by omega
              have HROW := Lib.hid (show RdB wr.drew (Er i) q (repF L G D k i) from by
                have h := (hE2 i hlt).2
                have e : repF L G D k i = bothF D (timesF (cauE k) D k) k i := by unfold repF bothF; rw [if_neg (by omega)]
                rw [e]; exact h)
              clear hE1 hE2 hA1 hA2 hE hA h0 hl1 HSL
              have H0 := Lib.hid (show RepR w wq wr.drew i q (.slice A0 i c0) As cs (repF L G D k) from ⟨own_below HI.out.own (below_drewN (Below.refl _ _) 1), fun x hx => by obtain ⟨h1, b, h2, h3, h4⟩ := HI.out.rows x hx; exact ⟨h1, b, h2, h3, h4.below (below_drewN (Below.refl _ _) 1)⟩, HI.out.inj, HI.out.two.over (below_drewN (Below.refl _ _) 1), HI.out.chg.drewN 1⟩)
              have HMORE : Hid (∀ w3 A3 c3 v4 w4, Below wr.drew.heap.size wr.drew w3 → w3.ownsRow wr.drew.heap.size 5 1 (.slice A3 q c3) q (newsB q (repF L G D k i)) → w4.ownsRow wq.heap.size 22 1 v4 (i + 1) ((List.range i).map (fun x => Value.slice (As x) q (cs x)) ++ [.slice A3 q c3]) → (w3.alloc (.cells #[.slice A3 q c3] 22)).grownBy w4 (Value.slice A0 i c0).ownBlock →
                  ∃ A4 c4, v4 = .slice A4 (i + 1) c4 ∧ (∃ As' cs', RepR w wq (w4.setCell ⟨w.heap.size, 0, none⟩ (.slice A4 (i + 1) c4)) (i + 1) q (.slice A4 (i + 1) c4) As' cs' (repF L G D k)) ∧ w4.cell? ⟨w.heap.size, 0, none⟩ = some (.slice A0 i c0) ∧ w4.frozen? ⟨w.heap.size, 0, none⟩ = false) := Lib.hid (fun w3 A3 c3 v4 w4 hb3 ho3 hown4 hg4 => by
                obtain ⟨A4, c4, rfl, _⟩ := own_form hown4
                have hT3 := (H0.out.two.over hb3).over (box_below w3 (.cells #[.slice A3 q c3] 22))
                have hO3 := (own_below H0.out.own hb3).alloc (.cells #[.slice A3 q c3] 22)
                have hT4 := hT3.grown hg4 (blk_ne_own hO3 hT3.one (by decide)) (blk_ne_own hO3 hT3.two (by decide)) (fun g hg' => by have := own_base H0.out.own g hg'; omega)
                exact ⟨A4, c4, rfl, H0.out.step (by omega) hwq hb3 ho3 hown4 hg4, hT4.cell1, hT4.frz1⟩)
              have HX3 := Lib.hid (show i + 1 ≤ maxLen by unfold maxLen; omega)
              have HX5 := Lib.hid (show (i + 1) * 24 ≤ 140737488355328 by omega)
              have HX6 : Hid (∀ w3, Below wr.drew.heap.size wr.drew w3 → ∀ o, wq.heap.size ≤ (w3.alloc o).heap.size) := Lib.hid (fun w3 hb o => by have := H0.out.chg.size; have := hb.size; simp; omega)
              clear HI p2 z1 z2
              go_wp2_with (fail)
              refine wp_region_noPanic ?_
              go_region_law (first | (refine step_append_lies _ (by rfl) (.tmp 52) (.tmp 55) 28 (by rfl) wq.heap.size 22 i56 (.slice none 0 0) 1 24 Try.underlying28 hi hz0 hz1 hz2 rfl (by decide) (.slice A0 i c0) i _ (by rfl) ((own_below H0.out.own hb3.out).alloc _) ⟨w3.heap.size, 0, none⟩ 1 1 [.slice A3 q c3] (by rfl) rfl (one_news _ _ _ rfl) (one_one _ rfl) (by decide) HX3.out HX5.out (HX6.out w3 hb3.out _) _ rfl ?_; intro g4 c4 w4 hown4 hg4 hz1 hz2; clear hz1 hz2; obtain ⟨A4, c4', hv4, hn4, p1', z1'⟩ := HMORE.out w3 A3 c3 _ w4 hb3.out ho3.out hown4 hg4; have HN := Lib.hid hn4; clear hn4 hown4 hg4) | (go_simp; go_at_call 37; refine (clone_c (Er i) q (Ec i) (repF L G D k i) _ HROW.out hq2).mono ?_; rintro e w3 ⟨v3, rfl, ho3, hb3⟩; obtain ⟨A3, c3, rfl, _⟩ := own_form ho3; have q1 := cell_below hb3 p1; have q2 := fun o => cell_below (box_below w3 o) q1; replace ho3 := Lib.hid ho3; replace hb3 := Lib.hid hb3))
              all_goals refine NoPanic.normal ?_
              all_goals obtain ⟨As', cs', hN⟩ := HN.out
              all_goals replace hN := Lib.hid hN
              all_goals clear HN
              all_goals go_wp2_with (fail)
              all_goals go_roundg (s - (i + 1))
              all_goals first | exact ⟨i + 1, by omega, by go_num, _, _, As', cs', hN⟩ | omega
            · rcases hl1 with h | hl1
              · exact absurd h h0
              rw [hl1] at f2
              have d1 : (0 : Int) < (q : Int) := by omega
              have HROW := Lib.hid (show RdB wr.drew (Ar i) q (repF L G D k i) from by
                have h := (hA2 i (by omega)).2
                have e : repF L G D k i = G i := by unfold repF; rw [if_pos (by omega)]
                rw [hl1] at h
                rw [e]; exact h)
              clear hE1 hE2 hA1 hA2 hE hA h0 hl1 HSL
              have H0 := Lib.hid (show RepR w wq wr.drew i q (.slice A0 i c0) As cs (repF L G D k) from ⟨own_below HI.out.own (below_drewN (Below.refl _ _) 1), fun x hx => by obtain ⟨h1, b, h2, h3, h4⟩ := HI.out.rows x hx; exact ⟨h1, b, h2, h3, h4.below (below_drewN (Below.refl _ _) 1)⟩, HI.out.inj, HI.out.two.over (below_drewN (Below.refl _ _) 1), HI.out.chg.drewN 1⟩)
              have HMORE : Hid (∀ w3 A3 c3 v4 w4, Below wr.drew.heap.size wr.drew w3 → w3.ownsRow wr.drew.heap.size 5 1 (.slice A3 q c3) q (newsB q (repF L G D k i)) → w4.ownsRow wq.heap.size 22 1 v4 (i + 1) ((List.range i).map (fun x => Value.slice (As x) q (cs x)) ++ [.slice A3 q c3]) → (w3.alloc (.cells #[.slice A3 q c3] 22)).grownBy w4 (Value.slice A0 i c0).ownBlock →
                  ∃ A4 c4, v4 = .slice A4 (i + 1) c4 ∧ (∃ As' cs', RepR w wq (w4.setCell ⟨w.heap.size, 0, none⟩ (.slice A4 (i + 1) c4)) (i + 1) q (.slice A4 (i + 1) c4) As' cs' (repF L G D k)) ∧ w4.cell? ⟨w.heap.size, 0, none⟩ = some (.slice A0 i c0) ∧ w4.frozen? ⟨w.heap.size, 0, none⟩ = false) := Lib.hid (fun w3 A3 c3 v4 w4 hb3 ho3 hown4 hg4 => by
                obtain ⟨A4, c4, rfl, _⟩ := own_form hown4
                have hT3 := (H0.out.two.over hb3).over (box_below w3 (.cells #[.slice A3 q c3] 22))
                have hO3 := (own_below H0.out.own hb3).alloc (.cells #[.slice A3 q c3] 22)
                have hT4 := hT3.grown hg4 (blk_ne_own hO3 hT3.one (by decide)) (blk_ne_own hO3 hT3.two (by decide)) (fun g hg' => by have := own_base H0.out.own g hg'; omega)
                exact ⟨A4, c4, rfl, H0.out.step (by omega) hwq hb3 ho3 hown4 hg4, hT4.cell1, hT4.frz1⟩)
              have HX3 := Lib.hid (show i + 1 ≤ maxLen by unfold maxLen; omega)
              have HX5 := Lib.hid (show (i + 1) * 24 ≤ 140737488355328 by omega)
              have HX6 : Hid (∀ w3, Below wr.drew.heap.size wr.drew w3 → ∀ o, wq.heap.size ≤ (w3.alloc o).heap.size) := Lib.hid (fun w3 hb o => by have := H0.out.chg.size; have := hb.size; simp; omega)
              clear HI p2 z1 z2
              go_wp2_with (fail)
              refine wp_region_noPanic ?_
              go_region_law (first | (refine step_append_lies _ (by rfl) (.tmp 52) (.tmp 55) 28 (by rfl) wq.heap.size 22 i56 (.slice none 0 0) 1 24 Try.underlying28 hi hz0 hz1 hz2 rfl (by decide) (.slice A0 i c0) i _ (by rfl) ((own_below H0.out.own hb3.out).alloc _) ⟨w3.heap.size, 0, none⟩ 1 1 [.slice A3 q c3] (by rfl) rfl (one_news _ _ _ rfl) (one_one _ rfl) (by decide) HX3.out HX5.out (HX6.out w3 hb3.out _) _ rfl ?_; intro g4 c4 w4 hown4 hg4 hz1 hz2; clear hz1 hz2; obtain ⟨A4, c4', hv4, hn4, p1', z1'⟩ := HMORE.out w3 A3 c3 _ w4 hb3.out ho3.out hown4 hg4; have HN := Lib.hid hn4; clear hn4 hown4 hg4) | (go_simp; go_at_call 37; refine (clone_c (Ar i) q (Cr i) (repF L G D k i) _ HROW.out hq2).mono ?_; rintro e w3 ⟨v3, rfl, ho3, hb3⟩; obtain ⟨A3, c3, rfl, _⟩ := own_form ho3; have q1 := cell_below hb3 p1; have q2 := fun o => cell_below (box_below w3 o) q1; replace ho3 := Lib.hid ho3; replace hb3 := Lib.hid hb3))
              all_goals refine NoPanic.normal ?_
              all_goals obtain ⟨As', cs', hN⟩ := HN.out
              all_goals replace hN := Lib.hid hN
              all_goals clear HN
              all_goals go_wp2_with (fail)
              all_goals go_roundg (s - (i + 1))
              all_goals first | exact ⟨i + 1, by omega, by go_num, _, _, As', cs', hN⟩ | omega
          · obtain rfl : s = i := by omega
            have hT3 := Lib.hid ((HI.out.two.set1 (.slice A0 s c0)).set2 (.int .i64 0))
            obtain ⟨g, cap, bs, hv, hcap, hM, hg, hbs, hinj⟩ := HI.out.new (by omega) hwq
            have hM2 := (hM.far (a := ⟨w.heap.size, 0, none⟩) HI.out.two.one (by decide) (by decide) (.slice A0 s c0)).far (a := ⟨w.heap.size + 1, 0, none⟩) (HI.out.two.set1 _).two (by decide) (by decide) (.int .i64 0)
            injection hv with hvA hvn hvc
            subst hvA
            subst hvc
            have HFIN := Lib.hid (show NewMat w _ (.slice (some ⟨g, 0, none⟩) s c0) s q (repF L G D k) from ⟨g, c0, bs, rfl, hcap, hM2, by omega, fun i hi => by have := hbs i hi; omega, hinj, hT3.out.below⟩)
            clear hM hM2 hinj hE1 hE2 hA1 hA2 hE hA hbs HI
            replace HSL := Lib.hid HSL
            go_wp2
            refine two_ret hT3.out (fun W h1 h2 => by simp [results, Try.results11, go_sem, h1, h2]) (.inr ⟨HLEN.out, _, rfl, D, HWD.out, HFIN.out⟩)
  · cases h
end Go.Proofs.Ytccfnhocjiehnaa
