/- The document's Repair. -/
import Derived.Test.YtccfnhocjiehnaaDocDec
import Derived.Test.YtccfnhocjiehnaaRepair
namespace Go.Proofs.Ytccfnhocjiehnaa
open Go.RowKit
set_option linter.unusedVariables false
set_option linter.unusedSimpArgs false

/-- Rows of all sorts behind one another. -/
structure MixR (w wr : World) (i : Nat) (A : Option Addr) (c : Nat) (Xr Xc : Nat → Nat) (q : Nat) (F : Nat → Nat → Gf.E) : Prop where
  own : wr.ownsRow w.heap.size 22 1 (.slice A i c) i ((List.range i).map fun x => .slice (some ⟨Xr x, 0, none⟩) q (Xc x))
  rows : ∀ x, x < i → q ≤ Xc x ∧ RowAt wr (Xr x) 5 q (fun y => vb (F x y))
  below : Below w.heap.size w wr
theorem MixR.ownUp {w wr w2 : World} {i : Nat} {A : Option Addr} {c : Nat} {Xr Xc : Nat → Nat} {q : Nat} {F : Nat → Nat → Gf.E} (h : MixR w wr i A c Xr Xc q F) (hb : Below wr.heap.size wr w2) (o : Obj) :
    (w2.alloc o).ownsRow w.heap.size 22 1 (.slice A i c) i ((List.range i).map fun x => .slice (some ⟨Xr x, 0, none⟩) q (Xc x)) := (own_below h.own hb).alloc o
theorem MixR.step {w wr w2 w4 : World} {i : Nat} {A : Option Addr} {c g c2 : Nat} {Xr Xc : Nat → Nat} {q : Nat} {F : Nat → Nat → Gf.E} {v : Value} {o : Obj} (h : MixR w wr i A c Xr Xc q F) (hb : Below wr.heap.size wr w2)
    (hrow : q ≤ c2 ∧ RowAt w2 g 5 q (fun y => vb (F i y))) (hown : w4.ownsRow w.heap.size 22 1 v (i + 1) (((List.range i).map fun x => Value.slice (some ⟨Xr x, 0, none⟩) q (Xc x)) ++ [.slice (some ⟨g, 0, none⟩) q c2]))
    (hg : (w2.alloc o).grownBy w4 (Value.slice A i c).ownBlock) : ∃ A' c' Xr' Xc', v = .slice A' (i + 1) c' ∧ MixR w w4 (i + 1) A' c' Xr' Xc' q F := by
  obtain ⟨A', c', rfl, _⟩ := own_form hown
  have hup := h.ownUp hb o
  have keep : ∀ {b n : Nat} {f : Nat → Value}, RowAt w2 b 5 n f → RowAt w4 b 5 n f := fun hr => (hr.alloc o).grown hg (own_typed hup (hr.alloc o) (by decide))
  refine ⟨A', c', fun x => if x = i then g else Xr x, fun x => if x = i then c2 else Xc x, rfl, ?_, fun x hx => ?_, ((below_then h.below h.below.size hb).alloc (Nat.le_trans h.below.size hb.size) o).grown hg (by have := h.below.size; have := hb.size; simp; omega) (own_base h.own)⟩
  · rw [List.range_succ, List.map_append]
    have e1 : (List.range i).map (fun x => Value.slice (some ⟨if x = i then g else Xr x, 0, none⟩) q (if x = i then c2 else Xc x)) = (List.range i).map (fun x => Value.slice (some ⟨Xr x, 0, none⟩) q (Xc x)) :=
      List.map_congr_left (fun x hx => by have := List.mem_range.1 hx; rw [if_neg (show ¬ x = i by omega), if_neg (show ¬ x = i by omega)])
    rw [e1]
    simpa using hown
  · by_cases e : x = i
    · subst e
      simp only [if_true]
      exact ⟨hrow.1, keep hrow.2⟩
    · simp only [if_neg e]
      exact ⟨(h.rows x (by omega)).1, keep ((h.rows x (by omega)).2.below hb)⟩
theorem MixR.rd {w wr : World} {i : Nat} {A : Option Addr} {c : Nat} {Xr Xc : Nat → Nat} {q : Nat} {F : Nat → Nat → Gf.E} (h : MixR w wr i A c Xr Xc q F) : RdM wr A i (fun _ => q) F :=
  ⟨fun x => some ⟨Xr x, 0, none⟩, Xc, RdF.of_own h.own (f := fun x => .slice (some ⟨Xr x, 0, none⟩) q (Xc x)) (fun j hj => by rw [List.getElem?_map, List.getElem?_range hj]; rfl), fun x hx => ⟨(h.rows x hx).1, (h.rows x hx).2.rd⟩⟩
/-- What Repair tells. -/
def RepP (L : Nat → Nat) (G : Nat → Nat → Gf.E) (k m s : Nat) (w : World) (e : Ending) (w' : World) : Prop :=
  (alikeB s (k + m) L = false ∧ e = .returned (.tuple #[.slice none 0 0, .int .i64 1]) ∧ Below w.heap.size w w') ∨
  (alikeB s (k + m) L = true ∧ (((presTo L s).length < k ∧ e = .returned (.tuple #[.slice none 0 0, .int .i64 16]) ∧ Below w.heap.size w w') ∨
    (k ≤ (presTo L s).length ∧ ∃ A c D, e = .returned (.tuple #[.slice A s c, .int .i64 0]) ∧ DocD L G k s D ∧ RdM w' A s (fun _ => maxL L s) (repF L G D k) ∧ Below w.heap.size w w')))

set_option maxRecDepth 100000 in
set_option maxHeartbeats 16000000 in
theorem docrepair_c (b k m s : Nat) (A : Option Addr) (c : Nat) (L : Nat → Nat) (G : Nat → Nat → Gf.E) (w : World) (hc : DocR w b k m) (hk : 1 ≤ k) (hkm : k + m ≤ 255) (ha : RdM w A s L G) (hs : s ≤ 1048576) (hl : ∀ i, i < s → L i ≤ 1048576) :
    Calls Try.prog 24 #[.pointer (some ⟨b, 0, none⟩), .slice A s c] w fun e w' => RepP L G k m s w e w' := by
  obtain ⟨i56, hi, hz0, hz1, hz2⟩ := info_parts info56
  have HTH := Lib.hid (there_c b k m s A c L G w hc hkm ha hs hl)
  have HC := Lib.hid hc
  have HA := Lib.hid ha
  have HL := Lib.hid hl
  have k1 : (1 : Int) ≤ (k : Int) := by omega
  clear hc ha hl
  go_enter Try.func24, Try.ntmps24
  go_wp2_with (fail)
  refine HTH.out.mono ?_
  rintro e w1 (⟨hf, rfl, hb1⟩ | ⟨ht, A', c', rfl, hcc, hF, hb1⟩)
  · have HF := Lib.hid hf
    have HB1 := Lib.hid hb1
    clear hf hb1 HTH
    go_wp2_with (fail)
    go_ret2
    exact .inl ⟨HF.out, rfl, HB1.out⟩
  · have HT := Lib.hid ht
    have HB1 := Lib.hid hb1
    have HFF := Lib.hid hF
    have c1 := (HC.out.below hb1).1
    have hal := of_decide_eq_true ht
    have hsk : s = k + m := hal.1
    obtain ⟨q, hq⟩ : ∃ q, q = maxL L s := ⟨_, rfl⟩
    have hlq : ∀ i, i < s → L i = 0 ∨ L i = q := fun i hi => by rw [hq]; exact hal.2 i hi
    have hq2 : q ≤ 1048576 := by
      rcases maxL_is L s with h0 | ⟨j, hj, he⟩
      · omega
      · have := HL.out j hj; omega
    have HQ := Lib.hid hq
    have HLQ := Lib.hid hlq
    have HSK := Lib.hid hsk
    have s255 : s ≤ 255 := by omega
    obtain ⟨l9, hl9⟩ : ∃ l9, l9 = (presTo L s).length := ⟨_, rfl⟩
    have HL9 := Lib.hid hl9
    rw [← hq, ← hl9]
    have l255 : l9 ≤ 255 := by
      have h1 := presTo_len L s
      omega
    clear ht hb1 hF hal hlq hq HTH hl9 hsk
    by_cases hfew : l9 < k
    · have d1 : (l9 : Int) < (k : Int) := by omega
      go_wp2_with (fail)
      go_ret2
      exact .inr ⟨HT.out, .inl ⟨by rw [← HL9.out]; exact hfew, rfl, HB1.out⟩⟩
    · have d1 : (k : Int) ≤ (l9 : Int) := by omega
      have hq1 : 1 ≤ q := by rw [HQ.out]; exact pres_pos (by rw [← HL9.out]; omega)
      have hda := docdata_c b k m s A c q L G A' c' w1 HSK.out (HC.out.below HB1.out) hk s255 (HA.out.below HB1.out) HLQ.out hq1 hq2 HFF.out (by rw [← HL9.out]; omega)
      rw [← HL9.out] at hda
      have HDA := Lib.hid hda
      have HKL := Lib.hid (show k ≤ (presTo L s).length by rw [← HL9.out]; omega)
      clear hda hfew
      go_wp2_with (fail)
      refine HDA.out.mono ?_
      rintro e w2 ⟨v, As, cs, w0, AA, O', rfl, hg, hbb, hC⟩
      obtain ⟨D, hD⟩ : ∃ D, D = timesF O' (fun a => G (rowN L k s a)) k := ⟨_, rfl⟩
      rw [← hD] at hC
      have HDD := Lib.hid (show DocD L G k s D from ⟨AA, O', hg, hD⟩)
      obtain ⟨Ad, cd, rfl, hcd, hR⟩ := hC.rd
      have hN := NewMat.lower (hC.new (m := q) (by omega) (by omega) (fun _ _ => rfl)) hbb
      obtain ⟨g, cap, bs, hv, hN⟩ := hN
      injection hv with hA hkk hcc2
      subst hA hcc2
      have HB2 := Lib.hid (below_then HB1.out HB1.out.size (below_then hbb hbb.size hC.below))
      have HCC := Lib.hid hC
      have HMD := Lib.hid hN.2.1
      have HB0 := Lib.hid hbb
      have c1 := (HC.out.below HB2.out).1
      have HPX := Lib.hid (fun (hm : m = 0) => docpar_zero b k (.slice (some ⟨g, 0, none⟩) k cd) w2 (by have := HC.out.below HB2.out; rwa [hm] at this))
      have HPY := Lib.hid (fun (hm : ¬ m = 0) => docpar_new b k m (some ⟨g, 0, none⟩) cd q D w2 (HC.out.below HB2.out) hk (by omega) hkm hR hq1 hq2)
      clear hg hbb hC hD hN hR hcd HDA
      by_cases hm : m = 0
      · have HP := Lib.hid (HPX.out hm)
        have HS0 : Hid (s = k) := Lib.hid (by have := HSK.out; omega)
        clear hm HPX HPY
        go_wp2_with (fail)
        refine HP.out.mono ?_
        rintro e w3 ⟨rfl, rfl⟩
        have hap := run_append_none' (P := Try.prog) (w := w2) w0.heap.size 0 28 28 22 i56 1 Try.underlying28 hi _ k _ HCC.out.own
        go_wp2_with (at_builtin; refine Lib.wpList_append_run _ rfl _ _ _ _ rfl _ _ rfl rfl _ _ hap ?_)
        have HM4 := Lib.hid (show MatAt w2 g s q bs (bothF D (timesF (cauE k) D k) k) from by
          rw [HS0.out]
          obtain ⟨cx, h1, h2⟩ := HMD.out
          exact ⟨cx, h1, fun i hi => ⟨(h2 i hi).1, (h2 i hi).2.congr (fun j hj => by unfold bothF; rw [if_pos hi])⟩⟩)
        have HN9 := HS0
        have HB4 := HB2
        obtain ⟨w4, hw4⟩ : ∃ w4, w4 = w2 := ⟨_, rfl⟩
        subst hw4
        obtain ⟨g4, hg4⟩ : ∃ g4, g4 = g := ⟨_, rfl⟩
        clear hap HP HCC hg4
        have HST : Hid (MixR w4 w4 0 none 0 (fun _ => 0) (fun _ => 0) q (repF L G D k)) := Lib.hid ⟨World.ownsRow_nil _ _ _ _, fun x hx => absurd hx (Nat.not_lt_zero _), Below.refl _ _⟩
        go_loopg [10, 11] s (fun kq v10 v11 wr => ∃ (i : Nat) (A10 : Option Addr) (c10 : Nat), i + kq = s ∧ v11 = .int .i64 (i : Int) ∧ v10 = .slice A10 i c10 ∧ ∃ Xr Xc, Hid (MixR w4 wr i A10 c10 Xr Xc q (repF L G D k)))
        case atStart => exact ⟨0, none, 0, by omega, rfl, rfl, _, _, HST⟩
        case round =>
          clear HST
          obtain ⟨i, A10, c10, hi0, rfl, rfl, Xr, Xc, HI⟩ := hrel
          by_cases hlt : i < s
          · have i1 : (i : Int) < (s : Int) := by omega
            have i0 : (0 : Int) ≤ (i : Int) := by omega
            have i3 : (i : Int) < (k : Int) := by have := HN9.out; omega
            obtain ⟨Ar, Cr, ha1, ha2⟩ := (HA.out.below HB4.out).below HI.out.below
            obtain ⟨ad, rfl, f1⟩ := ha1.at_ hlt
            have hq3 := HLQ.out i hlt
            by_cases h0 : L i = 0
            · obtain ⟨cx, hx1, hx2⟩ := HM4.out.below HI.out.below
              have f2 := hx1.cell hlt
              have HROW := Lib.hid (show q ≤ cx i ∧ RowAt wr (bs i) 5 q (fun y => vb (repF L G D k i y)) from ⟨(hx2 i hlt).1, (hx2 i hlt).2.congr (fun j hj => by unfold bothF repF; rw [if_neg (show ¬ 0 < L i by omega)])⟩)
              have d2 : ((L i : Nat) : Int) ≤ 0 := by omega
              clear ha1 ha2 hx1 hx2 hq3 h0
              go_wp2_with (at_builtin; refine wpList_append_own _ rfl (.tmp 60) (.tmp 65) 28 rfl w4.heap.size 22 i56 (.slice none 0 0) 1 24 Try.underlying28 hi hz0 hz1 hz2 rfl (by decide) (.slice A10 i c10) i _ (by rfl) (HI.out.ownUp (Below.refl _ _) _) ⟨wr.heap.size, 0, none⟩ 1 1 [.slice (some ⟨bs i, 0, none⟩) q (cx i)] (by rfl) rfl (one_news _ _ _ rfl) (one_one _ rfl) (by unfold maxLen; omega) (by omega) (by have := HI.out.below.size; simp; omega) ?_; intro v7 w7 hown7 hg7 hz; clear hz; have HS7 := Lib.hid (HI.out.step (Below.refl _ _) HROW.out hown7 hg7); clear hown7 hg7)
              obtain ⟨A11, c11, Xr2, Xc2, hv, hS⟩ := HS7.out
              subst hv
              replace hS := Lib.hid hS
              clear HS7
              go_roundg (s - (i + 1))
              case measure => omega
              case rel => exact ⟨i + 1, A11, c11, by omega, by go_num, rfl, Xr2, Xc2, hS⟩
            · have hlq : L i = q := by omega
              have hrw := (ha2 i hlt).2
              rw [hlq] at f1 hrw
              have HROW := Lib.hid (show RdB (wr.alloc (.cells #[] 5)) (Ar i) q (repF L G D k i) from RdF.congr (RdF.below hrw (box_below wr _)) (fun j hj => by unfold repF; rw [if_pos (show 0 < L i by omega)]))
              have d2 : (0 : Int) < (q : Int) := by omega
              have f3 := cell_below (box_below wr (.cells #[] 5)) f1
              have HFIN : Hid (∀ v1 w1', w1'.ownsRow wr.heap.size 5 1 v1 (0 + q) ([] ++ newsB q (repF L G D k i)) → (wr.alloc (.cells #[] 5)).grownBy w1' (Value.slice (some ⟨wr.heap.size, 0, none⟩) 0 0).ownBlock → ∃ b1 c1', v1 = .slice (some ⟨b1, 0, none⟩) q c1' ∧ (q ≤ c1' ∧ RowAt w1' b1 5 q (fun y => vb (repF L G D k i y))) ∧ Below wr.heap.size wr w1') := Lib.hid (fun v1 w1' h1 h2 => by
                rw [Nat.zero_add, List.nil_append] at h1
                obtain ⟨b1, c1', rfl, hcap, hr, _⟩ := RowAt.of_own (f := fun y => vb (repF L G D k i y)) (show 0 < q by omega) h1 (fun j hj => newsB_at hj)
                exact ⟨b1, c1', rfl, ⟨hcap, hr⟩, (box_below wr _).grown h2 (by simp) (fun k hk => Nat.le_of_eq (by simpa [Value.ownBlock] using hk))⟩)
              clear ha1 ha2 hq3 h0 hlq hrw
              go_wp2_with (first | (at_builtin; refine wpList_append_row rfl (.tmp 52) (.tmp 56) rfl wr.heap.size (.slice (some ⟨wr.heap.size, 0, none⟩) 0 0) 0 [] (by rfl) (own_empty wr _) (Ar i) q (Cr i) (repF L G D k i) (by rfl) HROW.out (by omega) (by omega) (by simp) ?_; intro v1 w6 hown1 hgrow1; obtain ⟨b1, cb1, hv1, hr1, hb6⟩ := HFIN.out v1 w6 hown1 hgrow1; subst hv1; replace hr1 := Lib.hid hr1; replace hb6 := Lib.hid hb6; clear hown1 hgrow1) | (at_builtin; refine wpList_append_own _ rfl (.tmp 51) (.tmp 58) 28 rfl w4.heap.size 22 i56 (.slice none 0 0) 1 24 Try.underlying28 hi hz0 hz1 hz2 rfl (by decide) (.slice A10 i c10) i _ (by rfl) (HI.out.ownUp hb6.out _) ⟨w6.heap.size, 0, none⟩ 1 1 [.slice (some ⟨b1, 0, none⟩) q cb1] (by rfl) rfl (one_news _ _ _ rfl) (one_one _ rfl) (by unfold maxLen; omega) (by omega) (by have := HI.out.below.size; have := hb6.out.size; simp; omega) ?_; intro v7 w7 hown7 hg7 hz; clear hz; have HS7 := Lib.hid (HI.out.step hb6.out hr1.out hown7 hg7); clear hown7 hg7))
              obtain ⟨A11, c11, Xr2, Xc2, hv, hS⟩ := HS7.out
              subst hv
              replace hS := Lib.hid hS
              clear HS7
              go_roundg (s - (i + 1))
              case measure => omega
              case rel => exact ⟨i + 1, A11, c11, by omega, by go_num, rfl, Xr2, Xc2, hS⟩
          · obtain rfl : i = s := by omega
            go_wp2_with (fail)
            go_ret2
            exact .inr ⟨HT.out, .inr ⟨HKL.out, _, _, D, rfl, HDD.out, by rw [← HQ.out]; exact HI.out.rd, below_then HB4.out HB4.out.size HI.out.below⟩⟩
      · have HP := Lib.hid (HPY.out hm)
        clear hm HPX HPY
        go_wp2_with (fail)
        refine HP.out.mono ?_
        rintro e w3 ⟨v3, rfl, g3, cap3, bs3, rfl, hcap3, hM⟩
        obtain ⟨⟨cs3, hM1, hM2⟩, hM3, hM4, hM5, hM6⟩ := hM
        have HO := Lib.hid (own_below HCC.out.own hM6)
        have HNW := Lib.hid (show ∀ j u, (rowVals m q bs3 cs3)[j]? = some u → w3.cell? ((⟨g3, 0, none⟩ : Addr).add j) = some u from fun j u hj => by
          have hl : j < m := by
            have := (List.getElem?_eq_some_iff.1 hj).1
            rwa [rowVals_len] at this
          rw [rowVals_at hl] at hj
          injection hj with hj
          rw [← hj, add_plain]; exact hM1.cell hl)
        have hsz : w0.heap.size ≤ w3.heap.size := by have := HCC.out.below.size; have := hM6.size; omega
        have HX1 := Lib.hid (show (rowVals m q bs3 cs3).length = m * 1 by rw [rowVals_len, Nat.mul_one])
        have HX2 := Lib.hid (show k + m ≤ maxLen by unfold maxLen; omega)
        have HX3 := Lib.hid (show (k + m) * 24 ≤ 140737488355328 by omega)
        have MORE : Hid (∀ v4 w4, w4.ownsRow w0.heap.size 22 1 v4 (k + m) (((List.range k).map fun i => Value.slice (As i) q (cs i)) ++ rowVals m q bs3 cs3) → w3.grownBy w4 (Value.slice (some ⟨g, 0, none⟩) k cd).ownBlock → ∃ g4 c4 bs4, v4 = .slice (some ⟨g4, 0, none⟩) s c4 ∧ MatAt w4 g4 s q bs4 (bothF D (timesF (cauE k) D k) k) ∧ Below w.heap.size w w4) := Lib.hid (fun v4 w4 h1 h2 => by
          have hS := HCC.out.more hk hq1 hM2 hM4 hM5 hM6 h1 h2
          obtain ⟨g4, c4, bs4, rfl, _, hX, _, _, _, hbx⟩ := hS
          exact ⟨g4, c4, bs4, by rw [HSK.out], by rw [HSK.out]; exact hX, below_then HB1.out HB1.out.size (below_then HB0.out HB0.out.size hbx)⟩)
        clear hM1 hM2 hM3 hM4 hM5 hM6 HP
        go_wp2_with (at_builtin; refine wpList_append_own _ rfl (.tmp 34) (.tmp 37) 28 rfl w0.heap.size 22 i56 (.slice none 0 0) 1 24 Try.underlying28 hi hz0 hz1 hz2 rfl (by decide) (.slice (some ⟨g, 0, none⟩) k cd) k ((List.range k).map fun i => Value.slice (As i) q (cs i)) (by rfl) HO.out ⟨g3, 0, none⟩ m cap3 (rowVals m q bs3 cs3) (by rfl) HX1.out HNW.out (rowVals_one _ _ _ _) HX2.out HX3.out hsz ?_; intro v4 w4 hown4 hgrow4 hz; clear hz; obtain ⟨g4, c4, bs4, hv4, hM4, hB4⟩ := MORE.out v4 w4 hown4 hgrow4; subst hv4; have HM4 := Lib.hid hM4; have HB4 := Lib.hid hB4; clear hown4 hgrow4 hM4 hB4)
        clear MORE HO HNW HX1 HX2 HX3 hsz HCC
        have HN9 : Hid (s = s) := Lib.hid rfl
        have HST : Hid (MixR w4 w4 0 none 0 (fun _ => 0) (fun _ => 0) q (repF L G D k)) := Lib.hid ⟨World.ownsRow_nil _ _ _ _, fun x hx => absurd hx (Nat.not_lt_zero _), Below.refl _ _⟩
        go_loopg [10, 11] s (fun kq v10 v11 wr => ∃ (i : Nat) (A10 : Option Addr) (c10 : Nat), i + kq = s ∧ v11 = .int .i64 (i : Int) ∧ v10 = .slice A10 i c10 ∧ ∃ Xr Xc, Hid (MixR w4 wr i A10 c10 Xr Xc q (repF L G D k)))
        case atStart => exact ⟨0, none, 0, by omega, rfl, rfl, _, _, HST⟩
        case round =>
          clear HST
          obtain ⟨i, A10, c10, hi0, rfl, rfl, Xr, Xc, HI⟩ := hrel
          by_cases hlt : i < s
          · have i1 : (i : Int) < (s : Int) := by omega
            have i0 : (0 : Int) ≤ (i : Int) := by omega
            have i3 : (i : Int) < (s : Int) := by have := HN9.out; omega
            obtain ⟨Ar, Cr, ha1, ha2⟩ := (HA.out.below HB4.out).below HI.out.below
            obtain ⟨ad, rfl, f1⟩ := ha1.at_ hlt
            have hq3 := HLQ.out i hlt
            by_cases h0 : L i = 0
            · obtain ⟨cx, hx1, hx2⟩ := HM4.out.below HI.out.below
              have f2 := hx1.cell hlt
              have HROW := Lib.hid (show q ≤ cx i ∧ RowAt wr (bs4 i) 5 q (fun y => vb (repF L G D k i y)) from ⟨(hx2 i hlt).1, (hx2 i hlt).2.congr (fun j hj => by unfold bothF repF; rw [if_neg (show ¬ 0 < L i by omega)])⟩)
              have d2 : ((L i : Nat) : Int) ≤ 0 := by omega
              clear ha1 ha2 hx1 hx2 hq3 h0
              go_wp2_with (at_builtin; refine wpList_append_own _ rfl (.tmp 60) (.tmp 65) 28 rfl w4.heap.size 22 i56 (.slice none 0 0) 1 24 Try.underlying28 hi hz0 hz1 hz2 rfl (by decide) (.slice A10 i c10) i _ (by rfl) (HI.out.ownUp (Below.refl _ _) _) ⟨wr.heap.size, 0, none⟩ 1 1 [.slice (some ⟨bs4 i, 0, none⟩) q (cx i)] (by rfl) rfl (one_news _ _ _ rfl) (one_one _ rfl) (by unfold maxLen; omega) (by omega) (by have := HI.out.below.size; simp; omega) ?_; intro v7 w7 hown7 hg7 hz; clear hz; have HS7 := Lib.hid (HI.out.step (Below.refl _ _) HROW.out hown7 hg7); clear hown7 hg7)
              obtain ⟨A11, c11, Xr2, Xc2, hv, hS⟩ := HS7.out
              subst hv
              replace hS := Lib.hid hS
              clear HS7
              go_roundg (s - (i + 1))
              case measure => omega
              case rel => exact ⟨i + 1, A11, c11, by omega, by go_num, rfl, Xr2, Xc2, hS⟩
            · have hlq : L i = q := by omega
              have hrw := (ha2 i hlt).2
              rw [hlq] at f1 hrw
              have HROW := Lib.hid (show RdB (wr.alloc (.cells #[] 5)) (Ar i) q (repF L G D k i) from RdF.congr (RdF.below hrw (box_below wr _)) (fun j hj => by unfold repF; rw [if_pos (show 0 < L i by omega)]))
              have d2 : (0 : Int) < (q : Int) := by omega
              have f3 := cell_below (box_below wr (.cells #[] 5)) f1
              have HFIN : Hid (∀ v1 w1', w1'.ownsRow wr.heap.size 5 1 v1 (0 + q) ([] ++ newsB q (repF L G D k i)) → (wr.alloc (.cells #[] 5)).grownBy w1' (Value.slice (some ⟨wr.heap.size, 0, none⟩) 0 0).ownBlock → ∃ b1 c1', v1 = .slice (some ⟨b1, 0, none⟩) q c1' ∧ (q ≤ c1' ∧ RowAt w1' b1 5 q (fun y => vb (repF L G D k i y))) ∧ Below wr.heap.size wr w1') := Lib.hid (fun v1 w1' h1 h2 => by
                rw [Nat.zero_add, List.nil_append] at h1
                obtain ⟨b1, c1', rfl, hcap, hr, _⟩ := RowAt.of_own (f := fun y => vb (repF L G D k i y)) (show 0 < q by omega) h1 (fun j hj => newsB_at hj)
                exact ⟨b1, c1', rfl, ⟨hcap, hr⟩, (box_below wr _).grown h2 (by simp) (fun k hk => Nat.le_of_eq (by simpa [Value.ownBlock] using hk))⟩)
              clear ha1 ha2 hq3 h0 hlq hrw
              go_wp2_with (first | (at_builtin; refine wpList_append_row rfl (.tmp 52) (.tmp 56) rfl wr.heap.size (.slice (some ⟨wr.heap.size, 0, none⟩) 0 0) 0 [] (by rfl) (own_empty wr _) (Ar i) q (Cr i) (repF L G D k i) (by rfl) HROW.out (by omega) (by omega) (by simp) ?_; intro v1 w6 hown1 hgrow1; obtain ⟨b1, cb1, hv1, hr1, hb6⟩ := HFIN.out v1 w6 hown1 hgrow1; subst hv1; replace hr1 := Lib.hid hr1; replace hb6 := Lib.hid hb6; clear hown1 hgrow1) | (at_builtin; refine wpList_append_own _ rfl (.tmp 51) (.tmp 58) 28 rfl w4.heap.size 22 i56 (.slice none 0 0) 1 24 Try.underlying28 hi hz0 hz1 hz2 rfl (by decide) (.slice A10 i c10) i _ (by rfl) (HI.out.ownUp hb6.out _) ⟨w6.heap.size, 0, none⟩ 1 1 [.slice (some ⟨b1, 0, none⟩) q cb1] (by rfl) rfl (one_news _ _ _ rfl) (one_one _ rfl) (by unfold maxLen; omega) (by omega) (by have := HI.out.below.size; have := hb6.out.size; simp; omega) ?_; intro v7 w7 hown7 hg7 hz; clear hz; have HS7 := Lib.hid (HI.out.step hb6.out hr1.out hown7 hg7); clear hown7 hg7))
              obtain ⟨A11, c11, Xr2, Xc2, hv, hS⟩ := HS7.out
              subst hv
              replace hS := Lib.hid hS
              clear HS7
              go_roundg (s - (i + 1))
              case measure => omega
              case rel => exact ⟨i + 1, A11, c11, by omega, by go_num, rfl, Xr2, Xc2, hS⟩
          · obtain rfl : i = s := by omega
            go_wp2_with (fail)
            go_ret2
            exact .inr ⟨HT.out, .inr ⟨HKL.out, _, _, D, rfl, HDD.out, by rw [← HQ.out]; exact HI.out.rd, below_then HB4.out HB4.out.size HI.out.below⟩⟩
end Go.Proofs.Ytccfnhocjiehnaa
