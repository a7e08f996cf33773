/- The reference's Inverse. -/
import Derived.Test.YtccfnhocjiehnaaRefInvW
namespace Go.Proofs.Ytccfnhocjiehnaa
open Go.RowKit
set_option linter.unusedVariables false
set_option linter.unusedSimpArgs false

theorem OwnMat.over2 {w wr w1 : World} {g n m : Nat} {bs : Nat → Nat} {F : Mt} (h : OwnMat w wr g n m bs F) (hb : Below wr.heap.size wr w1) : OwnMat w w1 g n m bs F :=
  h.chg (Chg.of_below (S := fun _ => False) hb) (fun h => h) (fun _ _ h => h) (fun _ h => h.elim)
set_option maxRecDepth 100000 in
set_option maxHeartbeats 4000000 in
theorem rinverse_no (A : Option Addr) (n c : Nat) (L : Nat → Nat) (F : Mt) (w : World) (ha : RdM w A n L F) (hn : n ≤ 4611686018427387904) (hl : ∀ i, i < n → L i ≤ 4611686018427387904) (hf : rightB n L = false ∨ (rightB n L = true ∧ n ≠ L 0)) :
    Calls Try.prog 59 #[.slice A n c] w fun e w' => e = .returned (.tuple #[.slice none 0 0, .int .i64 1]) ∧ Below w.heap.size w w' := by
  have HR1 := Lib.hid (rright_c A n c L F w ha hn hl)
  rcases hf with hf | ⟨hf, hne⟩
  · rw [hf] at HR1
    clear ha hl hf
    go_enter Try.func59, Try.ntmps59
    go_wp2_with (first | (go_at_call 75; with_reducible refine HR1.out.mono ?_; rintro e w' ⟨rfl, hd⟩; obtain ⟨q, rfl⟩ := hd))
    go_ret2
    exact ⟨rfl, below_drewN (Below.refl _ _) _⟩
  · obtain ⟨Ar, Cr, hr, _⟩ := ha
    obtain ⟨p1, _⟩ := rightB_pos hf
    obtain ⟨ad, rfl, k3⟩ := hr.at_ (show 0 < n by omega)
    rw [show ad.add 0 = ad by simp [Addr.add]] at k3
    have n1 : (0 : Int) < (n : Int) := by omega
    have n2 : ((n : Int) != ((L 0 : Nat) : Int)) = true := by rw [bne_iff_ne]; omega
    rw [hf] at HR1
    clear hr hl hf hne
    go_enter Try.func59, Try.ntmps59
    go_wp2_with (first | (go_at_call 75; with_reducible refine HR1.out.mono ?_; rintro e w' ⟨rfl, hd⟩; obtain ⟨q, rfl⟩ := hd))
    go_ret2
    exact ⟨rfl, below_drewN (Below.refl _ _) _⟩

theorem elim_yes' {k i : Nat} {s : Mt × Mt} (h1 : i ≠ k) (h2 : (elimTo k i s).1 i k ≠ 0) : elimTo k (i + 1) s = (plusF (elimTo k i s).1 i k ((elimTo k i s).1 i k), plusF (elimTo k i s).2 i k ((elimTo k i s).1 i k)) := by
  show elim1 k i (elimTo k i s) = _
  exact if_pos ⟨h1, h2⟩
theorem elim_no' {k i : Nat} {s : Mt × Mt} (h : i = k ∨ (elimTo k i s).1 i k = 0) : elimTo k (i + 1) s = elimTo k i s := by
  show elim1 k i (elimTo k i s) = _
  refine if_neg (fun ⟨h1, h2⟩ => ?_)
  rcases h with h | h
  · exact h1 h
  · exact h2 h
theorem rinv_v (a : Gf.E) (w : World) : Calls Try.prog 74 #[.int .u8 (a.val : Int)] w fun e w' => e = .returned (.int .u8 ((Gf.inv a).val : Int)) ∧ w = w' := rinv_c a w
theorem rscale_v (b m c : Nat) (f : Nat → Gf.E) (x : Gf.E) (w : World) (hr : RowAt w b 5 m (fun j => vb (f j))) (hm : m ≤ 255) :
    Calls Try.prog 76 #[.slice (some ⟨b, 0, none⟩) m c, .int .u8 (x.val : Int)] w fun e w' => e = .returned (.tuple #[]) ∧ RowAt w' b 5 m (fun j => vb (Gf.mul (f j) x)) ∧ Chg (· = b) w w' := rscale_c b m c f x w hr hm
theorem rmix_v (b b2 m c c2 : Nat) (f g : Nat → Gf.E) (x : Gf.E) (w : World) (hr : RowAt w b 5 m (fun j => vb (f j))) (hr2 : RowAt w b2 5 m (fun j => vb (g j))) (hne : b ≠ b2) (hm : m ≤ 255) :
    Calls Try.prog 77 #[.slice (some ⟨b, 0, none⟩) m c, .slice (some ⟨b2, 0, none⟩) m c2, .int .u8 (x.val : Int)] w fun e w' => e = .returned (.tuple #[]) ∧ RowAt w' b 5 m (fun j => vb (Gf.add (f j) (Gf.mul (g j) x))) ∧ Chg (· = b) w w' := rmix_c b b2 m c c2 f g x w hr hr2 hne hm

set_option maxRecDepth 100000 in
set_option maxHeartbeats 16000000 in
theorem rinverse_yes (A : Option Addr) (n c : Nat) (L : Nat → Nat) (F : Mt) (w : World) (ha : RdM w A n L F) (hn : n ≤ 4611686018427387904) (hl : ∀ i, i < n → L i ≤ 4611686018427387904) (hf : rightB n L = true) (heq : n = L 0) :
    Calls Try.prog 59 #[.slice A n c] w fun e w' => ∃ v, (∃ A' O', gjTo n F n = some (A', O') ∧ e = .returned (.tuple #[v, .int .i64 0]) ∧ NewMat w w' v n n O') ∨ (gjTo n F n = none ∧ e = .returned (.tuple #[.slice none 0 0, .int .i64 17]) ∧ Below w.heap.size w w') := by
  have HM := Lib.hid ha
  have HR1 := Lib.hid (rright_c A n c L F w ha hn hl)
  rw [hf] at HR1
  obtain ⟨p1, p2, p3, p4, p5⟩ := rightB_pos hf
  have P5 : Hid (∀ i, i < n → L i = n) := Lib.hid (fun i hi => by rw [p5 i hi]; exact heq.symm)
  obtain ⟨Ar, Cr, hr, _⟩ := ha
  obtain ⟨ad, rfl, k3⟩ := hr.at_ (show 0 < n by omega)
  rw [show ad.add 0 = ad by simp [Addr.add]] at k3
  have n1 : (0 : Int) < (n : Int) := by omega
  have n2 : ((n : Int) != ((L 0 : Nat) : Int)) = false := by rw [bne_eq_false_iff_eq]; omega
  obtain ⟨i56, hi, hz0, hz1, hz2⟩ := info_parts info56
  clear hr hl hf heq p5
  go_enter Try.func59, Try.ntmps59
  go_wp2_with (first | (go_at_call 75; with_reducible refine HR1.out.mono ?_; rintro e w' ⟨rfl, hd⟩; obtain ⟨q, rfl⟩ := hd))
  have HI := Lib.hid (show ∃ As cs, CopyR w (w.drewN q) 0 (.slice none 0 0) As cs L F from ⟨_, _, CopyR.start w (w.drewN q) L F (below_drewN (Below.refl _ _) q)⟩)
  clear k3 HR1 n2
  go_loopg [5, 6] n (fun kq v5 v6 wr => ∃ k : Nat, k + kq = n ∧ v6 = .int .i64 (k : Int) ∧ Hid (∃ As cs, CopyR w wr k v5 As cs L F))
  case atStart => exact ⟨0, by omega, rfl, HI⟩
  case round =>
    clear HI
    obtain ⟨k, hk, rfl, HI⟩ := hrel
    obtain ⟨As, cs, hC⟩ := HI.out
    have HC := Lib.hid hC
    clear hC HI
    by_cases hlt : k < n
    · have r0 : (k : Int) < (n : Int) := by omega
      have r00 : (0 : Int) ≤ (k : Int) := by omega
      obtain ⟨Ar, Cr, hr, hrow⟩ := HM.out.below HC.out.below
      obtain ⟨ax, hax, hcq⟩ := hr.at_ hlt
      injection hax with hax
      subst hax
      have HROW := Lib.hid (hrow k hlt).2
      have HLQ := Lib.hid (P5.out k hlt)
      have hcq' := cell_below (box_below wr (.cells #[] 5)) hcq
      clear hr hrow hcq
      go_wp2_with (first | (at_builtin; refine wpList_append_row rfl (.tmp 34) (.tmp 38) rfl wr.heap.size _ 0 [] rfl (own_empty wr _) (Ar k) (L k) (Cr k) (F k) rfl (by exact RdF.below HROW.out (box_below wr _)) (by have := HLQ.out; omega) (by have := HLQ.out; omega) (by simp) ?_; intro v1 w4 hown1 hgrow1; obtain ⟨A1, c1, hv1, hrow1, hbel1⟩ := row_copied hown1 hgrow1; subst hv1; replace hrow1 := Lib.hid hrow1; replace hbel1 := Lib.hid hbel1; clear hown1 hgrow1) | (at_builtin; refine wpList_append_own _ rfl (.tmp 33) (.tmp 40) 28 rfl w.heap.size 22 i56 (.slice none 0 0) 1 24 Try.underlying28 hi hz0 hz1 hz2 rfl (by decide) _ k _ rfl (HC.out.ownUp hbel1.out _) _ 1 1 [.slice A1 (L k) c1] rfl rfl (one_news _ _ _ rfl) (one_one _ rfl) (by unfold maxLen; omega) (by omega) (by have := HC.out.below.size; have := hbel1.out.size; simp; omega) ?_; intro v2 w5 hown2 hgrow2 hz; clear hz; have HS := Lib.hid (HC.out.step hbel1.out hrow1.out hown2 hgrow2); clear hown2 hgrow2))
      go_roundg (n - (k + 1))
      case measure => omega
      case rel => exact ⟨k + 1, by omega, by go_num, HS⟩
    · obtain rfl : k = n := by omega
      obtain ⟨ga, ca, bsa, rfl, hca, hMa⟩ := HC.out.new (m := k) p1 p1 P5.out
      replace hMa := Lib.hid (show OwnMat w wr ga k k bsa F from hMa)
      clear HC HM P5
      go_wp2_with (fail)
      refine (runit_c (k : Int) wr).mono ?_
      rintro e w2 ⟨v, rfl, hv⟩
      have hok : unitOk (k : Int) = true := decide_eq_true ⟨by omega, by omega⟩
      rw [hok] at hv
      obtain ⟨go, co, bso, rfl, hco, hMo⟩ := (show NewMat wr w2 v k k unitE from hv)
      have HQ : Hid (QK w w2 k ga go 0 F) := by
        have hMo : OwnMat wr w2 go k k bso unitE := hMo
        have b1 := hMa.out.2.2.2.2
        have b2 := hMo.2.2.2.2
        obtain ⟨_, fa⟩ := hMa.out.outer
        refine Lib.hid ⟨bsa, bso, F, unitE, ⟨OwnMat.over2 hMa.out b2, OwnMat.lower' hMo b1, ?_, fun i j hi hj e => ?_⟩, rfl⟩
        · have := fa.lt; have := hMo.2.1; omega
        · have := (hMa.out.rowAt hi).lt; have := hMo.2.2.1 j hj; omega
      clear hv hMo hMa
      go_wp2_with (fail)
      go_loopg [9] k (fun kq v9 wq => ∃ r : Nat, r + kq = k ∧ v9 = .int .i64 (r : Int) ∧ Hid (QK w wq k ga go r F))
      case atStart => exact ⟨0, by omega, rfl, HQ⟩
      case round =>
        clear HQ
        obtain ⟨r, hr, rfl, HQ⟩ := hrel
        by_cases hlr : r < k
        · obtain ⟨bs1, bs2, A1, O1, hq, hg⟩ := HQ.out
          have HQ1 := Lib.hid hq
          have HG := Lib.hid hg
          have r1 : (r : Int) < (k : Int) := by omega
          have r0 : (0 : Int) ≤ (r : Int) := by omega
          have HZ : Hid (∀ j, r ≤ j → j < r → nz (A1 j r) = false) := Lib.hid (fun j h1 h2 => by omega)
          clear hq hg HQ
          go_wp2_with (fail)
          go_loopg [10] (k - r) (fun kq v10 wq => ∃ P : Nat, P + kq = k ∧ r ≤ P ∧ v10 = .int .i64 (P : Int) ∧ Hid (∀ j, r ≤ j → j < P → nz (A1 j r) = false) ∧ wr = wq)
          case atStart => exact ⟨r, by omega, by omega, rfl, HZ, rfl⟩
          case round =>
            clear HZ
            obtain ⟨P, hP, hrP, rfl, HZ, rfl⟩ := hrel
            have P0 : (0 : Int) ≤ (P : Int) := by omega
            by_cases hPk : P < k
            · have P1 : (P : Int) < (k : Int) := by omega
              obtain ⟨cP, f1, f2⟩ := HQ1.out.at_ hPk hlr
              by_cases hz : A1 P r = 0
              · have e1 : (((A1 P r).val : Int) == 0) = true := by rw [hz]; rfl
                have HS : Hid (∀ j, r ≤ j → j < P + 1 → nz (A1 j r) = false) := Lib.hid (fun j h1 h2 => by
                  by_cases e : j = P
                  · rw [e, hz]; rfl
                  · exact HZ.out j h1 (by omega))
                have HZ0 := Lib.hid hz
                clear hz
                go_wp2_with (fail)
                go_roundg (k - (P + 1))
                case measure => omega
                case rel => exact ⟨P + 1, by omega, by omega, by go_num, HS, rfl⟩
              · have e1 : (((A1 P r).val : Int) == 0) = false := by
                  rw [beq_eq_false_iff_ne]; intro h; exact hz (Fin.ext (by show (A1 P r).val = 0; omega))
                have e2 : ((P : Int) == (k : Int)) = false := by rw [beq_eq_false_iff_ne]; omega
                have hpv : pivot k r A1 = some (P - r) := pivot_some hrP hPk HZ.out (by unfold nz; simpa using hz)
                obtain ⟨x, hx⟩ : ∃ x, x = Gf.inv (swapF A1 r P r r) := ⟨_, rfl⟩
                have hpre : gjPre r (P - r) (A1, O1) = (scaleF (swapF A1 r P) r x, scaleF (swapF O1 r P) r x) := by
                  unfold gjPre; rw [show r + (P - r) = P by omega, divE_inv, ← hx]
                obtain ⟨sp, hsp⟩ : ∃ s : Mt × Mt, s = (scaleF (swapF A1 r P) r x, scaleF (swapF O1 r P) r x) := ⟨_, rfl⟩
                have HGS : Hid (gjTo k F (r + 1) = some (elimTo r k sp)) := Lib.hid (by simp only [gjTo, HG.out]; show gjStep k r (A1, O1) = _; unfold gjStep; rw [hpv]; show some (elimTo r k (gjPre r (P - r) (A1, O1))) = _; rw [hpre, ← hsp])
                have HX := Lib.hid hx
                have HSP := Lib.hid hsp
                have fe := f2
                clear hz hpv hpre hsp hx HZ HG f1 f2
                obtain ⟨c1, c2, f1, f2, fz1, fz2, f3, hOwn, hCh⟩ := HQ1.out.ma.swapW hlr hPk
                have HQ5 := Lib.hid (HQ1.out.swapA hlr hPk hOwn hCh)
                obtain ⟨w5, hw5⟩ : ∃ y, y = ((wr.setCell ⟨ga, r, none⟩ (.slice (some ⟨bs1 P, 0, none⟩) k c2)).setCell ⟨ga, P, none⟩ (.slice (some ⟨bs1 r, 0, none⟩) k c1)).drew := ⟨_, rfl⟩
                rw [← hw5] at HQ5
                clear hOwn hCh HQ1
                go_wp2_with (fail)
                go_region
                all_goals rw [← hw5]
                all_goals clear hw5 f1 f2 f3 fz1 fz2 fe
                obtain ⟨d1, d2, g1, g2, gz1, gz2, g3, hOwn2, hCh2⟩ := HQ5.out.mo.swapW hlr hPk
                have HQ6 := Lib.hid ((HQ5.out.flip.swapA hlr hPk hOwn2 hCh2).flip)
                obtain ⟨w6, hw6⟩ : ∃ y, y = ((w5.setCell ⟨go, r, none⟩ (.slice (some ⟨bs2 P, 0, none⟩) k d2)).setCell ⟨go, P, none⟩ (.slice (some ⟨bs2 r, 0, none⟩) k d1)).drew := ⟨_, rfl⟩
                rw [← hw6] at HQ6
                clear hOwn2 hCh2 HQ5
                go_wp2_with (fail)
                go_region
                all_goals rw [← hw6]
                all_goals clear hw6 g1 g2 g3 gz1 gz2
                obtain ⟨c6, f1, f2⟩ := HQ6.out.at_ hlr hlr
                have hrow6 := HQ6.out.ma.rowAt hlr
                have HROW6 := Lib.hid hrow6
                clear hrow6
                go_wp2_with (fail)
                refine (rinv_v (swapF A1 r P r r) w6).mono ?_
                rintro e w' ⟨rfl, rfl⟩
                rw [← HX.out]
                clear f2
                go_wp2_with (fail)
                refine (rscale_v (swapN bs1 r P r) k c6 (swapF A1 r P r) x w6 HROW6.out p2).mono ?_
                rintro e w7 ⟨rfl, hr7, hch7⟩
                have HQ7 := Lib.hid (HQ6.out.scaleA hlr hr7 hch7)
                clear hr7 hch7 f1 HROW6 HQ6
                obtain ⟨c7, g1, _⟩ := HQ7.out.flip.at_ hlr hlr
                have HROW7 := Lib.hid (HQ7.out.mo.rowAt hlr)
                go_wp2_with (fail)
                refine (rscale_v (swapN bs2 r P r) k c7 (swapF O1 r P r) x w7 HROW7.out p2).mono ?_
                rintro e w8 ⟨rfl, hr8, hch8⟩
                have HI8 : Hid (QI w w8 k ga go r 0 sp) := Lib.hid ⟨swapN bs1 r P, swapN bs2 r P, by rw [HSP.out]; exact (HQ7.out.flip.scaleA hlr hr8 hch8).flip⟩
                clear hr8 hch8 g1 HROW7 HQ7 HX HSP
                go_wp2_with (fail)
                go_loopg [12] k (fun kq v12 wq => ∃ i : Nat, i + kq = k ∧ v12 = .int .i64 (i : Int) ∧ Hid (QI w wq k ga go r i sp))
                case atStart => exact ⟨0, by omega, rfl, HI8⟩
                case round =>
                  clear HI8
                  obtain ⟨i, hii, rfl, HI8⟩ := hrel
                  by_cases hik : i < k
                  · obtain ⟨bq, bo, hqr⟩ := HI8.out
                    have HQ := Lib.hid hqr
                    clear hqr HI8
                    have i1 : (i : Int) < (k : Int) := by omega
                    have i0 : (0 : Int) ≤ (i : Int) := by omega
                    obtain ⟨cq, f1, f2⟩ := HQ.out.at_ hik hlr
                    obtain ⟨y, hy⟩ : ∃ y, y = (elimTo r i sp).1 i r := ⟨_, rfl⟩
                    rw [← hy] at f2
                    have HY := Lib.hid hy
                    clear hy
                    by_cases hir : i = r
                    · have e1 : ((i : Int) != (r : Int)) = false := by rw [hir]; simp
                      have HS := Lib.hid (show QI w wr k ga go r (i + 1) sp from ⟨bq, bo, by rw [elim_no' (.inl hir)]; exact HQ.out⟩)
                      have HIR := Lib.hid hir
                      clear hir HQ f1 f2
                      go_wp2_with (fail)
                      go_roundg (k - (i + 1))
                      case measure => omega
                      case rel => exact ⟨i + 1, by omega, by go_num, HS⟩
                    · have e1 : ((i : Int) != (r : Int)) = true := by rw [bne_iff_ne]; omega
                      by_cases hy0 : y = 0
                      · have e2 : ((y.val : Int) != 0) = false := by rw [hy0]; rfl
                        have HS := Lib.hid (show QI w wr k ga go r (i + 1) sp from ⟨bq, bo, by rw [elim_no' (.inr (HY.out ▸ hy0))]; exact HQ.out⟩)
                        have HIR := Lib.hid hir
                        have HY0 := Lib.hid hy0
                        clear hir hy0 HQ
                        go_wp2_with (fail)
                        go_roundg (k - (i + 1))
                        case measure => omega
                        case rel => exact ⟨i + 1, by omega, by go_num, HS⟩
                      · have e2 : ((y.val : Int) != 0) = true := by
                          rw [bne_iff_ne]; intro h; exact hy0 (Fin.ext (by show y.val = 0; omega))
                        have HIR := Lib.hid hir
                        have HY0 := Lib.hid hy0
                        clear hir hy0
                        obtain ⟨cr, f3, _⟩ := HQ.out.at_ hlr hlr
                        have HRi := Lib.hid (HQ.out.ma.rowAt hik)
                        have HRr := Lib.hid (HQ.out.ma.rowAt hlr)
                        have HNE := Lib.hid (fun e => HIR.out (HQ.out.ma.2.2.2.1 i r hik hlr e))
                        go_wp2_with (fail)
                        go_still_tail 9, (by kernel_rfl)
                        change wpList _ _ _ _ _ wr.drew
                        go_wp2_with (fail)
                        refine (rmix_v (bq i) (bq r) k cq cr ((elimTo r i sp).1 i) ((elimTo r i sp).1 r) y wr.drew (HRi.out.drewN 1) (HRr.out.drewN 1) HNE.out p2).mono ?_
                        rintro e w9 ⟨rfl, hr9, hch9⟩
                        have HQ9 := Lib.hid ((HQ.out.drewN 1).mixA hik (k := r) hr9 hch9)
                        clear hr9 hch9 f1 f2 f3 HRi HRr HNE HQ
                        obtain ⟨d1, g1, _⟩ := HQ9.out.flip.at_ hik hlr
                        obtain ⟨d2, g2, _⟩ := HQ9.out.flip.at_ hlr hlr
                        have HRi := Lib.hid (HQ9.out.mo.rowAt hik)
                        have HRr := Lib.hid (HQ9.out.mo.rowAt hlr)
                        have HNE := Lib.hid (fun e => HIR.out (HQ9.out.mo.2.2.2.1 i r hik hlr e))
                        go_wp2_with (fail)
                        go_still_tail 9, (by kernel_rfl)
                        change wpList _ _ _ _ _ w9.drew
                        go_wp2_with (fail)
                        refine (rmix_v (bo i) (bo r) k d1 d2 ((elimTo r i sp).2 i) ((elimTo r i sp).2 r) y w9.drew (HRi.out.drewN 1) (HRr.out.drewN 1) HNE.out p2).mono ?_
                        rintro e w10 ⟨rfl, hr10, hch10⟩
                        have HS := Lib.hid (show QI w w10 k ga go r (i + 1) sp from ⟨bq, bo, by rw [elim_yes' HIR.out (HY.out ▸ HY0.out), ← HY.out]; exact ((HQ9.out.flip.drewN 1).mixA hik (k := r) hr10 hch10).flip⟩)
                        clear hr10 hch10 g1 g2 HRi HRr HNE HQ9
                        go_wp2_with (fail)
                        go_roundg (k - (i + 1))
                        case measure => omega
                        case rel => exact ⟨i + 1, by omega, by go_num, HS⟩
                  · obtain rfl : i = k := by omega
                    have HS : Hid (QK w wr i ga go (r + 1) F) := by
                      obtain ⟨bq, bo, hq⟩ := HI8.out
                      exact Lib.hid ⟨bq, bo, _, _, hq, HGS.out⟩
                    clear HI8 HGS
                    go_wp2_with (fail)
                    go_roundg (i - (r + 1))
                    case measure => omega
                    case rel => exact ⟨r + 1, by omega, by go_num, HS⟩
            · obtain rfl : P = k := by omega
              have hnone : gjTo P F P = none := gjTo_none (k := r + 1) (by simp only [gjTo, HG.out]; show gjStep P r (A1, O1) = none; unfold gjStep; rw [pivot_nothing HZ.out]; rfl) P (by omega)
              have HN := Lib.hid hnone
              have HB := Lib.hid HQ1.out.ma.2.2.2.2
              clear hnone HG HZ HQ1
              go_wp2_with (fail)
              go_ret2
              exact ⟨.slice none 0 0, .inr ⟨HN.out, rfl, HB.out⟩⟩
        · obtain rfl : r = k := by omega
          obtain ⟨bs1, bs2, A1, O1, hq, hg⟩ := HQ.out
          have HN := Lib.hid (⟨A1, O1, hg, go, co, bs2, rfl, hco, hq.mo⟩ : ∃ A' O', gjTo r F r = some (A', O') ∧ ∃ g c bs, (Value.slice (some ⟨go, 0, none⟩) r co) = .slice (some ⟨g, 0, none⟩) r c ∧ r ≤ c ∧ OwnMat w wr g r r bs O')
          clear hq hg HQ
          go_wp2_with (fail)
          go_ret2
          obtain ⟨A', O', h1, h2⟩ := HN.out
          exact ⟨_, .inl ⟨A', O', h1, rfl, h2⟩⟩
end Go.Proofs.Ytccfnhocjiehnaa
