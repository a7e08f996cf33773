/- The reference's Times. -/
import Derived.Test.YtldndaimgfegnaaCopy
import Derived.Test.YtldndaimgfegnaaTimes
import Derived.StillTailTactics
namespace Go.Proofs.Ytldndaimgfegnaa
open Go.RowKit
set_option linter.unusedVariables false
set_option linter.unusedSimpArgs false

theorem rmul_v (x y : Gf.E) (w : World) : Calls Try.prog 20 #[.int .u8 (x.val : Int), .int .u8 (y.val : Int)] w fun e w' => e = .returned (.int .u8 ((Gf.mul x y).val : Int)) ∧ w = w' := rmul_c x y w

theorem OwnMat.lower' {w w1 wr : World} {g n m : Nat} {bs : Nat → Nat} {F : Nat → Nat → Gf.E} (h : OwnMat w1 wr g n m bs F) (hb : Below w.heap.size w w1) : OwnMat w wr g n m bs F := by
  obtain ⟨h1, h2, h3, h4, h5⟩ := h
  have := hb.size
  exact ⟨h1, by omega, fun i hi => by have := h3 i hi; omega, h4, below_then hb hb.size h5⟩
/-- While the product grows: k terms of element (i, j). -/
def timesSt (F G : Nat → Nat → Gf.E) (m i j k : Nat) : Nat → Nat → Gf.E := fun p r => if p < i ∨ (p = i ∧ r < j) then timesF F G m p r else if p = i ∧ r = j then sumE k (fun t => Gf.mul (F p t) (G t r)) else 0
theorem timesSt_at (F G : Nat → Nat → Gf.E) (m i j k : Nat) : timesSt F G m i j k i j = sumE k (fun t => Gf.mul (F i t) (G t j)) := by
  unfold timesSt
  rw [if_neg (by omega), if_pos ⟨rfl, rfl⟩]
theorem timesSt_step (F G : Nat → Nat → Gf.E) (m i j k : Nat) : ∀ p r, upd (timesSt F G m i j k) i j (Gf.add (sumE k (fun t => Gf.mul (F i t) (G t j))) (Gf.mul (F i k) (G k j))) p r = timesSt F G m i j (k + 1) p r := fun p r => by
  unfold upd
  by_cases e : p = i ∧ r = j
  · rw [if_pos e, e.1, e.2, timesSt_at]; rfl
  · rw [if_neg e]
    unfold timesSt
    by_cases e2 : p < i ∨ (p = i ∧ r < j)
    · rw [if_pos e2, if_pos e2]
    · rw [if_neg e2, if_neg e2, if_neg e, if_neg e]
theorem timesSt_col (F G : Nat → Nat → Gf.E) (m i j : Nat) : ∀ p r, timesSt F G m i j m p r = timesSt F G m i (j + 1) 0 p r := fun p r => by
  unfold timesSt
  by_cases e2 : p < i ∨ (p = i ∧ r < j)
  · rw [if_pos e2, if_pos (by omega)]
  · rw [if_neg e2]
    by_cases e : p = i ∧ r = j
    · rw [if_pos e, if_pos (by omega)]; rfl
    · rw [if_neg e, if_neg (by omega)]
      split <;> rfl
theorem timesSt_row (F G : Nat → Nat → Gf.E) (m i q : Nat) : ∀ p r, r < q → timesSt F G m i q 0 p r = timesSt F G m (i + 1) 0 0 p r := fun p r hr => by
  unfold timesSt
  by_cases e2 : p < i ∨ (p = i ∧ r < q)
  · rw [if_pos e2, if_pos (by omega)]
  · rw [if_neg e2, if_neg (by omega), if_neg (by omega)]
    split <;> rfl

set_option maxRecDepth 100000 in
set_option maxHeartbeats 4000000 in
theorem rtimes_no (A B : Option Addr) (n c m d : Nat) (L M : Nat → Nat) (F G : Nat → Nat → Gf.E) (w : World) (ha : RdM w A n L F) (hb0 : RdM w B m M G) (hn : n ≤ 4611686018427387904) (hl : ∀ i, i < n → L i ≤ 4611686018427387904) (hm : m ≤ 4611686018427387904) (hl2 : ∀ i, i < m → M i ≤ 4611686018427387904)
    (hf : rightB n L = false ∨ (rightB n L = true ∧ rightB m M = false) ∨ (rightB n L = true ∧ rightB m M = true ∧ L 0 ≠ m)) :
    Calls Try.prog 35 #[.slice A n c, .slice B m d] w fun e w' => e = .returned (.tuple #[.slice none 0 0, .int .i64 1]) ∧ Below w.heap.size w w' := by
  have HA := Lib.hid ha
  have HB := Lib.hid hb0
  have HR1 := Lib.hid (rright_c A n c L F w ha hn hl)
  have HR2 := Lib.hid (fun q => rright_c B m d M G (w.drewN q) (hb0.below (below_drewN (Below.refl _ _) q)) hm hl2)
  rcases hf with hf | ⟨hf, hf2⟩ | ⟨hf, hf2, hne⟩
  · rw [hf] at HR1
    clear ha hb0 hl hl2 hf
    go_enter Try.func35, Try.ntmps35
    go_wp2_with (first | (go_at_call 28; with_reducible refine HR1.out.mono ?_; rintro e w' ⟨rfl, hd⟩; obtain ⟨q, rfl⟩ := hd))
    go_ret2
    exact ⟨rfl, below_drewN (Below.refl _ _) _⟩
  · rw [hf] at HR1
    rw [hf2] at HR2
    clear ha hb0 hl hl2 hf hf2
    go_enter Try.func35, Try.ntmps35
    go_wp2_with (first | (go_at_call 28; with_reducible refine HR1.out.mono ?_; rintro e w' ⟨rfl, hd⟩; obtain ⟨q, rfl⟩ := hd) | (go_at_call 28; with_reducible refine (HR2.out _).mono ?_; rintro e w' ⟨rfl, hd⟩; obtain ⟨q, rfl⟩ := hd))
    go_ret2
    exact ⟨rfl, below_drewN (Below.refl _ _) _⟩
  · obtain ⟨Ar, Cr, hr, _⟩ := ha
    obtain ⟨p1, _⟩ := rightB_pos hf
    obtain ⟨ad, rfl, k3⟩ := hr.at_ (show 0 < n by omega)
    rw [show ad.add 0 = ad by simp [Addr.add]] at k3
    have n1 : (0 : Int) < (n : Int) := by omega
    have n2 : (((L 0 : Nat) : Int) != (m : Int)) = true := by rw [bne_iff_ne]; omega
    rw [hf] at HR1
    rw [hf2] at HR2
    clear hr hb0 hl hl2 hf hf2 hne
    go_enter Try.func35, Try.ntmps35
    go_wp2_with (first | (go_at_call 28; with_reducible refine HR1.out.mono ?_; rintro e w' ⟨rfl, hd⟩; obtain ⟨q, rfl⟩ := hd) | (go_at_call 28; with_reducible refine (HR2.out _).mono ?_; rintro e w' ⟨rfl, hd⟩; obtain ⟨q, rfl⟩ := hd))
    go_ret2
    exact ⟨rfl, below_drewN (Below.refl _ _) _⟩

set_option maxRecDepth 100000 in
set_option maxHeartbeats 16000000 in
theorem rtimes_yes (A B : Option Addr) (n c m d : Nat) (L M : Nat → Nat) (F G : Nat → Nat → Gf.E) (w : World) (ha : RdM w A n L F) (hb0 : RdM w B m M G) (hn : n ≤ 4611686018427387904) (hl : ∀ i, i < n → L i ≤ 4611686018427387904) (hm : m ≤ 4611686018427387904) (hl2 : ∀ i, i < m → M i ≤ 4611686018427387904)
    (hf : rightB n L = true) (hf2 : rightB m M = true) (heq : L 0 = m) :
    Calls Try.prog 35 #[.slice A n c, .slice B m d] w fun e w' => ∃ v, e = .returned (.tuple #[v, .int .i64 0]) ∧ NewMat w w' v n (M 0) (timesF F G m) := by
  have HA := Lib.hid ha
  have HB := Lib.hid hb0
  have HR1 := Lib.hid (rright_c A n c L F w ha hn hl)
  have HR2 := Lib.hid (fun q => rright_c B m d M G (w.drewN q) (hb0.below (below_drewN (Below.refl _ _) q)) hm hl2)
  rw [hf] at HR1
  rw [hf2] at HR2
  obtain ⟨p1, p2, p3, p4, p5⟩ := rightB_pos hf
  obtain ⟨q1, q2, q3, q4, q5⟩ := rightB_pos hf2
  have P5 := Lib.hid p5
  have Q5 := Lib.hid q5
  obtain ⟨Ar, Cr, hr, _⟩ := ha
  obtain ⟨Br, Dr, hr2, _⟩ := hb0
  obtain ⟨ad, rfl, k3⟩ := hr.at_ (show 0 < n by omega)
  obtain ⟨bd, rfl, k4⟩ := hr2.at_ (show 0 < m by omega)
  rw [show ad.add 0 = ad by simp [Addr.add]] at k3
  rw [show bd.add 0 = bd by simp [Addr.add]] at k4
  have n1 : (0 : Int) < (n : Int) := by omega
  have m1 : (0 : Int) < (m : Int) := by omega
  have n2 : (((L 0 : Nat) : Int) != (m : Int)) = false := by rw [bne_eq_false_iff_eq]; omega
  obtain ⟨Q, hQ⟩ : ∃ Q, Q = M 0 := ⟨_, rfl⟩
  rw [← hQ] at k4 q3 q4
  have HE := Lib.hid heq
  have HQ := Lib.hid hQ
  rw [show M 0 = Q from hQ.symm]
  clear hr hr2 hl hl2 hf hf2 heq hQ p5 q5
  have K4 := Lib.hid k4
  go_enter Try.func35, Try.ntmps35
  go_wp2_with (first | (go_at_call 28; with_reducible refine HR1.out.mono ?_; rintro e w' ⟨rfl, hd⟩; obtain ⟨q, rfl⟩ := hd) | (go_at_call 28; with_reducible refine (HR2.out _).mono ?_; rintro e w' ⟨rfl, hd⟩; obtain ⟨q0, rfl⟩ := hd))
  refine (blank_c n Q _ (by omega) (by omega) (by omega)).mono ?_
  rintro e w1 ⟨v, rfl, g, cap, bs, rfl, hcap, hM⟩
  have HI := Lib.hid (show OwnMat w w1 g n Q bs (timesSt F G m 0 0 0) from OwnMat.congr (F := fun _ _ => 0) (OwnMat.lower' hM (below_drewN (Below.refl _ _) _)) (fun i j _ _ => by unfold timesSt; rw [if_neg (by omega)]; split <;> rfl))
  clear hM HR1 HR2 k3 k4
  go_wp2_with (fail)
  go_loopg [7] n (fun kq v7 wr => ∃ i : Nat, i + kq = n ∧ v7 = .int .i64 (i : Int) ∧ Hid (OwnMat w wr g n Q bs (timesSt F G m i 0 0)))
  case atStart => exact ⟨0, by omega, rfl, HI⟩
  case round =>
    clear HI
    obtain ⟨i, hi, rfl, HI⟩ := hrel
    by_cases hlt : i < n
    · have i1 : (i : Int) < (n : Int) := by omega
      have i0 : (0 : Int) ≤ (i : Int) := by omega
      go_wp2_with (fail)
      go_loopg [8] Q (fun kq v8 wr => ∃ j : Nat, j + kq = Q ∧ v8 = .int .i64 (j : Int) ∧ Hid (OwnMat w wr g n Q bs (timesSt F G m i j 0)))
      case atStart => exact ⟨0, by omega, rfl, HI⟩
      case round =>
        clear HI
        obtain ⟨j, hj, rfl, HI⟩ := hrel
        rename_i wr0
        have k4 := cell_below HI.out.2.2.2.2 K4.out
        by_cases hlj : j < Q
        · have j1 : (j : Int) < (Q : Int) := by omega
          have j0 : (0 : Int) ≤ (j : Int) := by omega
          go_wp2_with (fail)
          go_loopg [9] m (fun kq v9 wr => ∃ k : Nat, k + kq = m ∧ v9 = .int .i64 (k : Int) ∧ Hid (OwnMat w wr g n Q bs (timesSt F G m i j k)))
          case atStart => exact ⟨0, by omega, rfl, HI⟩
          case round =>
            clear HI k4
            obtain ⟨k, hk, rfl, HI⟩ := hrel
            rename_i wr1
            by_cases hlk : k < m
            · obtain ⟨co, f1, hco⟩ := HI.out.cellO hlt
              have f2 := HI.out.cellE hlt hlj
              have fz := HI.out.frz hlt j
              rw [timesSt_at] at f2
              have hbw := HI.out.2.2.2.2
              obtain ⟨Ax, Cx, hx1, hx2⟩ := HA.out.below hbw
              obtain ⟨ax, hax, f3⟩ := hx1.at_ hlt
              injection hax with hax
              subst hax
              have hy := (hx2 i hlt).2
              rw [show L i = m by rw [P5.out i hlt, HE.out]] at f3 hy
              obtain ⟨ai, hai, f4⟩ := hy.at_ hlk
              rw [hai] at f3
              obtain ⟨Bx, Dx, hz1, hz2⟩ := HB.out.below hbw
              obtain ⟨bx, hbx, f5⟩ := hz1.at_ hlk
              injection hbx with hbx
              subst hbx
              have hu := (hz2 k hlk).2
              rw [show M k = Q by rw [Q5.out k hlk, HQ.out]] at f5 hu
              obtain ⟨bk, hbk, f6⟩ := hu.at_ hlj
              rw [hbk] at f5
              unfold vb at f2 f4 f6
              have k1 : (k : Int) < (m : Int) := by omega
              have k0 : (0 : Int) ≤ (k : Int) := by omega
              obtain ⟨s0, hs0⟩ : ∃ s, s = sumE k (fun t => Gf.mul (F i t) (G t j)) := ⟨_, rfl⟩
              rw [← hs0] at f2
              have e3 := u8_xor_nat s0.val (Gf.mul (F i k) (G k j)).val s0.isLt (Gf.mul (F i k) (G k j)).isLt
              have HS : Hid (OwnMat w ((wr.drewN 1).setCell ⟨bs i, j, none⟩ (.int .u8 ((Gf.add s0 (Gf.mul (F i k) (G k j))).val : Int))) g n Q bs (timesSt F G m i j (k + 1))) :=
                Lib.hid (((HI.out.drewN 1).set hlt hlj (Gf.add s0 (Gf.mul (F i k) (G k j)))).congr (fun p r _ _ => by rw [hs0]; exact timesSt_step F G m i j k p r))
              clear hbw hx1 hx2 hy hai hz1 hz2 hu hbk HI hs0
              go_wp2_with (fail)
              refine wp_region_still_tail 29 (by kernel_rfl) (by kernel_rfl) ?_
              simp only [List.take_succ_cons, List.take_zero, List.drop_succ_cons, List.drop_zero]
              repeat (first | still_step | still_call ((rmul_v _ _ _).mono fun _ _ h => ⟨h.1, h.2.symm⟩))
              refine wpStill_nil ?_
              change wpList _ _ _ _ _ wr.drew
              go_wp2_with (fail)
              go_roundg (m - (k + 1))
              case measure => omega
              case rel => exact ⟨k + 1, by omega, by go_num, HS⟩
            · obtain rfl : k = m := by omega
              have HS := Lib.hid (HI.out.congr (fun p r _ _ => timesSt_col F G k i j p r))
              clear HI
              go_wp2_with (fail)
              go_roundg (Q - (j + 1))
              case measure => omega
              case rel => exact ⟨j + 1, by omega, by go_num, HS⟩
        · obtain rfl : j = Q := by omega
          have HS := Lib.hid (HI.out.congr (fun p r _ hr => timesSt_row F G m i j p r hr))
          clear HI
          go_wp2_with (fail)
          go_roundg (n - (i + 1))
          case measure => omega
          case rel => exact ⟨i + 1, by omega, by go_num, HS⟩
    · obtain rfl : i = n := by omega
      have HN := Lib.hid (HI.out.congr (G := timesF F G m) (fun p r hp _ => by unfold timesSt; rw [if_pos (.inl hp)]))
      clear HI
      go_wp2_with (fail)
      go_ret2
      exact ⟨_, rfl, g, cap, bs, rfl, hcap, HN.out⟩

theorem rtimes_c (A B : Option Addr) (n c m d : Nat) (L M : Nat → Nat) (F G : Nat → Nat → Gf.E) (w : World) (ha : RdM w A n L F) (hb : RdM w B m M G) (hn : n ≤ 4611686018427387904) (hl : ∀ i, i < n → L i ≤ 4611686018427387904) (hm : m ≤ 4611686018427387904) (hl2 : ∀ i, i < m → M i ≤ 4611686018427387904) :
    Calls Try.prog 35 #[.slice A n c, .slice B m d] w fun e w' => ∃ v, e = .returned (.tuple #[v, .int .i64 (errOf (timesOk n m L M))]) ∧ MatOr (timesOk n m L M) w w' v n (M 0) (timesF F G m) := by
  unfold timesOk
  have no : (rightB n L && (rightB m M && decide (L 0 = m))) = false → (rightB n L = false ∨ (rightB n L = true ∧ rightB m M = false) ∨ (rightB n L = true ∧ rightB m M = true ∧ L 0 ≠ m)) → Calls Try.prog 35 #[.slice A n c, .slice B m d] w fun e w' => ∃ v, e = .returned (.tuple #[v, .int .i64 (errOf (rightB n L && (rightB m M && decide (L 0 = m))))]) ∧ MatOr (rightB n L && (rightB m M && decide (L 0 = m))) w w' v n (M 0) (timesF F G m) := fun he h => by
    rw [he]
    refine (rtimes_no A B n c m d L M F G w ha hb hn hl hm hl2 h).mono ?_
    rintro e w' ⟨rfl, hb⟩
    exact ⟨_, rfl, rfl, hb⟩
  by_cases h1 : rightB n L = true
  · by_cases h2 : rightB m M = true
    · by_cases h3 : L 0 = m
      · rw [h1, h2, decide_eq_true h3]
        refine (rtimes_yes A B n c m d L M F G w ha hb hn hl hm hl2 h1 h2 h3).mono ?_
        rintro e w' ⟨v, rfl, hv⟩
        exact ⟨v, rfl, hv⟩
      · exact no (by rw [decide_eq_false h3]; simp) (.inr (.inr ⟨h1, h2, h3⟩))
    · exact no (by have : rightB m M = false := by simpa using h2
                   rw [this]; simp) (.inr (.inl ⟨h1, by simpa using h2⟩))
  · exact no (by have : rightB n L = false := by simpa using h1
                 rw [this]; simp) (.inl (by simpa using h1))
end Go.Proofs.Ytldndaimgfegnaa
