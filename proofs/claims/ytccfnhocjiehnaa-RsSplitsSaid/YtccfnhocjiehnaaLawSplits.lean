/- RsSplits holds: the first shards behind one another are the data and noughts, all shards are equally long and no longer than they must be; what was repaired once is repaired. No condition. -/
import Derived.Test.YtccfnhocjiehnaaOpen
import Derived.Test.YtccfnhocjiehnaaRsKnown
import Derived.Test.YtccfnhocjiehnaaRsMend
import Derived.Test.YtccfnhocjiehnaaInverse
namespace Go.Proofs.Ytccfnhocjiehnaa.rsSplits
open Go.ChangeShapes Go.WideShapes Go.ChangeAt Go.RowKit
open Go.ChangeMaps (open_string shut_string)
set_option linter.unusedVariables false
set_option linter.unusedSimpArgs false

set_option maxRecDepth 100000 in
set_option maxHeartbeats 4000000 in
theorem walk_out (k m : Int) (A : Option Addr) (n ac : Nat) (t : Int) (w : World) (hn : n ≤ 4611686018427387904) (h : k < 1 ∨ (1 ≤ k ∧ m < 0) ∨ (1 ≤ k ∧ 0 ≤ m ∧ 12 < k) ∨ (1 ≤ k ∧ 0 ≤ m ∧ k ≤ 12 ∧ 12 < m) ∨ (1 ≤ k ∧ 0 ≤ m ∧ k ≤ 12 ∧ m ≤ 12 ∧ 2000 < n)) :
    Calls Try.prog 4 #[.int .i64 k, .int .i64 m, .slice A n ac, .int .i64 t] w fun e w' => e = .returned (.bool true) ∧ Below w.heap.size w w' := by
  have hnot : ∀ (x : Bool) (w : World), (Op.unary .not (.bool x)).run Try.prog w = .ok (.bool (!x)) w := fun _ _ => rfl
  have e1 : 2000 < n → (2000 : Int) < (n : Int) := fun h => by omega
  rcases h with h | ⟨h1, h⟩ | ⟨h1, h2, h⟩ | ⟨h1, h2, h3, h⟩ | ⟨h1, h2, h3, h4, h⟩
  case inr.inr.inr.inr =>
    have h' := e1 h
    clear e1 h
    go_enter Try.func4, Try.ntmps4
    go_wp2_with (go_at_call 7; refine (rsknown_c _).mono ?_; rintro e w1 ⟨rfl, hb⟩; replace hb := Lib.hid hb)
    go_ret
    exact ⟨rfl, hb.out⟩
  all_goals
    clear e1
    go_enter Try.func4, Try.ntmps4
    go_wp2_with (go_at_call 7; refine (rsknown_c _).mono ?_; rintro e w1 ⟨rfl, hb⟩; replace hb := Lib.hid hb)
    go_ret
    exact ⟨rfl, hb.out⟩

set_option maxRecDepth 100000 in
set_option maxHeartbeats 16000000 in
theorem walk_in (k m : Nat) (A : Option Addr) (n ac : Nat) (d : Nat → Gf.E) (t : Int) (w : World) (hk : 1 ≤ k) (hk2 : k ≤ 12) (hm2 : m ≤ 12) (hn : n ≤ 2000) (hac : n ≤ ac) (ha : RdB w A n d) (ht : -9223372036854775808 ≤ t ∧ t ≤ 9223372036854775807) :
    Calls Try.prog 4 #[.int .i64 k, .int .i64 m, .slice A n ac, .int .i64 t] w fun e w' => e = .returned (.bool true) ∧ Below w.heap.size w w' := by
  have hnot : ∀ (x : Bool) (w : World), (Op.unary .not (.bool x)).run Try.prog w = .ok (.bool (!x)) w := fun _ _ => rfl
  have hne : ∀ (g : Nat) (W : World), (binOp .eql 24 (.pointer (some ⟨g, 0, none⟩)) (.pointer none)).run Try.prog W = .ok (.bool false) W := fun _ _ => by simp [go_sem]
  obtain ⟨i56, hi, hz0, hz1, hz2⟩ := info_parts info56
  have k1 : (1 : Int) ≤ (k : Int) := by omega
  have k2 : (k : Int) ≤ 12 := by omega
  have m1 : (0 : Int) ≤ (m : Int) := by omega
  have m2 : (m : Int) ≤ 12 := by omega
  have n1 : (n : Int) ≤ 2000 := by omega
  have HA := Lib.hid ha
  obtain ⟨s, hs⟩ : ∃ s, s = k + m := ⟨_, rfl⟩
  obtain ⟨q, hq⟩ : ∃ q, q = wide k n := ⟨_, rfl⟩
  have q1 : 1 ≤ q := by rw [hq]; exact wide_pos k n
  have q2 : q ≤ 2012 := by
    have h1 := wide_le n hk
    have h2 : 1 * wide k n ≤ k * wide k n := Nat.mul_le_mul_right _ hk
    omega
  have q3 : n ≤ k * q := by rw [hq]; exact wide_fits n hk
  have q4 : 1 < q → (q - 1) * k < n := fun h => by rw [hq] at h ⊢; exact wide_least hk h
  have s1 : 1 ≤ s := by omega
  have s2 : s ≤ 24 := by omega
  have s3 : k ≤ s := by omega
  have HE := Lib.hid (fun (cb : Nat) (W : World) (hC : CodeR W cb k m) (hd : RdB W A n d) => encode_c cb k m A n ac d W hC hk (by omega) hd (by omega))
  rw [← hs, ← hq] at HE
  have HSK := Lib.hid hs
  have HQ4 := Lib.hid q4
  have HQ3 := Lib.hid q3
  clear ha hs hq q3 q4
  go_enter Try.func4, Try.ntmps4
  go_wp2_with (first | (go_at_call 7; refine (rsknown_c _).mono ?_; rintro e w1 ⟨rfl, hb⟩; replace hb := Lib.hid hb) | (go_at_call 8; refine (new_yes k m _ hk (by omega)).mono ?_; rintro e w2 ⟨cb, rfl, hC, hcb, hb2⟩; replace hC := Lib.hid hC; replace hb2 := Lib.hid (below_then hb.out hb.out.size hb2)) | (go_at_call 9; refine (HE.out cb _ hC.out (RdF.below HA.out hb2.out)).mono ?_; rintro e w3 ⟨v, rfl, g3, p3, b3, rfl, hp3, hX⟩; replace hX := Lib.hid (show OwnMat w2 w3 g3 s q b3 (encF k q n d) from hX)))
  have HW3 := Lib.hid (below_then hb2.out hb2.out.size hX.out.2.2.2.2)
  have HST : Hid (w3.ownsRow w3.heap.size 5 1 (.slice none (min 0 k * q) 0) (min 0 k * q) (newsB (min 0 k * q) (allF n d)) ∧ Below w3.heap.size w3 w3) := Lib.hid ⟨by simpa [newsB] using World.ownsRow_nil _ _ _ _, Below.refl _ _⟩
  go_loopg [12, 13] s (fun kq v12 v13 wr => ∃ (i : Nat) (Aa : Option Addr) (ca : Nat), i + kq = s ∧ v13 = .int .i64 (i : Int) ∧ v12 = .slice Aa (min i k * q) ca ∧ Hid (wr.ownsRow w3.heap.size 5 1 (.slice Aa (min i k * q) ca) (min i k * q) (newsB (min i k * q) (allF n d)) ∧ Below w3.heap.size w3 wr))
  case atStart => exact ⟨0, none, 0, by omega, rfl, by simp, HST⟩
  case round =>
    clear HST
    obtain ⟨i, Aa, ca, hi0, rfl, rfl, HI⟩ := hrel
    by_cases hlt : i < s
    · have hm7 := hX.out.1.below HI.out.2
      obtain ⟨cs, h1, h2⟩ := hm7
      have f1 := h1.cell hlt
      have f0 := h1.cell (show 0 < s by omega)
      have HROW := Lib.hid (show ∀ nq, RdB (wr.drewN nq) (some ⟨b3 i, 0, none⟩) q (encF k q n d i) from fun nq => ((h2 i hlt).2.drewN nq).rd)
      have i1 : (i : Int) < (s : Int) := by omega
      have i0 : (0 : Int) ≤ (i : Int) := by omega
      have i00 : (0 : Int) < (s : Int) := by omega
      clear h1 h2
      by_cases hik : i < k
      · have d1 : (i : Int) < (k : Int) := by omega
        obtain ⟨L0, hL0⟩ : ∃ L0, L0 = min i k * q := ⟨_, rfl⟩
        have hL1 : L0 ≤ 30000 := by
          have h1 : min i k * q ≤ 12 * q := Nat.mul_le_mul_right q (by omega)
          omega
        have hL2 : L0 + q = min (i + 1) k * q := by rw [hL0, show min i k = i by omega, show min (i + 1) k = i + 1 by omega, Nat.succ_mul]
        have HOWN := Lib.hid (show ∀ nq, (wr.drewN nq).ownsRow w3.heap.size 5 1 (.slice Aa L0 ca) L0 (newsB L0 (allF n d)) from fun nq => by rw [hL0]; exact own_below HI.out.1 (below_drewN (Below.refl _ _) nq))
        have HMORE : Hid (∀ nq v' w', w'.ownsRow w3.heap.size 5 1 v' (L0 + q) (newsB L0 (allF n d) ++ newsB q (encF k q n d i)) → (wr.drewN nq).grownBy w' (Value.slice Aa L0 ca).ownBlock → ∃ A' c', v' = .slice A' (min (i + 1) k * q) c' ∧ w'.ownsRow w3.heap.size 5 1 (.slice A' (min (i + 1) k * q) c') (min (i + 1) k * q) (newsB (min (i + 1) k * q) (allF n d)) ∧ Below w3.heap.size w3 w') := Lib.hid (fun nq v' w' h1 h2 => by
          have e : newsB L0 (allF n d) ++ newsB q (encF k q n d i) = newsB (min (i + 1) k * q) (allF n d) := by
            rw [hL0, show min i k = i by omega, show min (i + 1) k = i + 1 by omega]; exact all_more hik
          rw [e, hL2] at h1
          obtain ⟨A', c', rfl, _⟩ := own_form h1
          exact ⟨A', c', rfl, h1, (below_drewN HI.out.2 nq).grown h2 HI.out.2.size (own_base (HOWN.out nq))⟩)
        have HBS := Lib.hid (show ∀ nq, w3.heap.size ≤ (wr.drewN nq).heap.size from fun nq => HI.out.2.size)
        rw [← hL0]
        clear HI hL0 hL2
        go_wp2_with (fail)
        go_quiet (fail)
        go_wp2_with (at_builtin; refine wpList_append_row rfl (.tmp 75) (.tmp 79) rfl w3.heap.size (.slice Aa L0 ca) L0 (newsB L0 (allF n d)) (by rfl) (HOWN.out nq) (some ⟨b3 i, 0, none⟩) q (cs i) (encF k q n d i) (by rfl) (HROW.out nq) (by omega) (by omega) (HBS.out nq) ?_; intro v1 w4 hown1 hgrow1; obtain ⟨A', c', hv1, ho1, hb1⟩ := HMORE.out nq v1 w4 hown1 hgrow1; subst hv1; have HN := Lib.hid (And.intro ho1 hb1); clear ho1 hb1 hown1 hgrow1)
        go_roundg (s - (i + 1))
        case measure => omega
        case rel => exact ⟨i + 1, A', c', by omega, by go_num, rfl, HN⟩
      · have d1 : (k : Int) ≤ (i : Int) := by omega
        have e : min (i + 1) k = min i k := by omega
        have HN : Hid (∀ nq, (wr.drewN nq).ownsRow w3.heap.size 5 1 (.slice Aa (min (i + 1) k * q) ca) (min (i + 1) k * q) (newsB (min (i + 1) k * q) (allF n d)) ∧ Below w3.heap.size w3 (wr.drewN nq)) := by
          rw [e]; exact Lib.hid (fun nq => ⟨own_below HI.out.1 (below_drewN (Below.refl _ _) nq), below_drewN HI.out.2 nq⟩)
        have HEE := Lib.hid e
        clear e HI
        go_wp2_with (fail)
        go_quiet (fail)
        go_wp2_with (fail)
        go_roundg (s - (i + 1))
        case measure => omega
        case rel => exact ⟨i + 1, Aa, ca, by omega, by go_num, by rw [HEE.out], Lib.hid (HN.out _)⟩
    · obtain rfl : s = i := by omega
      obtain ⟨N, hN⟩ : ∃ N, N = k * q := ⟨_, rfl⟩
      have eN : min s k * q = N := by rw [hN, show min s k = k by omega]
      have hN1 : n ≤ N := by rw [hN]; exact HQ3.out
      have hN2 : N ≤ 30000 := by
        have h1 : k * q ≤ 12 * q := Nat.mul_le_mul_right q (by omega)
        omega
      rw [eN]
      rw [eN] at HI
      obtain ⟨cs, h1, h2⟩ := hX.out.1.below HI.out.2
      have f0 := h1.cell (show 0 < s by omega)
      have hall := RdF.of_own HI.out.1 (f := fun j => vb (allF n d j)) (fun j hj => newsB_at hj)
      have HALL := Lib.hid (show ∀ nq, RdB (wr.drewN nq) Aa N (allF n d) from fun nq => RdF.drewN hall nq)
      have HDAT := Lib.hid (show ∀ nq, RdB (wr.drewN nq) A n d from fun nq => RdF.drewN (RdF.below (RdF.below HA.out HW3.out) HI.out.2) nq)
      have HB4 := Lib.hid HI.out.2
      have hNc : N ≤ ca := by
        obtain ⟨A', c', hv, hcc⟩ := own_form HI.out.1
        injection hv with _ _ hc
        omega
      have hcv1 : ∀ nq, (convert 22 9 (.slice Aa n ca)).run Try.prog (wr.drewN nq) = .ok (.string (strE n d)) (wr.drewN nq) := fun nq => by
        have h : RdB (wr.drewN nq) Aa n d := fun h0 => by
          obtain ⟨ad, e, hc⟩ := HALL.out nq (by omega)
          refine ⟨ad, e, fun j hj => ?_⟩
          rw [hc j (by omega)]
          show some (vb (allF n d j)) = some (vb (d j))
          unfold allF
          rw [if_pos hj]
        exact run_conv_bytes Try.underlying22 Try.underlying5 Try.underlying9 h
      have hcv2 : ∀ nq, (convert 22 9 (.slice A n ac)).run Try.prog (wr.drewN nq) = .ok (.string (strE n d)) (wr.drewN nq) := fun nq => run_conv_bytes Try.underlying22 Try.underlying5 Try.underlying9 (HDAT.out nq)
      have d0 : ¬ (s : Int) < (s : Int) := by omega
      have d00 : (0 : Int) < (s : Int) := by omega
      have d01 : 0 < s := by omega
      have d1 : (n : Int) ≤ (N : Int) := by omega
      have d2 : (n : Int) ≤ (ca : Int) := by omega
      have d3 : (0 : Int) ≤ (n : Int) := by omega
      have c0 : ((s : Int) != (k : Int) + (m : Int)) = false := by rw [bne_eq_false_iff_eq]; have := HSK.out; omega
      obtain ⟨M, hM⟩ : ∃ M, M = (q - 1) * k := ⟨_, rfl⟩
      have hM1 : 1 < q → M < n := fun h => by rw [hM]; exact HQ4.out h
      have hmul : ((q : Int) - 1) * (k : Int) = (M : Int) := by rw [hM, Int.natCast_mul]; congr 1; omega
      have hM2 : M ≤ 100000 := by
        have h1 : (q - 1) * k ≤ (q - 1) * 12 := Nat.mul_le_mul_left _ hk2
        omega
      have HNN := Lib.hid hN
      clear h1 h2 eN hall HI hM hN
      by_cases hq1 : q = 1
      · have d4 : (q : Int) ≤ 1 := by omega
        clear hM1 hmul hq1
        have e1 : IntKind.i64.wrap ((k : Int) + (m : Int)) = (k : Int) + (m : Int) := by rw [IntKind.wrap_i64]; omega
        have hmul : True := trivial
        go_wp2_with (fail)
        refine wp_region_quiet_lit (by kernel_rfl) (by kernel_rfl) ?_
        iterate 42 (any_goals (first | go_big_quiet_step (fail) | quiet_step (fail) | (refine wpQuiet_step (fun K hK => ?_); go_simp; split <;> (first | (exfalso; omega) | (refine hK _ ?_; clear hK K)))))
        refine wpQuiet_nil ?_
        intro _ hw'
        obtain ⟨nq, hw''⟩ := hw'
        subst hw''
        clear e1
        go_wp2_with (fail)
        have HB9 := Lib.hid (show Below w3.heap.size w3 (wr.drewN nq) from below_drewN HB4.out nq)
        have HX9 := Lib.hid (OwnMat.over hX.out HB9.out)
        have HC9 := Lib.hid (hC.out.below HX9.out.2.2.2.2)
        have HW9 := Lib.hid (below_then hb2.out hb2.out.size HX9.out.2.2.2.2)
        have HALL9 := Lib.hid (HALL.out nq)
        clear hcv1 hcv2 f0 hmul HALL HDAT HB4 c0 d0
        generalize wr.drewN nq = w9 at *
        go_loopg [14] (N - n) (fun kq v14 wx => ∃ j : Nat, j + kq = N ∧ n ≤ j ∧ v14 = .int .i64 (j : Int) ∧ w9 = wx)
        case atStart => exact ⟨n, by omega, Nat.le_refl _, rfl, rfl⟩
        case round =>
          obtain ⟨j, hj0, hjn, rfl, rfl⟩ := hrel
          by_cases hlj : j < N
          · obtain ⟨aa, rfl, fj⟩ := HALL9.out.at_ hlj
            have e0 : allF n d j = 0 := by unfold allF; rw [if_neg (by omega)]
            rw [e0] at fj
            unfold vb at fj
            have j1 : (j : Int) < (N : Int) := by omega
            have j0 : (0 : Int) ≤ (j : Int) := by omega
            clear e0
            go_wp2_with (fail)
            go_roundg (N - (j + 1))
            case measure => omega
            case rel => exact ⟨j + 1, by omega, by omega, by go_num, rfl⟩
          · obtain rfl : N = j := by omega
            obtain ⟨cs, h1, h2⟩ := HX9.out.1
            have HNEWS := Lib.hid (show ∀ j u, (rowVals s q b3 cs)[j]? = some u → (w9.alloc (.cells #[] 22)).cell? ((⟨g3, 0, none⟩ : Addr).add j) = some u from fun j u hj => by
              have hl : j < s := by
                have := (List.getElem?_eq_some_iff.1 hj).1
                rwa [rowVals_len] at this
              rw [rowVals_at hl] at hj
              injection hj with hj
              rw [← hj, add_plain]; exact (h1.alloc _).cell hl)
            have HR2 := Lib.hid h2
            have HX1 := Lib.hid (show (rowVals s q b3 cs).length = s * 1 by rw [rowVals_len, Nat.mul_one])
            have HX2 := Lib.hid (show 0 + s ≤ maxLen by unfold maxLen; omega)
            have HX3 := Lib.hid (show (0 + s) * 24 ≤ 140737488355328 by omega)
            have HMORE : Hid (∀ v5 w10, w10.ownsRow w9.heap.size 22 1 v5 (0 + s) ([] ++ rowVals s q b3 cs) → (w9.alloc (.cells #[] 22)).grownBy w10 (Value.slice (some ⟨w9.heap.size, 0, none⟩) 0 0).ownBlock → ∃ gl cl, v5 = .slice (some ⟨gl, 0, none⟩) s cl ∧ s ≤ cl ∧ RowAt w10 gl 22 s (fun i => .slice (some ⟨b3 i, 0, none⟩) q (cs i)) ∧ Below w9.heap.size w9 w10 ∧ w9.heap.size ≤ gl) := Lib.hid (fun v5 w10 h3 h4 => by
              rw [Nat.zero_add, List.nil_append] at h3
              obtain ⟨gl, cl, rfl, hcl, hr, hgl⟩ := RowAt.of_own (f := fun i => .slice (some ⟨b3 i, 0, none⟩) q (cs i)) (show 0 < s by omega) h3 (fun i hi => rowVals_at hi)
              exact ⟨gl, cl, rfl, hcl, hr, (box_below w9 _).grown h4 (by simp) (fun k hk => Nat.le_of_eq (by simpa [Value.ownBlock] using hk)), hgl⟩)
            clear h1 h2
            by_cases hg : 0 ≤ t ∧ t < (s : Int) ∧ 1 ≤ m
            · obtain ⟨t1, t2, t3⟩ := hg
              obtain ⟨g0, rfl⟩ := Int.eq_ofNat_of_zero_le t1
              have hg0 : g0 < s := by omega
              have t2' : (g0 : Int) < (k : Int) + (m : Int) := by have := HSK.out; omega
              have t3' : (0 : Int) < (m : Int) := by omega
              go_wp2_with (at_builtin; refine wpList_append_own _ rfl (.tmp 136) (.tmp 137) 28 rfl w9.heap.size 22 i56 (.slice none 0 0) 1 24 Try.underlying28 hi hz0 hz1 hz2 rfl (by decide) (.slice (some ⟨w9.heap.size, 0, none⟩) 0 0) 0 [] (by rfl) (own_empty w9 _) ⟨g3, 0, none⟩ s p3 (rowVals s q b3 cs) (by rfl) HX1.out HNEWS.out (rowVals_one _ _ _ _) HX2.out HX3.out (by simp) ?_; intro v5 w10 hown5 hgrow5 hz; clear hz; obtain ⟨gl, cl, hv5, hcl, hrl, hbl, hgl⟩ := HMORE.out v5 w10 hown5 hgrow5; subst hv5; replace hrl := Lib.hid hrl; replace hbl := Lib.hid hbl; have f5 := hrl.out.cell hg0; have z5 := hrl.out.frozen g0; have hb11 : Below w9.heap.size w9 (w10.setCell ⟨gl, g0, none⟩ (.slice none 0 0)) := hbl.out.setCell hgl _; have HLL := Lib.hid (show RdM (w10.setCell ⟨gl, g0, none⟩ (.slice none 0 0)) (some ⟨gl, 0, none⟩) s (fun i => if i = g0 then 0 else q) (encF k q n d) from lost_rd (g := g3) (Ar := fun i => if i = g0 then none else some ⟨b3 i, 0, none⟩) (Cr := fun i => if i = g0 then 0 else cs i) HR2.out hb11 (fun i hi => by by_cases e : i = g0 <;> simp [e]) ((hrl.out.set g0 (.slice none 0 0)).congr (fun i hi => by by_cases e : i = g0 <;> simp [e])).rd); replace hb11 := Lib.hid hb11; clear hown5 hgrow5)
              have HAK := Lib.hid (show alikeB s (k + m) (fun i => if i = g0 then 0 else q) = true from by rw [← HSK.out]; exact alike_of (q := q) (fun i hi => by by_cases e : i = g0 <;> simp [e]))
              have HRF := Lib.hid (show (rowsTo (fun i => if i = g0 then 0 else q) k s).length = k from rows_full (M := [g0]) (fun i hi h0 => by by_cases e : i = g0; exact List.mem_singleton.2 e; simp [e] at h0; omega) (by have := HSK.out; simp; omega))
              have hc11 := HC9.out.below hb11.out
              have HR1 := Lib.hid (repair_yes cb k m s (some ⟨gl, 0, none⟩) cl q (fun i => if i = g0 then 0 else q) (encF k q n d) _ HSK.out hc11 hk (by omega) HLL.out hcl (fun i hi => by by_cases e : i = g0 <;> simp [e]) q1 (by omega) HAK.out)
              clear hc11
              go_wp2_with (fail)
              refine HR1.out.mono ?_
              rintro e w12 (⟨hx, _⟩ | ⟨_, va, D, rfl, hWD, hN⟩)
              · exact absurd hx (by rw [HRF.out]; exact Nat.lt_irrefl k)
              have hEa := rep_enc (L := (fun i => if i = g0 then 0 else q)) (G := encF k q n d) (q := q) (n := n) (d := d) (fun i _ _ x _ => rfl) (by omega) HRF.out hWD
              have hN2 := hN.congr (fun i x hi hx => hEa i hi x hx)
              obtain ⟨ga, ca', ba, rfl, hca, hMa⟩ := hN2
              have HMA := Lib.hid hMa
              have HB12 := Lib.hid (below_then hb11.out hb11.out.size hMa.2.2.2.2)
              have hc12 := HC9.out.below HB12.out
              have HR2' := Lib.hid (repair_yes cb k m s (some ⟨ga, 0, none⟩) ca' q (fun _ => q) (encF k q n d) w12 HSK.out hc12 hk (by omega) hMa.1.rd hca (fun i hi => .inr rfl) q1 (by omega) (by rw [← HSK.out]; exact alike_of (q := q) (fun i hi => .inr rfl)))
              clear hN hN2 hMa hWD hEa hc12 HR1
              go_wp2_with (fail)
              refine HR2'.out.mono ?_
              rintro e w13 (⟨hx, _⟩ | ⟨hlen2, vb', D2, rfl, hWD2, hN⟩)
              · exact absurd hx (by rw [rows_full (M := []) (fun i hi h0 => by omega) (by simp; omega)]; exact Nat.lt_irrefl k)
              have hEb := rep_enc (L := fun _ => q) (G := encF k q n d) (q := q) (n := n) (d := d) (fun i _ _ x _ => rfl) (by omega) hlen2 hWD2
              obtain ⟨gb, cb', bb, rfl, hcb', hMb⟩ := hN.congr (fun i x hi hx => hEb i hi x hx)
              have HMB := Lib.hid hMb
              have HB13 := Lib.hid (below_then HB12.out HB12.out.size hMb.2.2.2.2)
              have HS1 := Lib.hid (fun w (hb : Below w13.heap.size w13 w) => same_c (some ⟨ga, 0, none⟩) (some ⟨g3, 0, none⟩) s s ca' p3 (fun _ => q) (fun _ => q) (encF k q n d) (encF k q n d) w ((HMA.out.1.rd.below HMB.out.2.2.2.2).below hb) ((HX9.out.1.rd.below HB13.out).below hb) (by omega) (by omega))
              have HS2 := Lib.hid (fun w (hb : Below w13.heap.size w13 w) => same_c (some ⟨gb, 0, none⟩) (some ⟨g3, 0, none⟩) s s cb' p3 (fun _ => q) (fun _ => q) (encF k q n d) (encF k q n d) w (HMB.out.1.rd.below hb) ((HX9.out.1.rd.below HB13.out).below hb) (by omega) (by omega))
              rw [sameB_true ⟨rfl, fun _ _ => ⟨rfl, fun _ _ => rfl⟩⟩] at HS1 HS2
              clear hMb hN hWD2 hEb hlen2 HR2'
              go_wp2_with (first | ((with_reducible refine (HS1.out _ (Below.refl _ _)).mono ?_); rintro e w14 ⟨rfl, hd14⟩; replace hd14 := Lib.hid hd14) | ((with_reducible refine (HS2.out _ hd14.out.below).mono ?_); rintro e w15 ⟨rfl, hd15⟩; replace hd15 := Lib.hid hd15))
              go_ret
              exact ⟨rfl, by
                have b1 := below_then HW9.out HW9.out.size HB13.out
                have b2 := below_then b1 b1.size hd14.out.below
                exact below_then b2 b2.size hd15.out.below⟩
            · have hg' : t < 0 ∨ (0 ≤ t ∧ (k : Int) + (m : Int) ≤ t) ∨ (0 ≤ t ∧ t < (k : Int) + (m : Int) ∧ (m : Int) ≤ 0) := by have := HSK.out; omega
              clear hg
              rcases hg' with t1 | ⟨t1, t2⟩ | ⟨t1, t2, t3⟩
              · go_wp2_with (at_builtin; refine wpList_append_own _ rfl (.tmp 136) (.tmp 137) 28 rfl w9.heap.size 22 i56 (.slice none 0 0) 1 24 Try.underlying28 hi hz0 hz1 hz2 rfl (by decide) (.slice (some ⟨w9.heap.size, 0, none⟩) 0 0) 0 [] (by rfl) (own_empty w9 _) ⟨g3, 0, none⟩ s p3 (rowVals s q b3 cs) (by rfl) HX1.out HNEWS.out (rowVals_one _ _ _ _) HX2.out HX3.out (by simp) ?_; intro v5 w10 hown5 hgrow5 hz; clear hz; obtain ⟨gl, cl, hv5, hcl, hrl, hbl, hgl⟩ := HMORE.out v5 w10 hown5 hgrow5; subst hv5; replace hrl := Lib.hid hrl; replace hbl := Lib.hid hbl;  have hb11 : Below w9.heap.size w9 w10 := hbl.out; have HLL := Lib.hid (show RdM w10 (some ⟨gl, 0, none⟩) s (fun _ => q) (encF k q n d) from lost_rd (g := g3) (Ar := fun i => some ⟨b3 i, 0, none⟩) (Cr := cs) HR2.out hb11 (fun i hi => .inr ⟨rfl, rfl, rfl⟩) hrl.out.rd); replace hb11 := Lib.hid hb11; clear hown5 hgrow5)
                have HAK := Lib.hid (show alikeB s (k + m) (fun _ => q) = true from by rw [← HSK.out]; exact alike_of (q := q) (fun i hi => Or.inr rfl))
                have HRF := Lib.hid (show (rowsTo (fun _ => q) k s).length = k from rows_full (M := []) (fun i hi h0 => by omega) (by simp; omega))
                have hc11 := HC9.out.below hb11.out
                have HR1 := Lib.hid (repair_yes cb k m s (some ⟨gl, 0, none⟩) cl q (fun _ => q) (encF k q n d) _ HSK.out hc11 hk (by omega) HLL.out hcl (fun i hi => Or.inr rfl) q1 (by omega) HAK.out)
                clear hc11
                go_wp2_with (fail)
                refine HR1.out.mono ?_
                rintro e w12 (⟨hx, _⟩ | ⟨_, va, D, rfl, hWD, hN⟩)
                · exact absurd hx (by rw [HRF.out]; exact Nat.lt_irrefl k)
                have hEa := rep_enc (L := (fun _ => q)) (G := encF k q n d) (q := q) (n := n) (d := d) (fun i _ _ x _ => rfl) (by omega) HRF.out hWD
                have hN2 := hN.congr (fun i x hi hx => hEa i hi x hx)
                obtain ⟨ga, ca', ba, rfl, hca, hMa⟩ := hN2
                have HMA := Lib.hid hMa
                have HB12 := Lib.hid (below_then hb11.out hb11.out.size hMa.2.2.2.2)
                have hc12 := HC9.out.below HB12.out
                have HR2' := Lib.hid (repair_yes cb k m s (some ⟨ga, 0, none⟩) ca' q (fun _ => q) (encF k q n d) w12 HSK.out hc12 hk (by omega) hMa.1.rd hca (fun i hi => .inr rfl) q1 (by omega) (by rw [← HSK.out]; exact alike_of (q := q) (fun i hi => .inr rfl)))
                clear hN hN2 hMa hWD hEa hc12 HR1
                go_wp2_with (fail)
                refine HR2'.out.mono ?_
                rintro e w13 (⟨hx, _⟩ | ⟨hlen2, vb', D2, rfl, hWD2, hN⟩)
                · exact absurd hx (by rw [rows_full (M := []) (fun i hi h0 => by omega) (by simp; omega)]; exact Nat.lt_irrefl k)
                have hEb := rep_enc (L := fun _ => q) (G := encF k q n d) (q := q) (n := n) (d := d) (fun i _ _ x _ => rfl) (by omega) hlen2 hWD2
                obtain ⟨gb, cb', bb, rfl, hcb', hMb⟩ := hN.congr (fun i x hi hx => hEb i hi x hx)
                have HMB := Lib.hid hMb
                have HB13 := Lib.hid (below_then HB12.out HB12.out.size hMb.2.2.2.2)
                have HS1 := Lib.hid (fun w (hb : Below w13.heap.size w13 w) => same_c (some ⟨ga, 0, none⟩) (some ⟨g3, 0, none⟩) s s ca' p3 (fun _ => q) (fun _ => q) (encF k q n d) (encF k q n d) w ((HMA.out.1.rd.below HMB.out.2.2.2.2).below hb) ((HX9.out.1.rd.below HB13.out).below hb) (by omega) (by omega))
                have HS2 := Lib.hid (fun w (hb : Below w13.heap.size w13 w) => same_c (some ⟨gb, 0, none⟩) (some ⟨g3, 0, none⟩) s s cb' p3 (fun _ => q) (fun _ => q) (encF k q n d) (encF k q n d) w (HMB.out.1.rd.below hb) ((HX9.out.1.rd.below HB13.out).below hb) (by omega) (by omega))
                rw [sameB_true ⟨rfl, fun _ _ => ⟨rfl, fun _ _ => rfl⟩⟩] at HS1 HS2
                clear hMb hN hWD2 hEb hlen2 HR2'
                go_wp2_with (first | ((with_reducible refine (HS1.out _ (Below.refl _ _)).mono ?_); rintro e w14 ⟨rfl, hd14⟩; replace hd14 := Lib.hid hd14) | ((with_reducible refine (HS2.out _ hd14.out.below).mono ?_); rintro e w15 ⟨rfl, hd15⟩; replace hd15 := Lib.hid hd15))
                go_ret
                exact ⟨rfl, by
                  have b1 := below_then HW9.out HW9.out.size HB13.out
                  have b2 := below_then b1 b1.size hd14.out.below
                  exact below_then b2 b2.size hd15.out.below⟩
              · go_wp2_with (at_builtin; refine wpList_append_own _ rfl (.tmp 136) (.tmp 137) 28 rfl w9.heap.size 22 i56 (.slice none 0 0) 1 24 Try.underlying28 hi hz0 hz1 hz2 rfl (by decide) (.slice (some ⟨w9.heap.size, 0, none⟩) 0 0) 0 [] (by rfl) (own_empty w9 _) ⟨g3, 0, none⟩ s p3 (rowVals s q b3 cs) (by rfl) HX1.out HNEWS.out (rowVals_one _ _ _ _) HX2.out HX3.out (by simp) ?_; intro v5 w10 hown5 hgrow5 hz; clear hz; obtain ⟨gl, cl, hv5, hcl, hrl, hbl, hgl⟩ := HMORE.out v5 w10 hown5 hgrow5; subst hv5; replace hrl := Lib.hid hrl; replace hbl := Lib.hid hbl;  have hb11 : Below w9.heap.size w9 w10 := hbl.out; have HLL := Lib.hid (show RdM w10 (some ⟨gl, 0, none⟩) s (fun _ => q) (encF k q n d) from lost_rd (g := g3) (Ar := fun i => some ⟨b3 i, 0, none⟩) (Cr := cs) HR2.out hb11 (fun i hi => .inr ⟨rfl, rfl, rfl⟩) hrl.out.rd); replace hb11 := Lib.hid hb11; clear hown5 hgrow5)
                have HAK := Lib.hid (show alikeB s (k + m) (fun _ => q) = true from by rw [← HSK.out]; exact alike_of (q := q) (fun i hi => Or.inr rfl))
                have HRF := Lib.hid (show (rowsTo (fun _ => q) k s).length = k from rows_full (M := []) (fun i hi h0 => by omega) (by simp; omega))
                have hc11 := HC9.out.below hb11.out
                have HR1 := Lib.hid (repair_yes cb k m s (some ⟨gl, 0, none⟩) cl q (fun _ => q) (encF k q n d) _ HSK.out hc11 hk (by omega) HLL.out hcl (fun i hi => Or.inr rfl) q1 (by omega) HAK.out)
                clear hc11
                go_wp2_with (fail)
                refine HR1.out.mono ?_
                rintro e w12 (⟨hx, _⟩ | ⟨_, va, D, rfl, hWD, hN⟩)
                · exact absurd hx (by rw [HRF.out]; exact Nat.lt_irrefl k)
                have hEa := rep_enc (L := (fun _ => q)) (G := encF k q n d) (q := q) (n := n) (d := d) (fun i _ _ x _ => rfl) (by omega) HRF.out hWD
                have hN2 := hN.congr (fun i x hi hx => hEa i hi x hx)
                obtain ⟨ga, ca', ba, rfl, hca, hMa⟩ := hN2
                have HMA := Lib.hid hMa
                have HB12 := Lib.hid (below_then hb11.out hb11.out.size hMa.2.2.2.2)
                have hc12 := HC9.out.below HB12.out
                have HR2' := Lib.hid (repair_yes cb k m s (some ⟨ga, 0, none⟩) ca' q (fun _ => q) (encF k q n d) w12 HSK.out hc12 hk (by omega) hMa.1.rd hca (fun i hi => .inr rfl) q1 (by omega) (by rw [← HSK.out]; exact alike_of (q := q) (fun i hi => .inr rfl)))
                clear hN hN2 hMa hWD hEa hc12 HR1
                go_wp2_with (fail)
                refine HR2'.out.mono ?_
                rintro e w13 (⟨hx, _⟩ | ⟨hlen2, vb', D2, rfl, hWD2, hN⟩)
                · exact absurd hx (by rw [rows_full (M := []) (fun i hi h0 => by omega) (by simp; omega)]; exact Nat.lt_irrefl k)
                have hEb := rep_enc (L := fun _ => q) (G := encF k q n d) (q := q) (n := n) (d := d) (fun i _ _ x _ => rfl) (by omega) hlen2 hWD2
                obtain ⟨gb, cb', bb, rfl, hcb', hMb⟩ := hN.congr (fun i x hi hx => hEb i hi x hx)
                have HMB := Lib.hid hMb
                have HB13 := Lib.hid (below_then HB12.out HB12.out.size hMb.2.2.2.2)
                have HS1 := Lib.hid (fun w (hb : Below w13.heap.size w13 w) => same_c (some ⟨ga, 0, none⟩) (some ⟨g3, 0, none⟩) s s ca' p3 (fun _ => q) (fun _ => q) (encF k q n d) (encF k q n d) w ((HMA.out.1.rd.below HMB.out.2.2.2.2).below hb) ((HX9.out.1.rd.below HB13.out).below hb) (by omega) (by omega))
                have HS2 := Lib.hid (fun w (hb : Below w13.heap.size w13 w) => same_c (some ⟨gb, 0, none⟩) (some ⟨g3, 0, none⟩) s s cb' p3 (fun _ => q) (fun _ => q) (encF k q n d) (encF k q n d) w (HMB.out.1.rd.below hb) ((HX9.out.1.rd.below HB13.out).below hb) (by omega) (by omega))
                rw [sameB_true ⟨rfl, fun _ _ => ⟨rfl, fun _ _ => rfl⟩⟩] at HS1 HS2
                clear hMb hN hWD2 hEb hlen2 HR2'
                go_wp2_with (first | ((with_reducible refine (HS1.out _ (Below.refl _ _)).mono ?_); rintro e w14 ⟨rfl, hd14⟩; replace hd14 := Lib.hid hd14) | ((with_reducible refine (HS2.out _ hd14.out.below).mono ?_); rintro e w15 ⟨rfl, hd15⟩; replace hd15 := Lib.hid hd15))
                go_ret
                exact ⟨rfl, by
                  have b1 := below_then HW9.out HW9.out.size HB13.out
                  have b2 := below_then b1 b1.size hd14.out.below
                  exact below_then b2 b2.size hd15.out.below⟩
              · go_wp2_with (at_builtin; refine wpList_append_own _ rfl (.tmp 136) (.tmp 137) 28 rfl w9.heap.size 22 i56 (.slice none 0 0) 1 24 Try.underlying28 hi hz0 hz1 hz2 rfl (by decide) (.slice (some ⟨w9.heap.size, 0, none⟩) 0 0) 0 [] (by rfl) (own_empty w9 _) ⟨g3, 0, none⟩ s p3 (rowVals s q b3 cs) (by rfl) HX1.out HNEWS.out (rowVals_one _ _ _ _) HX2.out HX3.out (by simp) ?_; intro v5 w10 hown5 hgrow5 hz; clear hz; obtain ⟨gl, cl, hv5, hcl, hrl, hbl, hgl⟩ := HMORE.out v5 w10 hown5 hgrow5; subst hv5; replace hrl := Lib.hid hrl; replace hbl := Lib.hid hbl;  have hb11 : Below w9.heap.size w9 w10 := hbl.out; have HLL := Lib.hid (show RdM w10 (some ⟨gl, 0, none⟩) s (fun _ => q) (encF k q n d) from lost_rd (g := g3) (Ar := fun i => some ⟨b3 i, 0, none⟩) (Cr := cs) HR2.out hb11 (fun i hi => .inr ⟨rfl, rfl, rfl⟩) hrl.out.rd); replace hb11 := Lib.hid hb11; clear hown5 hgrow5)
                have HAK := Lib.hid (show alikeB s (k + m) (fun _ => q) = true from by rw [← HSK.out]; exact alike_of (q := q) (fun i hi => Or.inr rfl))
                have HRF := Lib.hid (show (rowsTo (fun _ => q) k s).length = k from rows_full (M := []) (fun i hi h0 => by omega) (by simp; omega))
                have hc11 := HC9.out.below hb11.out
                have HR1 := Lib.hid (repair_yes cb k m s (some ⟨gl, 0, none⟩) cl q (fun _ => q) (encF k q n d) _ HSK.out hc11 hk (by omega) HLL.out hcl (fun i hi => Or.inr rfl) q1 (by omega) HAK.out)
                clear hc11
                go_wp2_with (fail)
                refine HR1.out.mono ?_
                rintro e w12 (⟨hx, _⟩ | ⟨_, va, D, rfl, hWD, hN⟩)
                · exact absurd hx (by rw [HRF.out]; exact Nat.lt_irrefl k)
                have hEa := rep_enc (L := (fun _ => q)) (G := encF k q n d) (q := q) (n := n) (d := d) (fun i _ _ x _ => rfl) (by omega) HRF.out hWD
                have hN2 := hN.congr (fun i x hi hx => hEa i hi x hx)
                obtain ⟨ga, ca', ba, rfl, hca, hMa⟩ := hN2
                have HMA := Lib.hid hMa
                have HB12 := Lib.hid (below_then hb11.out hb11.out.size hMa.2.2.2.2)
                have hc12 := HC9.out.below HB12.out
                have HR2' := Lib.hid (repair_yes cb k m s (some ⟨ga, 0, none⟩) ca' q (fun _ => q) (encF k q n d) w12 HSK.out hc12 hk (by omega) hMa.1.rd hca (fun i hi => .inr rfl) q1 (by omega) (by rw [← HSK.out]; exact alike_of (q := q) (fun i hi => .inr rfl)))
                clear hN hN2 hMa hWD hEa hc12 HR1
                go_wp2_with (fail)
                refine HR2'.out.mono ?_
                rintro e w13 (⟨hx, _⟩ | ⟨hlen2, vb', D2, rfl, hWD2, hN⟩)
                · exact absurd hx (by rw [rows_full (M := []) (fun i hi h0 => by omega) (by simp; omega)]; exact Nat.lt_irrefl k)
                have hEb := rep_enc (L := fun _ => q) (G := encF k q n d) (q := q) (n := n) (d := d) (fun i _ _ x _ => rfl) (by omega) hlen2 hWD2
                obtain ⟨gb, cb', bb, rfl, hcb', hMb⟩ := hN.congr (fun i x hi hx => hEb i hi x hx)
                have HMB := Lib.hid hMb
                have HB13 := Lib.hid (below_then HB12.out HB12.out.size hMb.2.2.2.2)
                have HS1 := Lib.hid (fun w (hb : Below w13.heap.size w13 w) => same_c (some ⟨ga, 0, none⟩) (some ⟨g3, 0, none⟩) s s ca' p3 (fun _ => q) (fun _ => q) (encF k q n d) (encF k q n d) w ((HMA.out.1.rd.below HMB.out.2.2.2.2).below hb) ((HX9.out.1.rd.below HB13.out).below hb) (by omega) (by omega))
                have HS2 := Lib.hid (fun w (hb : Below w13.heap.size w13 w) => same_c (some ⟨gb, 0, none⟩) (some ⟨g3, 0, none⟩) s s cb' p3 (fun _ => q) (fun _ => q) (encF k q n d) (encF k q n d) w (HMB.out.1.rd.below hb) ((HX9.out.1.rd.below HB13.out).below hb) (by omega) (by omega))
                rw [sameB_true ⟨rfl, fun _ _ => ⟨rfl, fun _ _ => rfl⟩⟩] at HS1 HS2
                clear hMb hN hWD2 hEb hlen2 HR2'
                go_wp2_with (first | ((with_reducible refine (HS1.out _ (Below.refl _ _)).mono ?_); rintro e w14 ⟨rfl, hd14⟩; replace hd14 := Lib.hid hd14) | ((with_reducible refine (HS2.out _ hd14.out.below).mono ?_); rintro e w15 ⟨rfl, hd15⟩; replace hd15 := Lib.hid hd15))
                go_ret
                exact ⟨rfl, by
                  have b1 := below_then HW9.out HW9.out.size HB13.out
                  have b2 := below_then b1 b1.size hd14.out.below
                  exact below_then b2 b2.size hd15.out.below⟩
      · have d4 : (1 : Int) < (q : Int) := by omega
        have d5 : (M : Int) < (n : Int) := by have := hM1 (by omega); omega
        clear hM1 hq1
        have e1 : IntKind.i64.wrap ((k : Int) + (m : Int)) = (k : Int) + (m : Int) := by rw [IntKind.wrap_i64]; omega
        have e2 : IntKind.i64.wrap ((q : Int) - 1) = (q : Int) - 1 := by rw [IntKind.wrap_i64]; omega
        have e3 : IntKind.i64.wrap (M : Int) = (M : Int) := by clear e1 e2; rw [IntKind.wrap_i64]; omega
        go_wp2_with (fail)
        go_quiet (fail)
        clear e1 e2 e3
        go_wp2_with (fail)
        have HB9 := Lib.hid (show Below w3.heap.size w3 (wr.drewN nq) from below_drewN HB4.out nq)
        have HX9 := Lib.hid (OwnMat.over hX.out HB9.out)
        have HC9 := Lib.hid (hC.out.below HX9.out.2.2.2.2)
        have HW9 := Lib.hid (below_then hb2.out hb2.out.size HX9.out.2.2.2.2)
        have HALL9 := Lib.hid (HALL.out nq)
        clear hcv1 hcv2 f0 hmul HALL HDAT HB4 c0 d0
        generalize wr.drewN nq = w9 at *
        go_loopg [14] (N - n) (fun kq v14 wx => ∃ j : Nat, j + kq = N ∧ n ≤ j ∧ v14 = .int .i64 (j : Int) ∧ w9 = wx)
        case atStart => exact ⟨n, by omega, Nat.le_refl _, rfl, rfl⟩
        case round =>
          obtain ⟨j, hj0, hjn, rfl, rfl⟩ := hrel
          by_cases hlj : j < N
          · obtain ⟨aa, rfl, fj⟩ := HALL9.out.at_ hlj
            have e0 : allF n d j = 0 := by unfold allF; rw [if_neg (by omega)]
            rw [e0] at fj
            unfold vb at fj
            have j1 : (j : Int) < (N : Int) := by omega
            have j0 : (0 : Int) ≤ (j : Int) := by omega
            clear e0
            go_wp2_with (fail)
            go_roundg (N - (j + 1))
            case measure => omega
            case rel => exact ⟨j + 1, by omega, by omega, by go_num, rfl⟩
          · obtain rfl : N = j := by omega
            obtain ⟨cs, h1, h2⟩ := HX9.out.1
            have HNEWS := Lib.hid (show ∀ j u, (rowVals s q b3 cs)[j]? = some u → (w9.alloc (.cells #[] 22)).cell? ((⟨g3, 0, none⟩ : Addr).add j) = some u from fun j u hj => by
              have hl : j < s := by
                have := (List.getElem?_eq_some_iff.1 hj).1
                rwa [rowVals_len] at this
              rw [rowVals_at hl] at hj
              injection hj with hj
              rw [← hj, add_plain]; exact (h1.alloc _).cell hl)
            have HR2 := Lib.hid h2
            have HX1 := Lib.hid (show (rowVals s q b3 cs).length = s * 1 by rw [rowVals_len, Nat.mul_one])
            have HX2 := Lib.hid (show 0 + s ≤ maxLen by unfold maxLen; omega)
            have HX3 := Lib.hid (show (0 + s) * 24 ≤ 140737488355328 by omega)
            have HMORE : Hid (∀ v5 w10, w10.ownsRow w9.heap.size 22 1 v5 (0 + s) ([] ++ rowVals s q b3 cs) → (w9.alloc (.cells #[] 22)).grownBy w10 (Value.slice (some ⟨w9.heap.size, 0, none⟩) 0 0).ownBlock → ∃ gl cl, v5 = .slice (some ⟨gl, 0, none⟩) s cl ∧ s ≤ cl ∧ RowAt w10 gl 22 s (fun i => .slice (some ⟨b3 i, 0, none⟩) q (cs i)) ∧ Below w9.heap.size w9 w10 ∧ w9.heap.size ≤ gl) := Lib.hid (fun v5 w10 h3 h4 => by
              rw [Nat.zero_add, List.nil_append] at h3
              obtain ⟨gl, cl, rfl, hcl, hr, hgl⟩ := RowAt.of_own (f := fun i => .slice (some ⟨b3 i, 0, none⟩) q (cs i)) (show 0 < s by omega) h3 (fun i hi => rowVals_at hi)
              exact ⟨gl, cl, rfl, hcl, hr, (box_below w9 _).grown h4 (by simp) (fun k hk => Nat.le_of_eq (by simpa [Value.ownBlock] using hk)), hgl⟩)
            clear h1 h2
            by_cases hg : 0 ≤ t ∧ t < (s : Int) ∧ 1 ≤ m
            · obtain ⟨t1, t2, t3⟩ := hg
              obtain ⟨g0, rfl⟩ := Int.eq_ofNat_of_zero_le t1
              have hg0 : g0 < s := by omega
              have t2' : (g0 : Int) < (k : Int) + (m : Int) := by have := HSK.out; omega
              have t3' : (0 : Int) < (m : Int) := by omega
              go_wp2_with (at_builtin; refine wpList_append_own _ rfl (.tmp 136) (.tmp 137) 28 rfl w9.heap.size 22 i56 (.slice none 0 0) 1 24 Try.underlying28 hi hz0 hz1 hz2 rfl (by decide) (.slice (some ⟨w9.heap.size, 0, none⟩) 0 0) 0 [] (by rfl) (own_empty w9 _) ⟨g3, 0, none⟩ s p3 (rowVals s q b3 cs) (by rfl) HX1.out HNEWS.out (rowVals_one _ _ _ _) HX2.out HX3.out (by simp) ?_; intro v5 w10 hown5 hgrow5 hz; clear hz; obtain ⟨gl, cl, hv5, hcl, hrl, hbl, hgl⟩ := HMORE.out v5 w10 hown5 hgrow5; subst hv5; replace hrl := Lib.hid hrl; replace hbl := Lib.hid hbl; have f5 := hrl.out.cell hg0; have z5 := hrl.out.frozen g0; have hb11 : Below w9.heap.size w9 (w10.setCell ⟨gl, g0, none⟩ (.slice none 0 0)) := hbl.out.setCell hgl _; have HLL := Lib.hid (show RdM (w10.setCell ⟨gl, g0, none⟩ (.slice none 0 0)) (some ⟨gl, 0, none⟩) s (fun i => if i = g0 then 0 else q) (encF k q n d) from lost_rd (g := g3) (Ar := fun i => if i = g0 then none else some ⟨b3 i, 0, none⟩) (Cr := fun i => if i = g0 then 0 else cs i) HR2.out hb11 (fun i hi => by by_cases e : i = g0 <;> simp [e]) ((hrl.out.set g0 (.slice none 0 0)).congr (fun i hi => by by_cases e : i = g0 <;> simp [e])).rd); replace hb11 := Lib.hid hb11; clear hown5 hgrow5)
              have HAK := Lib.hid (show alikeB s (k + m) (fun i => if i = g0 then 0 else q) = true from by rw [← HSK.out]; exact alike_of (q := q) (fun i hi => by by_cases e : i = g0 <;> simp [e]))
              have HRF := Lib.hid (show (rowsTo (fun i => if i = g0 then 0 else q) k s).length = k from rows_full (M := [g0]) (fun i hi h0 => by by_cases e : i = g0; exact List.mem_singleton.2 e; simp [e] at h0; omega) (by have := HSK.out; simp; omega))
              have hc11 := HC9.out.below hb11.out
              have HR1 := Lib.hid (repair_yes cb k m s (some ⟨gl, 0, none⟩) cl q (fun i => if i = g0 then 0 else q) (encF k q n d) _ HSK.out hc11 hk (by omega) HLL.out hcl (fun i hi => by by_cases e : i = g0 <;> simp [e]) q1 (by omega) HAK.out)
              clear hc11
              go_wp2_with (fail)
              refine HR1.out.mono ?_
              rintro e w12 (⟨hx, _⟩ | ⟨_, va, D, rfl, hWD, hN⟩)
              · exact absurd hx (by rw [HRF.out]; exact Nat.lt_irrefl k)
              have hEa := rep_enc (L := (fun i => if i = g0 then 0 else q)) (G := encF k q n d) (q := q) (n := n) (d := d) (fun i _ _ x _ => rfl) (by omega) HRF.out hWD
              have hN2 := hN.congr (fun i x hi hx => hEa i hi x hx)
              obtain ⟨ga, ca', ba, rfl, hca, hMa⟩ := hN2
              have HMA := Lib.hid hMa
              have HB12 := Lib.hid (below_then hb11.out hb11.out.size hMa.2.2.2.2)
              have hc12 := HC9.out.below HB12.out
              have HR2' := Lib.hid (repair_yes cb k m s (some ⟨ga, 0, none⟩) ca' q (fun _ => q) (encF k q n d) w12 HSK.out hc12 hk (by omega) hMa.1.rd hca (fun i hi => .inr rfl) q1 (by omega) (by rw [← HSK.out]; exact alike_of (q := q) (fun i hi => .inr rfl)))
              clear hN hN2 hMa hWD hEa hc12 HR1
              go_wp2_with (fail)
              refine HR2'.out.mono ?_
              rintro e w13 (⟨hx, _⟩ | ⟨hlen2, vb', D2, rfl, hWD2, hN⟩)
              · exact absurd hx (by rw [rows_full (M := []) (fun i hi h0 => by omega) (by simp; omega)]; exact Nat.lt_irrefl k)
              have hEb := rep_enc (L := fun _ => q) (G := encF k q n d) (q := q) (n := n) (d := d) (fun i _ _ x _ => rfl) (by omega) hlen2 hWD2
              obtain ⟨gb, cb', bb, rfl, hcb', hMb⟩ := hN.congr (fun i x hi hx => hEb i hi x hx)
              have HMB := Lib.hid hMb
              have HB13 := Lib.hid (below_then HB12.out HB12.out.size hMb.2.2.2.2)
              have HS1 := Lib.hid (fun w (hb : Below w13.heap.size w13 w) => same_c (some ⟨ga, 0, none⟩) (some ⟨g3, 0, none⟩) s s ca' p3 (fun _ => q) (fun _ => q) (encF k q n d) (encF k q n d) w ((HMA.out.1.rd.below HMB.out.2.2.2.2).below hb) ((HX9.out.1.rd.below HB13.out).below hb) (by omega) (by omega))
              have HS2 := Lib.hid (fun w (hb : Below w13.heap.size w13 w) => same_c (some ⟨gb, 0, none⟩) (some ⟨g3, 0, none⟩) s s cb' p3 (fun _ => q) (fun _ => q) (encF k q n d) (encF k q n d) w (HMB.out.1.rd.below hb) ((HX9.out.1.rd.below HB13.out).below hb) (by omega) (by omega))
              rw [sameB_true ⟨rfl, fun _ _ => ⟨rfl, fun _ _ => rfl⟩⟩] at HS1 HS2
              clear hMb hN hWD2 hEb hlen2 HR2'
              go_wp2_with (first | ((with_reducible refine (HS1.out _ (Below.refl _ _)).mono ?_); rintro e w14 ⟨rfl, hd14⟩; replace hd14 := Lib.hid hd14) | ((with_reducible refine (HS2.out _ hd14.out.below).mono ?_); rintro e w15 ⟨rfl, hd15⟩; replace hd15 := Lib.hid hd15))
              go_ret
              exact ⟨rfl, by
                have b1 := below_then HW9.out HW9.out.size HB13.out
                have b2 := below_then b1 b1.size hd14.out.below
                exact below_then b2 b2.size hd15.out.below⟩
            · have hg' : t < 0 ∨ (0 ≤ t ∧ (k : Int) + (m : Int) ≤ t) ∨ (0 ≤ t ∧ t < (k : Int) + (m : Int) ∧ (m : Int) ≤ 0) := by have := HSK.out; omega
              clear hg
              rcases hg' with t1 | ⟨t1, t2⟩ | ⟨t1, t2, t3⟩
              · go_wp2_with (at_builtin; refine wpList_append_own _ rfl (.tmp 136) (.tmp 137) 28 rfl w9.heap.size 22 i56 (.slice none 0 0) 1 24 Try.underlying28 hi hz0 hz1 hz2 rfl (by decide) (.slice (some ⟨w9.heap.size, 0, none⟩) 0 0) 0 [] (by rfl) (own_empty w9 _) ⟨g3, 0, none⟩ s p3 (rowVals s q b3 cs) (by rfl) HX1.out HNEWS.out (rowVals_one _ _ _ _) HX2.out HX3.out (by simp) ?_; intro v5 w10 hown5 hgrow5 hz; clear hz; obtain ⟨gl, cl, hv5, hcl, hrl, hbl, hgl⟩ := HMORE.out v5 w10 hown5 hgrow5; subst hv5; replace hrl := Lib.hid hrl; replace hbl := Lib.hid hbl;  have hb11 : Below w9.heap.size w9 w10 := hbl.out; have HLL := Lib.hid (show RdM w10 (some ⟨gl, 0, none⟩) s (fun _ => q) (encF k q n d) from lost_rd (g := g3) (Ar := fun i => some ⟨b3 i, 0, none⟩) (Cr := cs) HR2.out hb11 (fun i hi => .inr ⟨rfl, rfl, rfl⟩) hrl.out.rd); replace hb11 := Lib.hid hb11; clear hown5 hgrow5)
                have HAK := Lib.hid (show alikeB s (k + m) (fun _ => q) = true from by rw [← HSK.out]; exact alike_of (q := q) (fun i hi => Or.inr rfl))
                have HRF := Lib.hid (show (rowsTo (fun _ => q) k s).length = k from rows_full (M := []) (fun i hi h0 => by omega) (by simp; omega))
                have hc11 := HC9.out.below hb11.out
                have HR1 := Lib.hid (repair_yes cb k m s (some ⟨gl, 0, none⟩) cl q (fun _ => q) (encF k q n d) _ HSK.out hc11 hk (by omega) HLL.out hcl (fun i hi => Or.inr rfl) q1 (by omega) HAK.out)
                clear hc11
                go_wp2_with (fail)
                refine HR1.out.mono ?_
                rintro e w12 (⟨hx, _⟩ | ⟨_, va, D, rfl, hWD, hN⟩)
                · exact absurd hx (by rw [HRF.out]; exact Nat.lt_irrefl k)
                have hEa := rep_enc (L := (fun _ => q)) (G := encF k q n d) (q := q) (n := n) (d := d) (fun i _ _ x _ => rfl) (by omega) HRF.out hWD
                have hN2 := hN.congr (fun i x hi hx => hEa i hi x hx)
                obtain ⟨ga, ca', ba, rfl, hca, hMa⟩ := hN2
                have HMA := Lib.hid hMa
                have HB12 := Lib.hid (below_then hb11.out hb11.out.size hMa.2.2.2.2)
                have hc12 := HC9.out.below HB12.out
                have HR2' := Lib.hid (repair_yes cb k m s (some ⟨ga, 0, none⟩) ca' q (fun _ => q) (encF k q n d) w12 HSK.out hc12 hk (by omega) hMa.1.rd hca (fun i hi => .inr rfl) q1 (by omega) (by rw [← HSK.out]; exact alike_of (q := q) (fun i hi => .inr rfl)))
                clear hN hN2 hMa hWD hEa hc12 HR1
                go_wp2_with (fail)
                refine HR2'.out.mono ?_
                rintro e w13 (⟨hx, _⟩ | ⟨hlen2, vb', D2, rfl, hWD2, hN⟩)
                · exact absurd hx (by rw [rows_full (M := []) (fun i hi h0 => by omega) (by simp; omega)]; exact Nat.lt_irrefl k)
                have hEb := rep_enc (L := fun _ => q) (G := encF k q n d) (q := q) (n := n) (d := d) (fun i _ _ x _ => rfl) (by omega) hlen2 hWD2
                obtain ⟨gb, cb', bb, rfl, hcb', hMb⟩ := hN.congr (fun i x hi hx => hEb i hi x hx)
                have HMB := Lib.hid hMb
                have HB13 := Lib.hid (below_then HB12.out HB12.out.size hMb.2.2.2.2)
                have HS1 := Lib.hid (fun w (hb : Below w13.heap.size w13 w) => same_c (some ⟨ga, 0, none⟩) (some ⟨g3, 0, none⟩) s s ca' p3 (fun _ => q) (fun _ => q) (encF k q n d) (encF k q n d) w ((HMA.out.1.rd.below HMB.out.2.2.2.2).below hb) ((HX9.out.1.rd.below HB13.out).below hb) (by omega) (by omega))
                have HS2 := Lib.hid (fun w (hb : Below w13.heap.size w13 w) => same_c (some ⟨gb, 0, none⟩) (some ⟨g3, 0, none⟩) s s cb' p3 (fun _ => q) (fun _ => q) (encF k q n d) (encF k q n d) w (HMB.out.1.rd.below hb) ((HX9.out.1.rd.below HB13.out).below hb) (by omega) (by omega))
                rw [sameB_true ⟨rfl, fun _ _ => ⟨rfl, fun _ _ => rfl⟩⟩] at HS1 HS2
                clear hMb hN hWD2 hEb hlen2 HR2'
                go_wp2_with (first | ((with_reducible refine (HS1.out _ (Below.refl _ _)).mono ?_); rintro e w14 ⟨rfl, hd14⟩; replace hd14 := Lib.hid hd14) | ((with_reducible refine (HS2.out _ hd14.out.below).mono ?_); rintro e w15 ⟨rfl, hd15⟩; replace hd15 := Lib.hid hd15))
                go_ret
                exact ⟨rfl, by
                  have b1 := below_then HW9.out HW9.out.size HB13.out
                  have b2 := below_then b1 b1.size hd14.out.below
                  exact below_then b2 b2.size hd15.out.below⟩
              · go_wp2_with (at_builtin; refine wpList_append_own _ rfl (.tmp 136) (.tmp 137) 28 rfl w9.heap.size 22 i56 (.slice none 0 0) 1 24 Try.underlying28 hi hz0 hz1 hz2 rfl (by decide) (.slice (some ⟨w9.heap.size, 0, none⟩) 0 0) 0 [] (by rfl) (own_empty w9 _) ⟨g3, 0, none⟩ s p3 (rowVals s q b3 cs) (by rfl) HX1.out HNEWS.out (rowVals_one _ _ _ _) HX2.out HX3.out (by simp) ?_; intro v5 w10 hown5 hgrow5 hz; clear hz; obtain ⟨gl, cl, hv5, hcl, hrl, hbl, hgl⟩ := HMORE.out v5 w10 hown5 hgrow5; subst hv5; replace hrl := Lib.hid hrl; replace hbl := Lib.hid hbl;  have hb11 : Below w9.heap.size w9 w10 := hbl.out; have HLL := Lib.hid (show RdM w10 (some ⟨gl, 0, none⟩) s (fun _ => q) (encF k q n d) from lost_rd (g := g3) (Ar := fun i => some ⟨b3 i, 0, none⟩) (Cr := cs) HR2.out hb11 (fun i hi => .inr ⟨rfl, rfl, rfl⟩) hrl.out.rd); replace hb11 := Lib.hid hb11; clear hown5 hgrow5)
                have HAK := Lib.hid (show alikeB s (k + m) (fun _ => q) = true from by rw [← HSK.out]; exact alike_of (q := q) (fun i hi => Or.inr rfl))
                have HRF := Lib.hid (show (rowsTo (fun _ => q) k s).length = k from rows_full (M := []) (fun i hi h0 => by omega) (by simp; omega))
                have hc11 := HC9.out.below hb11.out
                have HR1 := Lib.hid (repair_yes cb k m s (some ⟨gl, 0, none⟩) cl q (fun _ => q) (encF k q n d) _ HSK.out hc11 hk (by omega) HLL.out hcl (fun i hi => Or.inr rfl) q1 (by omega) HAK.out)
                clear hc11
                go_wp2_with (fail)
                refine HR1.out.mono ?_
                rintro e w12 (⟨hx, _⟩ | ⟨_, va, D, rfl, hWD, hN⟩)
                · exact absurd hx (by rw [HRF.out]; exact Nat.lt_irrefl k)
                have hEa := rep_enc (L := (fun _ => q)) (G := encF k q n d) (q := q) (n := n) (d := d) (fun i _ _ x _ => rfl) (by omega) HRF.out hWD
                have hN2 := hN.congr (fun i x hi hx => hEa i hi x hx)
                obtain ⟨ga, ca', ba, rfl, hca, hMa⟩ := hN2
                have HMA := Lib.hid hMa
                have HB12 := Lib.hid (below_then hb11.out hb11.out.size hMa.2.2.2.2)
                have hc12 := HC9.out.below HB12.out
                have HR2' := Lib.hid (repair_yes cb k m s (some ⟨ga, 0, none⟩) ca' q (fun _ => q) (encF k q n d) w12 HSK.out hc12 hk (by omega) hMa.1.rd hca (fun i hi => .inr rfl) q1 (by omega) (by rw [← HSK.out]; exact alike_of (q := q) (fun i hi => .inr rfl)))
                clear hN hN2 hMa hWD hEa hc12 HR1
                go_wp2_with (fail)
                refine HR2'.out.mono ?_
                rintro e w13 (⟨hx, _⟩ | ⟨hlen2, vb', D2, rfl, hWD2, hN⟩)
                · exact absurd hx (by rw [rows_full (M := []) (fun i hi h0 => by omega) (by simp; omega)]; exact Nat.lt_irrefl k)
                have hEb := rep_enc (L := fun _ => q) (G := encF k q n d) (q := q) (n := n) (d := d) (fun i _ _ x _ => rfl) (by omega) hlen2 hWD2
                obtain ⟨gb, cb', bb, rfl, hcb', hMb⟩ := hN.congr (fun i x hi hx => hEb i hi x hx)
                have HMB := Lib.hid hMb
                have HB13 := Lib.hid (below_then HB12.out HB12.out.size hMb.2.2.2.2)
                have HS1 := Lib.hid (fun w (hb : Below w13.heap.size w13 w) => same_c (some ⟨ga, 0, none⟩) (some ⟨g3, 0, none⟩) s s ca' p3 (fun _ => q) (fun _ => q) (encF k q n d) (encF k q n d) w ((HMA.out.1.rd.below HMB.out.2.2.2.2).below hb) ((HX9.out.1.rd.below HB13.out).below hb) (by omega) (by omega))
                have HS2 := Lib.hid (fun w (hb : Below w13.heap.size w13 w) => same_c (some ⟨gb, 0, none⟩) (some ⟨g3, 0, none⟩) s s cb' p3 (fun _ => q) (fun _ => q) (encF k q n d) (encF k q n d) w (HMB.out.1.rd.below hb) ((HX9.out.1.rd.below HB13.out).below hb) (by omega) (by omega))
                rw [sameB_true ⟨rfl, fun _ _ => ⟨rfl, fun _ _ => rfl⟩⟩] at HS1 HS2
                clear hMb hN hWD2 hEb hlen2 HR2'
                go_wp2_with (first | ((with_reducible refine (HS1.out _ (Below.refl _ _)).mono ?_); rintro e w14 ⟨rfl, hd14⟩; replace hd14 := Lib.hid hd14) | ((with_reducible refine (HS2.out _ hd14.out.below).mono ?_); rintro e w15 ⟨rfl, hd15⟩; replace hd15 := Lib.hid hd15))
                go_ret
                exact ⟨rfl, by
                  have b1 := below_then HW9.out HW9.out.size HB13.out
                  have b2 := below_then b1 b1.size hd14.out.below
                  exact below_then b2 b2.size hd15.out.below⟩
              · go_wp2_with (at_builtin; refine wpList_append_own _ rfl (.tmp 136) (.tmp 137) 28 rfl w9.heap.size 22 i56 (.slice none 0 0) 1 24 Try.underlying28 hi hz0 hz1 hz2 rfl (by decide) (.slice (some ⟨w9.heap.size, 0, none⟩) 0 0) 0 [] (by rfl) (own_empty w9 _) ⟨g3, 0, none⟩ s p3 (rowVals s q b3 cs) (by rfl) HX1.out HNEWS.out (rowVals_one _ _ _ _) HX2.out HX3.out (by simp) ?_; intro v5 w10 hown5 hgrow5 hz; clear hz; obtain ⟨gl, cl, hv5, hcl, hrl, hbl, hgl⟩ := HMORE.out v5 w10 hown5 hgrow5; subst hv5; replace hrl := Lib.hid hrl; replace hbl := Lib.hid hbl;  have hb11 : Below w9.heap.size w9 w10 := hbl.out; have HLL := Lib.hid (show RdM w10 (some ⟨gl, 0, none⟩) s (fun _ => q) (encF k q n d) from lost_rd (g := g3) (Ar := fun i => some ⟨b3 i, 0, none⟩) (Cr := cs) HR2.out hb11 (fun i hi => .inr ⟨rfl, rfl, rfl⟩) hrl.out.rd); replace hb11 := Lib.hid hb11; clear hown5 hgrow5)
                have HAK := Lib.hid (show alikeB s (k + m) (fun _ => q) = true from by rw [← HSK.out]; exact alike_of (q := q) (fun i hi => Or.inr rfl))
                have HRF := Lib.hid (show (rowsTo (fun _ => q) k s).length = k from rows_full (M := []) (fun i hi h0 => by omega) (by simp; omega))
                have hc11 := HC9.out.below hb11.out
                have HR1 := Lib.hid (repair_yes cb k m s (some ⟨gl, 0, none⟩) cl q (fun _ => q) (encF k q n d) _ HSK.out hc11 hk (by omega) HLL.out hcl (fun i hi => Or.inr rfl) q1 (by omega) HAK.out)
                clear hc11
                go_wp2_with (fail)
                refine HR1.out.mono ?_
                rintro e w12 (⟨hx, _⟩ | ⟨_, va, D, rfl, hWD, hN⟩)
                · exact absurd hx (by rw [HRF.out]; exact Nat.lt_irrefl k)
                have hEa := rep_enc (L := (fun _ => q)) (G := encF k q n d) (q := q) (n := n) (d := d) (fun i _ _ x _ => rfl) (by omega) HRF.out hWD
                have hN2 := hN.congr (fun i x hi hx => hEa i hi x hx)
                obtain ⟨ga, ca', ba, rfl, hca, hMa⟩ := hN2
                have HMA := Lib.hid hMa
                have HB12 := Lib.hid (below_then hb11.out hb11.out.size hMa.2.2.2.2)
                have hc12 := HC9.out.below HB12.out
                have HR2' := Lib.hid (repair_yes cb k m s (some ⟨ga, 0, none⟩) ca' q (fun _ => q) (encF k q n d) w12 HSK.out hc12 hk (by omega) hMa.1.rd hca (fun i hi => .inr rfl) q1 (by omega) (by rw [← HSK.out]; exact alike_of (q := q) (fun i hi => .inr rfl)))
                clear hN hN2 hMa hWD hEa hc12 HR1
                go_wp2_with (fail)
                refine HR2'.out.mono ?_
                rintro e w13 (⟨hx, _⟩ | ⟨hlen2, vb', D2, rfl, hWD2, hN⟩)
                · exact absurd hx (by rw [rows_full (M := []) (fun i hi h0 => by omega) (by simp; omega)]; exact Nat.lt_irrefl k)
                have hEb := rep_enc (L := fun _ => q) (G := encF k q n d) (q := q) (n := n) (d := d) (fun i _ _ x _ => rfl) (by omega) hlen2 hWD2
                obtain ⟨gb, cb', bb, rfl, hcb', hMb⟩ := hN.congr (fun i x hi hx => hEb i hi x hx)
                have HMB := Lib.hid hMb
                have HB13 := Lib.hid (below_then HB12.out HB12.out.size hMb.2.2.2.2)
                have HS1 := Lib.hid (fun w (hb : Below w13.heap.size w13 w) => same_c (some ⟨ga, 0, none⟩) (some ⟨g3, 0, none⟩) s s ca' p3 (fun _ => q) (fun _ => q) (encF k q n d) (encF k q n d) w ((HMA.out.1.rd.below HMB.out.2.2.2.2).below hb) ((HX9.out.1.rd.below HB13.out).below hb) (by omega) (by omega))
                have HS2 := Lib.hid (fun w (hb : Below w13.heap.size w13 w) => same_c (some ⟨gb, 0, none⟩) (some ⟨g3, 0, none⟩) s s cb' p3 (fun _ => q) (fun _ => q) (encF k q n d) (encF k q n d) w (HMB.out.1.rd.below hb) ((HX9.out.1.rd.below HB13.out).below hb) (by omega) (by omega))
                rw [sameB_true ⟨rfl, fun _ _ => ⟨rfl, fun _ _ => rfl⟩⟩] at HS1 HS2
                clear hMb hN hWD2 hEb hlen2 HR2'
                go_wp2_with (first | ((with_reducible refine (HS1.out _ (Below.refl _ _)).mono ?_); rintro e w14 ⟨rfl, hd14⟩; replace hd14 := Lib.hid hd14) | ((with_reducible refine (HS2.out _ hd14.out.below).mono ?_); rintro e w15 ⟨rfl, hd15⟩; replace hd15 := Lib.hid hd15))
                go_ret
                exact ⟨rfl, by
                  have b1 := below_then HW9.out HW9.out.size HB13.out
                  have b2 := below_then b1 b1.size hd14.out.below
                  exact below_then b2 b2.size hd15.out.below⟩

theorem walk (a0 a1 : Int) (a2 : Option Addr) (len2 cap2 : Nat) (a3 : Int) (w : World) (w0 : (Lit.int .i64 a0).wf = true) (w1 : (Lit.int .i64 a1).wf = true) (y2 : len2 * 1 ≤ 140737488351232) (w2 : IsBytes w a2 len2 cap2) (w3 : (Lit.int .i64 a3).wf = true) :
    Calls Try.prog 4 #[.int .i64 a0, .int .i64 a1, .slice a2 len2 cap2, .int .i64 a3] w fun e w' => e = .returned (.bool true) ∧ Below w.heap.size w w' := by
  obtain ⟨f2, h2, c2⟩ := w2
  by_cases h : 1 ≤ a0 ∧ 0 ≤ a1 ∧ a0 ≤ 12 ∧ a1 ≤ 12 ∧ len2 ≤ 2000
  · obtain ⟨g1, g2, g3, g4, g5⟩ := h
    obtain ⟨k, rfl⟩ := Int.eq_ofNat_of_zero_le (show 0 ≤ a0 by omega)
    obtain ⟨m, rfl⟩ := Int.eq_ofNat_of_zero_le (show 0 ≤ a1 by omega)
    exact walk_in k m a2 len2 cap2 f2 a3 w (by omega) (by omega) (by omega) g5 c2 h2 (int_of w3)
  · exact walk_out a0 a1 a2 len2 cap2 a3 w (by omega) (by omega)

set_option maxRecDepth 100000 in
theorem lifted (os : Os) (started : os.Started) (H : Type) (enc : TypeId × Value → H) :
    ReturnsInHanded {} Try.checked os 4 .any (Rows.rsSplitsSpec.pre6 enc Try.prog Try.f4 Rows.rsSplitsRow.domain false) (Rows.rsSplitsSpec.post enc Try.prog Try.f4 false true false false) := by
  refine returnsInHanded_of_change_sized (C := Try.checked) own started (by kernel_rfl) Try.func4
    (ChangeSpec.witness6 (enc := enc) (C := Try.checked) false ⟨#[], #[.int .i64 0, .int .i64 0, .slice none 0 0, .int .i64 0], []⟩ 8 (by kernel_rfl) (by kernel_rfl) (by kernel_rfl) (by kernel_rfl)) ?_
  intro W base args ds gs before hval0 hW hcnd hsz0 _
  have hsz : (DataW.weightsEach Try.prog (Try.f4.params.toList ++ Rows.rsSplitsSpec.plain.varTypes Try.prog) (ds ++ gs)).all (· ≤ reachBytes) = true := hsz0
  have hval : ∀ (j : Nat) t v, Try.f4.params[j]? = some t → args[j]? = some v → Value.okWide Try.prog W .any base t v := hval0
  have hW' := hW
  obtain ⟨p, q, hA0, hV, rfl, hfz, hnd⟩ := hW
  have hA : DataW.TrodAll enc Try.prog W 0 (fun _ => true) true Try.f4.params.toList args.toList ds p := hA0
  rw [Try.params4] at hA hval hsz
  obtain ⟨v0, vs0, d0, ds0, p0, q0, hargs, rfl, rfl, h0, r0⟩ := trodAll_cons hA
  obtain ⟨v1, vs1, d1, ds1, p1, q1, rfl, rfl, rfl, h1, r1⟩ := trodAll_cons r0
  obtain ⟨v2, vs2, d2, ds2, p2, q2, rfl, rfl, rfl, h2, r2⟩ := trodAll_cons r1
  obtain ⟨v3, vs3, d3, ds3, p3, q3, rfl, rfl, rfl, h3, r3⟩ := trodAll_cons r2
  obtain ⟨rfl, rfl, rfl⟩ := trodAll_nil r3
  obtain rfl : args = #[v0, v1, v2, v3] := by cases args; simp_all
  obtain ⟨rfl, rfl⟩ := trodVars_none hV
  obtain ⟨a0, rfl, rfl, rfl, w0⟩ := open_int Try.underlying3 (hval 0 3 v0 rfl rfl) h0
  obtain ⟨a1, rfl, rfl, rfl, w1⟩ := open_int Try.underlying3 (hval 1 3 v1 rfl rfl) h1
  obtain ⟨a2, len2, cap2, rfl⟩ := okWide_slice Try.underlying22 (hval 2 22 v2 rfl rfl)
  have k2 := h2
  have lt2 : ∀ x ∈ p2, x.block < W.heap.size := by obtain ⟨m, hm⟩ := k2; exact DataW.trod_lt m _ _ _ hm
  obtain ⟨y2, w2⟩ := bytes_of hsz (j := 2) rfl rfl h2
  obtain ⟨a3, rfl, rfl, rfl, w3⟩ := open_int Try.underlying3 (hval 3 3 v3 rfl rfl) h3
  clear hA0 hval0 hsz0 hsz
  refine (walk a0 a1 a2 len2 cap2 a3 W w0 w1 y2 w2 w3).mono fun e W' ⟨he, bel⟩ => ?_
  subst he
  exact ⟨_, rfl, _, _, _, [], _, [], hW', trodAll_mk1 (shut_bool Try.underlying4 _), (trodAll_cons_mk (shut_int Try.underlying3 w0) (trodAll_cons_mk (shut_int Try.underlying3 w1) (trodAll_cons_mk (Below.trod laidOut (by kernel_rfl) (of_decide_eq_true (by kernel_rfl)) k2 bel lt2) (trodAll_cons_mk (shut_int Try.underlying3 w3) trodAll_mk0)))), rfl, bel.frame _, fun h => by cases h⟩
theorem over : Rows.rsSplitsRow.holds Try.pinned (OpenSpec.ofChange Rows.rsSplitsSpec) :=
  OpenClaim.holds_of_wide 4 Try.f4 rfl rfl rfl rfl rfl rfl rfl ⟨rfl, rfl, rfl, rfl, rfl⟩ rfl rfl rfl rfl rfl (by kernel_rfl) Try.func4 (by kernel_rfl)
    (of_decide_eq_true (by kernel_rfl)) (by unfold Func.isWrapper; first | (rw [if_pos (by decide +kernel)]; kernel_rfl) | (rw [if_neg (by decide +kernel)]; exact ⟨rfl, rfl⟩))
    (fun os started H enc _ => lifted os started H enc)
theorem proved : Rows.RsSplitsSaid := over
#print axioms proved
end Go.Proofs.Ytccfnhocjiehnaa.rsSplits
namespace Go.Proofs.Ytccfnhocjiehnaa
/-- The row, under a short name, for the claim. -/
theorem rsSplits_holds : Rows.RsSplitsSaid := rsSplits.proved
end Go.Proofs.Ytccfnhocjiehnaa
