/- rs.whole. -/
import Derived.Test.YtccfnhocjiehnaaWholeA
namespace Go.Proofs.Ytccfnhocjiehnaa
open Go.RowKit
set_option linter.unusedVariables false
set_option linter.unusedSimpArgs false

theorem none_of {L : Nat → Nat} {k : Nat} (hL : ∀ i, i < k → 0 < L i) {r : Int} (h : IsFirst (noneB L) k r) : r = -1 := by
  rcases h with ⟨i, hi, hp, _⟩ | ⟨_, h⟩
  · have h0 : L i = 0 := of_decide_eq_true hp
    have := hL i hi
    omega
  · exact h
set_option maxRecDepth 100000 in
set_option maxHeartbeats 4000000 in
theorem whole_a (b k m : Nat) (A : Option Addr) (s c : Nat) (L : Nat → Nat) (G : Nat → Nat → Gf.E) (w : World) (hc : CodeR w b k m) (ha : RdM w A s L G) (hk : 1 ≤ k) (hk2 : k ≤ 255) (hs : k ≤ s) (hsc : s ≤ c) (hl : ∀ i, i < s → L i ≤ 1048576) (hL : ∀ i, i < k → 0 < L i) :
    Calls Try.prog 35 #[.pointer (some ⟨b, 0, none⟩), .slice A s c] w fun e w' => e = .returned (.slice A k k) ∧ Drew w w' := by
  obtain ⟨c1, c2, _⟩ := hc
  obtain ⟨Ar, Cr, hr, _⟩ := ha.take hs
  have HMI := Lib.hid (missing_c A k c L Ar Cr w hr (by omega) (fun i hi => by have := hl i (by omega); omega))
  have HN := Lib.hid (fun r (h : IsFirst (noneB L) k r) => none_of hL h)
  have HC1 := Lib.hid c1
  have k1 : (k : Int) ≤ (c : Int) := by omega
  have k2 : (0 : Int) ≤ (k : Int) := by omega
  clear ha hr hl hL
  go_enter Try.func35, Try.ntmps35
  go_wp2_with (fail)
  refine HMI.out.mono ?_
  rintro e w' ⟨r, rfl, hF, hd⟩
  obtain rfl := HN.out r hF
  obtain ⟨nq, rfl⟩ := hd
  clear hF
  go_wp2_with (fail)
  go_quiet (fail)
  go_wp2_with (fail)
  go_ret
  exact ⟨rfl, by repeat (first | exact Drew.refl _ | apply Drew.step)⟩

/-- While the shards are gone through. -/
def WhR (w wr : World) (L : Nat → Nat) (k i : Nat) (v7 v8 : Value) (Ar : Nat → Option Addr) (Cr : Nat → Nat) : Prop :=
  wr.ownsRow w.heap.size 3 1 v7 (rowsTo L k i).length ((rowsTo L k i).map fun (r : Nat) => Value.int .i64 (r : Int)) ∧
  wr.ownsRow w.heap.size 22 1 v8 (rowsTo L k i).length ((rowsTo L k i).map fun r => Value.slice (Ar r) (L r) (Cr r)) ∧ Below w.heap.size w wr
theorem rowsTo_zero (L : Nat → Nat) (k : Nat) : rowsTo L k 0 = [] := by simp [rowsTo, presTo]
theorem WhR.start (w : World) (L : Nat → Nat) (k : Nat) (Ar : Nat → Option Addr) (Cr : Nat → Nat) : WhR w w L k 0 (.slice none (rowsTo L k 0).length 0) (.slice none (rowsTo L k 0).length 0) Ar Cr := by
  unfold WhR
  rw [rowsTo_zero]
  exact ⟨World.ownsRow_nil _ _ _ _, World.ownsRow_nil _ _ _ _, Below.refl _ _⟩
theorem WhR.skip {w wr : World} {L : Nat → Nat} {k i : Nat} {v7 v8 : Value} {Ar : Nat → Option Addr} {Cr : Nat → Nat} (h : WhR w wr L k i v7 v8 Ar Cr) (e : rowsTo L k (i + 1) = rowsTo L k i) : WhR w wr L k (i + 1) v7 v8 Ar Cr := by
  unfold WhR at h ⊢
  rw [e]; exact h
theorem WhR.take {w wr w1 w2 : World} {L : Nat → Nat} {k i : Nat} {v7 v8 v7' v8' : Value} {Ar : Nat → Option Addr} {Cr : Nat → Nat} {o1 o2 : Obj} (h : WhR w wr L k i v7 v8 Ar Cr) (e : rowsTo L k (i + 1) = rowsTo L k i ++ [i])
    (h7 : w1.ownsRow w.heap.size 3 1 v7' ((rowsTo L k i).length + 1) ((rowsTo L k i).map (fun (r : Nat) => Value.int .i64 (r : Int)) ++ [.int .i64 (i : Int)])) (g7 : (wr.alloc o1).grownBy w1 v7.ownBlock)
    (h8 : w2.ownsRow w.heap.size 22 1 v8' ((rowsTo L k i).length + 1) ((rowsTo L k i).map (fun r => Value.slice (Ar r) (L r) (Cr r)) ++ [.slice (Ar i) (L i) (Cr i)])) (g8 : (w1.alloc o2).grownBy w2 v8.ownBlock) : WhR w w2 L k (i + 1) v7' v8' Ar Cr := by
  unfold WhR at h ⊢
  obtain ⟨a1, a2, a3⟩ := h
  have hs := a3.size
  have b8 : (w1.alloc o2).ownsRow w.heap.size 22 1 v8 _ _ := ((a2.alloc o1).kept g7 (own_own_ne (a2.alloc o1) (a1.alloc o1) (by decide))).alloc o2
  have hb1 : Below w.heap.size w w1 := ((a3.alloc hs o1)).grown g7 (by simp; omega) (own_base a1)
  have hb2 : Below w.heap.size w w2 := (hb1.alloc hb1.size o2).grown g8 (by simp; have := hb1.size; omega) (own_base a2)
  rw [e, List.length_append, List.map_append, List.map_append]
  exact ⟨(h7.alloc o2).kept g8 (own_own_ne (h7.alloc o2) b8 (by decide)), h8, hb2⟩
theorem WhR.own8 {w wr w1 : World} {L : Nat → Nat} {k i : Nat} {v7 v8 : Value} {Ar : Nat → Option Addr} {Cr : Nat → Nat} {o1 : Obj} (h : WhR w wr L k i v7 v8 Ar Cr) (g7 : (wr.alloc o1).grownBy w1 v7.ownBlock) (o2 : Obj) :
    (w1.alloc o2).ownsRow w.heap.size 22 1 v8 (rowsTo L k i).length ((rowsTo L k i).map fun r => Value.slice (Ar r) (L r) (Cr r)) :=
  ((h.2.1.alloc o1).kept g7 (own_own_ne (h.2.1.alloc o1) (h.1.alloc o1) (by decide))).alloc o2

set_option maxRecDepth 100000 in
set_option maxHeartbeats 16000000 in
theorem whole_b (b k m s : Nat) (A : Option Addr) (c q : Nat) (L : Nat → Nat) (G : Nat → Nat → Gf.E) (w : World) (hs : s = k + m) (hc : CodeR w b k m) (ha : RdM w A s L G) (hk : 1 ≤ k) (hkm : s ≤ 255) (hsc : s ≤ c) (hl : ∀ i, i < s → L i = 0 ∨ L i = q) (hq1 : 1 ≤ q) (hq2 : q ≤ 1048576) (hL : ∃ i, i < k ∧ L i = 0) :
    Calls Try.prog 35 #[.pointer (some ⟨b, 0, none⟩), .slice A s c] w fun e w' => ((rowsTo L k s).length < k ∧ e = .panicked [gaveUp 16] ∧ Below w.heap.size w w') ∨
      ((rowsTo L k s).length = k ∧ ∃ v A' O', e = .returned v ∧ gjTo k (rowsF (unitCau k) fun j => (rowN L k s j : Int)) k = some (A', O') ∧ NewMat w w' v k q (timesF O' (fun i => G (rowN L k s i)) k)) := by
  obtain ⟨c1, c2, P, pc, c3, hpc, hp0, hP⟩ := hc
  obtain ⟨i56, hi, hz0, hz1, hz2⟩ := info_parts info56
  obtain ⟨i3, hi3, hz30, hz31, hz32⟩ := info_parts info3
  obtain ⟨Ar, Cr, hr, hrow⟩ := ha
  have HMI := Lib.hid (missing_c A k c L Ar Cr w (fun h0 => by obtain ⟨ad, e, hcc⟩ := hr (by omega); exact ⟨ad, e, fun j hj => hcc j (by omega)⟩) (by omega) (fun i hi => by have := hl i (by omega); omega))
  have HN := Lib.hid (fun r (h : IsFirst (noneB L) k r) => show (0 : Int) ≤ r from by
    rcases h with ⟨i, _, _, _, rfl⟩ | ⟨h, rfl⟩
    · omega
    · obtain ⟨i, hi, hp⟩ := hL
      have := of_decide_eq_false (h i hi)
      exact absurd hp this)
  have HC1 := Lib.hid c1
  have HC3 := Lib.hid c3
  have HP := Lib.hid hP
  have HP0 := Lib.hid hp0
  have HR := Lib.hid hr
  have HROW := Lib.hid (fun i hi => (hrow i hi).2)
  have HCR := Lib.hid (fun i hi => (hrow i hi).1)
  have HLQ := Lib.hid hl
  have k1 : (k : Int) ≤ (c : Int) := by omega
  have k2 : (0 : Int) ≤ (k : Int) := by omega
  have ks : k ≤ s := by omega
  have HS := Lib.hid hs
  have hm1 : m ≤ 255 := by omega
  have hmk := run_make_row' (P := Try.prog) 55 22 (.slice none 0 0) 24 Try.underlying55 info56 rfl .i64 .i64 k (by omega) (by omega)
  clear hr hl hL hrow hP c2 hp0 c3 hs
  go_enter Try.func35, Try.ntmps35
  go_wp2_with (fail)
  refine HMI.out.mono ?_
  rintro e w0 ⟨r, rfl, hF, hd⟩
  have hr0 := HN.out r hF
  have HD := Lib.hid hd.below
  have c1' := cell_below HD.out HC1.out
  clear hF hd c1
  go_wp2_with (fail)
  refine (unit_any k _ hk (by omega)).mono ?_
  rintro e w1 ⟨rfl, hb1, hM1⟩
  have HB1 := Lib.hid (below_then HD.out HD.out.size hb1)
  have c1 := cell_below HB1.out HC1.out
  have c3 := cell_below HB1.out HC3.out
  have HM1 := Lib.hid hM1
  clear hb1 hM1 c1' HN HMI
  by_cases hm : m = 0
  · obtain ⟨hP1, hP2⟩ := HP0.out hm
    subst hP1 hP2
    have HU := Lib.hid (show UnitCau w1 (some ⟨w0.heap.size, 0, none⟩) k m by rw [hm]; exact UnitCau.zero HM1.out)
    have HBM := HB1
    have HM0 := Lib.hid hm
    clear hm
    rw [HM0.out] at c3
    go_wp2_with (fail)
    have HSTART : Hid (WhR w1 w1 L k 0 (.slice none (rowsTo L k 0).length 0) (.slice none (rowsTo L k 0).length 0) Ar Cr) := Lib.hid (WhR.start _ _ _ _ _)
    go_loopg [7, 8, 50] s (fun kq v7 v8 v50 wr => ∃ i : Nat, i + kq = s ∧ v50 = .int .i64 (i : Int) ∧ ∃ A7 c7 A8 c8, v7 = .slice A7 (rowsTo L k i).length c7 ∧ v8 = .slice A8 (rowsTo L k i).length c8 ∧ Hid (WhR w1 wr L k i (.slice A7 (rowsTo L k i).length c7) (.slice A8 (rowsTo L k i).length c8) Ar Cr))
    case atStart => exact ⟨0, by omega, rfl, none, 0, none, 0, by rw [rowsTo_zero]; rfl, by rw [rowsTo_zero]; rfl, HSTART⟩
    case round =>
      clear HSTART c1 c3
      obtain ⟨i, hi0, rfl, A7, c7, A8, c8, rfl, rfl, HW⟩ := hrel
      have HBW := Lib.hid (below_then HBM.out HBM.out.size HW.out.2.2)
      have c1 := cell_below HBW.out HC1.out
      by_cases hlt : i < s
      · obtain ⟨ad, rfl, f1⟩ := (HR.out.below HBW.out).at_ hlt
        have i1 : (i : Int) < (s : Int) := by omega
        have i0 : (0 : Int) ≤ (i : Int) := by omega
        by_cases h0 : L i = 0
        · have d1 : ((L i : Nat) : Int) ≤ 0 := by omega
          have e0 := rowsTo_no (k := k) h0
          have HN : Hid (WhR w1 wr L k (i + 1) (.slice A7 (rowsTo L k (i + 1)).length c7) (.slice A8 (rowsTo L k (i + 1)).length c8) Ar Cr) := by rw [e0]; exact Lib.hid (HW.out.skip e0)
          have E0 := Lib.hid e0
          clear h0 e0
          go_wp2_with (fail)
          go_roundg (s - (i + 1))
          case measure => omega
          case rel => exact ⟨i + 1, by omega, by go_num, A7, c7, A8, c8, by rw [E0.out], by rw [E0.out], HN⟩
        · have d1 : (0 : Int) < ((L i : Nat) : Int) := by omega
          by_cases hf : (rowsTo L k i).length < k
          · have d2 : (((rowsTo L k i).length : Nat) : Int) < (k : Int) := by omega
            have e0 := rowsTo_yes (k := k) (show 0 < L i by omega) hf
            have E0 := Lib.hid e0
            have H7 := Lib.hid HW.out.1
            clear h0 e0
            obtain ⟨n7, hn7⟩ : ∃ n7, n7 = (rowsTo L k i).length := ⟨_, rfl⟩
            have HN7 := Lib.hid hn7
            have n72 : n7 ≤ 255 := by omega
            go_wp2_with (first | (at_builtin; refine wpList_append_own _ rfl (.tmp 67) (.tmp 69) 37 rfl w1.heap.size 3 i3 (.int .i64 0) 1 8 Try.underlying37 hi3 hz30 hz31 hz32 rfl (by decide) (.slice A7 (rowsTo L k i).length c7) (rowsTo L k i).length _ (by rfl) (H7.out.alloc _) ⟨wr.heap.size, 0, none⟩ 1 1 [.int .i64 (i : Int)] (by rfl) rfl (one_news _ _ _ rfl) (one_one _ rfl) (by unfold maxLen; omega) (by omega) (by have := HW.out.2.2.size; simp; omega) ?_; intro v7 w7 hown7 hg7 hz; clear hz; replace hown7 := Lib.hid hown7; replace hg7 := Lib.hid hg7) | (at_builtin; refine wpList_append_own _ rfl (.tmp 71) (.tmp 73) 28 rfl w1.heap.size 22 i56 (.slice none 0 0) 1 24 Try.underlying28 hi hz0 hz1 hz2 rfl (by decide) (.slice A8 (rowsTo L k i).length c8) (rowsTo L k i).length _ (by rfl) (HW.out.own8 hg7.out _) ⟨w7.heap.size, 0, none⟩ 1 1 [.slice (Ar i) (L i) (Cr i)] (by rfl) rfl (one_news _ _ _ rfl) (one_one _ rfl) (by unfold maxLen; omega) (by omega) (by have := HW.out.2.2.size; have := hg7.out.size; simp at this; simp; omega) ?_; intro v8 w8 hown8 hg8 hz; clear hz; have HN := Lib.hid (HW.out.take E0.out hown7.out hg7.out hown8 hg8); clear hown8 hg8))
            obtain ⟨A7', c7', rfl, _⟩ := own_form hown7.out
            obtain ⟨A8', c8', rfl, _⟩ := own_form HN.out.2.1
            go_roundg (s - (i + 1))
            case measure => omega
            case rel => exact ⟨i + 1, by omega, by go_num, A7', c7', A8', c8', by rw [E0.out, List.length_append]; rfl, rfl, by have := HN; rw [E0.out, List.length_append] at this ⊢; exact this⟩
          · have d2 : (k : Int) ≤ (((rowsTo L k i).length : Nat) : Int) := by omega
            have e0 := rowsTo_full (L := L) (k := k) (i := i) hf
            have HN : Hid (WhR w1 wr L k (i + 1) (.slice A7 (rowsTo L k (i + 1)).length c7) (.slice A8 (rowsTo L k (i + 1)).length c8) Ar Cr) := by rw [e0]; exact Lib.hid (HW.out.skip e0)
            have E0 := Lib.hid e0
            clear h0 e0 hf
            go_wp2_with (fail)
            go_roundg (s - (i + 1))
            case measure => omega
            case rel => exact ⟨i + 1, by omega, by go_num, A7, c7, A8, c8, by rw [E0.out], by rw [E0.out], HN⟩
      · obtain rfl : i = s := by omega
        by_cases hf : (rowsTo L k i).length < k
        · have d2 : (((rowsTo L k i).length : Nat) : Int) < (k : Int) := by omega
          have HF := Lib.hid hf
          go_wp2_with (go_at_call 31; refine (give_c 16 _).mono ?_; rintro e w' ⟨rfl, rfl⟩)
          exact ⟨rfl, .inl ⟨HF.out, rfl, HBW.out⟩⟩
        · have hck : (rowsTo L k i).length = k := by have := rowsTo_len L k i; omega
          have HCK := Lib.hid hck
          have d2 : (k : Int) ≤ (((rowsTo L k i).length : Nat) : Int) := by omega
          have HW7 := Lib.hid (show RdF wr A7 k (fun j => .int .i64 (rowN L k i j : Nat)) from by
            have h := HW.out.1
            rw [hck] at h
            exact RdF.of_own h (fun j hj => by rw [List.getElem?_map, rowN_at (by omega)]; rfl))
          have HW8 := Lib.hid (show RdM wr A8 k (fun _ => q) (fun j => G (rowN L k i j)) from by
            have h := HW.out.2.1
            rw [hck] at h
            refine ⟨fun j => Ar (rowN L k i j), fun j => Cr (rowN L k i j), RdF.congr (RdF.of_own h (f := fun j => .slice (Ar (rowN L k i j)) (L (rowN L k i j)) (Cr (rowN L k i j))) (fun j hj => by rw [List.getElem?_map, rowN_at (by omega)]; rfl)) (fun j hj => ?_), fun j hj => ?_⟩
            · have hm := rowN_mem (L := L) (k := k) (i := i) (j := j) (by omega)
              rcases HLQ.out _ hm.1 with h0 | h0
              · omega
              · rw [h0]
            · have hm := rowN_mem (L := L) (k := k) (i := i) (j := j) (by omega)
              have h1 := HROW.out _ hm.1
              rcases HLQ.out _ hm.1 with h0 | h0
              · omega
              · rw [h0] at h1
                refine ⟨?_, RdF.below h1 HBW.out⟩
                have := HCR.out _ hm.1
                show q ≤ Cr (rowN L k i j)
                omega)
          have HRN := Lib.hid (fun j (hj : j < k) => (rowN_mem (L := L) (k := k) (i := i) (j := j) (by omega)).1)
          obtain ⟨Mr, Mc, hM1, hM2⟩ := HU.out.below HW.out.2.2
          have HMR := Lib.hid hM1
          have HMW := Lib.hid hM2
          clear hM1 hM2
          rw [hck] at d2
          go_wp2_with (fail)
          rw [hck]
          obtain ⟨wz, rfl⟩ : ∃ wz : World, wz = wr := ⟨_, rfl⟩
          have HST : Hid (RowAt (wz.alloc (.cells (madeCells #[.slice none 0 0] k) 22)) wz.heap.size 22 k (fun j => if j < 0 then .slice (Mr (rowN L k i j)) k (Mc (rowN L k i j)) else .slice none 0 0) ∧ Below wz.heap.size wz (wz.alloc (.cells (madeCells #[.slice none 0 0] k) 22))) :=
            Lib.hid ⟨RowAt.of_is ((World.rowIs_made wz (.slice none 0 0) k 22).congr (fun j hj => by simp)), box_below _ _⟩
          clear hck hf d2 c1
          go_loopg [91] k (fun kq v91 w2 => ∃ j : Nat, j + kq = k ∧ v91 = .int .i64 (j : Int) ∧ Hid (RowAt w2 wz.heap.size 22 k (fun x => if x < j then .slice (Mr (rowN L k i x)) k (Mc (rowN L k i x)) else .slice none 0 0) ∧ Below wz.heap.size wz w2))
          case atStart => exact ⟨0, by omega, rfl, HST⟩
          case round =>
            clear HST
            obtain ⟨j, hj0, rfl, HJ⟩ := hrel
            by_cases hlj : j < k
            · obtain ⟨ad7, rfl, f1⟩ := (RdF.below HW7.out HJ.out.2).at_ hlj
              have hrn := HRN.out j hlj
              obtain ⟨adm, hadm, f2⟩ := (HMR.out.below HJ.out.2).at_ (show rowN L k i j < k + m by have := HS.out; omega)
              injection hadm with hadm
              subst hadm
              rw [add_plain] at f2
              have f3 := HJ.out.1.cell hlj
              rw [if_neg (Nat.lt_irrefl j)] at f3
              have fz := HJ.out.1.frozen j
              obtain ⟨rj, hrj⟩ : ∃ rj, rj = rowN L k i j := ⟨_, rfl⟩
              rw [← hrj] at f1 f2 hrn
              have HRJ := Lib.hid hrj
              have HSS := HS.out
              have j1 : (j : Int) < (k : Int) := by omega
              have j0 : (0 : Int) ≤ (j : Int) := by omega
              have r1 : (rj : Int) < (k : Int) := by omega
              have r0 : (0 : Int) ≤ (rj : Int) := by omega
              have HN : Hid (RowAt (wr.setCell ⟨wz.heap.size, j, none⟩ (.slice (Mr rj) k (Mc rj))) wz.heap.size 22 k (fun x => if x < j + 1 then .slice (Mr (rowN L k i x)) k (Mc (rowN L k i x)) else .slice none 0 0) ∧ Below wz.heap.size wz (wr.setCell ⟨wz.heap.size, j, none⟩ (.slice (Mr rj) k (Mc rj)))) := Lib.hid
                ⟨(HJ.out.1.set j _).congr (fun x hx => by
                  by_cases e : x = j
                  · subst e; simp [hrj]
                  · simp only [e, if_false]
                    by_cases h1 : x < j
                    · simp [h1, show x < j + 1 by omega]
                    · simp [h1, show ¬ x < j + 1 by omega]), HJ.out.2.setCell (Nat.le_refl _) _⟩
              clear hrj HSS
              go_wp2_with (fail)
              go_roundg (k - (j + 1))
              case measure => omega
              case rel => exact ⟨j + 1, by omega, by go_num, HN⟩
            · obtain rfl : k = j := by omega
              have hPart : RdM wr (some ⟨wz.heap.size, 0, none⟩) k (fun _ => k) (rowsF (unitCau k) fun j => (rowN L k i j : Int)) :=
                ⟨fun j => Mr (rowN L k i j), fun j => Mc (rowN L k i j), (HJ.out.1.congr (fun x hx => by rw [if_pos hx])).rd, fun x hx => by
                  have h1 := HRN.out x hx
                  have h2 := HMW.out (rowN L k i x) (by have := HS.out; omega)
                  refine ⟨h2.1, RdF.congr (RdF.below h2.2 HJ.out.2) (fun y hy => ?_)⟩
                  show vb _ = vb (unitCau k ((rowN L k i x : Nat) : Int).toNat y)
                  rw [Int.toNat_natCast]⟩
              have hinv := rows_inverse (k := k) (m := m) (fun j => (rowN L k i j : Int)) (rowsTo L k i) (fun x hx => by rw [rowN_at (by have := HCK.out; omega), Int.toNat_natCast]) (rowsTo_nodup L k i) HCK.out (fun r hr => by have := (rowsTo_mem hr).1; have := HS.out; omega) (by have := HS.out; omega)
              have HX := Lib.hid (inverse_c (some ⟨wz.heap.size, 0, none⟩) k k (fun _ => k) (rowsF (unitCau k) fun j => (rowN L k i j : Int)) wr hPart (by omega) (fun _ _ => by omega))
              have HB5 := Lib.hid (below_then HBW.out HBW.out.size HJ.out.2)
              have H8 := Lib.hid (HW8.out.below HJ.out.2)
              obtain ⟨sx, hsx, _⟩ := hinv
              have HG := Lib.hid hsx
              clear hPart hsx HJ
              go_wp2_with (fail)
              refine HX.out.mono ?_
              rintro e w5 ⟨v, ⟨_, A', O', hgj, rfl, g, cap, bs, rfl, hcap, hM⟩ | ⟨_, hgj, _⟩ | ⟨hok, _⟩⟩
              · have HGJ := Lib.hid hgj
                have HT := Lib.hid (rstimes_c (some ⟨g, 0, none⟩) A8 k cap k c8 q (fun _ => k) O' (fun j => G (rowN L k i j)) w5 hM.1.rd (H8.out.below hM.2.2.2.2) (by omega) (by omega) hq2 hk hq1 (fun _ _ => Nat.le_refl _) (fun _ _ => by omega))
                have HB6 := Lib.hid (below_then HB5.out HB5.out.size hM.2.2.2.2)
                clear hgj hM
                go_wp2_with (fail)
                refine HT.out.mono ?_
                rintro e w6 ⟨v, rfl, hv⟩
                have HV := Lib.hid (NewMat.lower hv HB6.out)
                clear hv
                go_wp2_with (fail)
                go_ret
                exact .inr ⟨HCK.out, _, A', O', rfl, HGJ.out, HV.out⟩
              · rw [HG.out] at hgj
                cases hgj
              · exact absurd hok (by rw [show invOk k (fun _ => k) = true from by unfold invOk rightB; rw [decide_eq_true (by simp; omega), decide_eq_true rfl]; rfl]; decide)
  · obtain ⟨Pr, Pc, hp1, hp2⟩ := HP.out
    obtain ⟨pa, rfl, _⟩ := hp1.at_ (show 0 < m by omega)
    obtain ⟨cs1, hu1, hu2⟩ := HM1.out
    have HP1 := Lib.hid (show ∀ j u, ((List.range m).map fun i => Value.slice (Pr i) k (Pc i))[j]? = some u → w1.cell? (pa.add j) = some u from fun j u hj => by
      have hl : j < m := by
        have := (List.getElem?_eq_some_iff.1 hj).1
        simpa using this
      rw [List.getElem?_map, List.getElem?_range hl] at hj
      injection hj with hj
      obtain ⟨pb, e, hc⟩ := (hp1.below HB1.out).at_ hl
      injection e with e
      subst e
      rw [← hj]; exact hc)
    have HP2 := Lib.hid (show ∀ i, i < m → k ≤ Pc i ∧ RdB w1 (Pr i) k (cauE k i) from fun i hi => ⟨(hp2 i hi).1, RdF.below (hp2 i hi).2 HB1.out⟩)
    have HU1 := Lib.hid (show ∀ b : Addr, some (⟨w0.heap.size, 0, none⟩ : Addr) = some b → ∀ j u, (rowVals k k (fun i => w0.heap.size + 1 + i) cs1)[j]? = some u → w1.cell? (b.add j) = some u from fun b e j u hj => by
      injection e with e
      subst e
      have hl : j < k := by
        have := (List.getElem?_eq_some_iff.1 hj).1
        rwa [rowVals_len] at this
      rw [rowVals_at hl] at hj
      injection hj with hj
      rw [← hj, add_plain]; exact hu1.cell hl)
    have HU2 := Lib.hid hu2
    have HONE := Lib.hid (show ∀ u ∈ ((List.range m).map fun i => Value.slice (Pr i) k (Pc i)), u.oneCell' = true from fun u hu => by
      obtain ⟨i, _, rfl⟩ := List.mem_map.1 hu
      rfl)
    have HX1 := Lib.hid (show (rowVals k k (fun i => w0.heap.size + 1 + i) cs1).length = k * 1 by rw [rowVals_len, Nat.mul_one])
    have HX2 := Lib.hid (show ((List.range m).map fun i => Value.slice (Pr i) k (Pc i)).length = m * 1 by simp)
    have HX3 := Lib.hid (show k < k + m by omega)
    have HX4 := Lib.hid (show k + m ≤ maxLen by unfold maxLen; omega)
    have HX5 := Lib.hid (show (k + m) * 24 ≤ 140737488355328 by omega)
    have HMORE : Hid (∀ v5 w5, w5.ownsRow w1.heap.size 22 1 v5 (k + m) (rowVals k k (fun i => w0.heap.size + 1 + i) cs1 ++ (List.range m).map fun i => Value.slice (Pr i) k (Pc i)) → w1.grownBy w5 none → ∃ g5 c5, v5 = .slice (some ⟨g5, 0, none⟩) s c5 ∧ UnitCau w5 (some ⟨g5, 0, none⟩) k m ∧ Below w.heap.size w w5) := Lib.hid (fun v5 w5 ho hg => by
      have hb5 : Below w1.heap.size w1 w5 := ⟨hg.os, hg.tape, hg.output, hg.size, fun i hi => hg.block i hi (by simp)⟩
      obtain ⟨A5, c5, rfl, _⟩ := own_form ho
      have hu := UnitCau.more HU2.out HP2.out hb5 ho
      obtain ⟨Mr, Mc, h1, _⟩ := id hu
      obtain ⟨g5, cap5, hv, _⟩ := ho.form (by omega)
      injection hv with hA
      subst hA
      exact ⟨g5, c5, by rw [HS.out], hu, below_then HB1.out HB1.out.size hb5⟩)
    clear hp1 hp2 hu1 hu2
    go_wp2_with (first | (at_builtin; refine wpList_append_grows _ rfl (.tmp 42) (.tmp 46) 55 rfl 22 i56 (.slice none 0 0) 1 24 Try.underlying55 hi hz0 hz1 hz2 rfl (by decide) (some ⟨w0.heap.size, 0, none⟩) k k (rowVals k k (fun i => w0.heap.size + 1 + i) cs1) (by rfl) (fun h => by cases h) HX1.out HU1.out pa m pc ((List.range m).map fun i => Value.slice (Pr i) k (Pc i)) (by rfl) HX2.out HP1.out HONE.out HX3.out HX4.out HX5.out ?_; intro v5 wm hown5 hg5; obtain ⟨gm, cm, hv5, hu5, hb5⟩ := HMORE.out v5 wm hown5 hg5; subst hv5; have HU := Lib.hid hu5; have HBM := Lib.hid hb5; clear hown5 hg5 hu5 hb5))
    have HSTART : Hid (WhR wm wm L k 0 (.slice none (rowsTo L k 0).length 0) (.slice none (rowsTo L k 0).length 0) Ar Cr) := Lib.hid (WhR.start _ _ _ _ _)
    go_loopg [7, 8, 50] s (fun kq v7 v8 v50 wr => ∃ i : Nat, i + kq = s ∧ v50 = .int .i64 (i : Int) ∧ ∃ A7 c7 A8 c8, v7 = .slice A7 (rowsTo L k i).length c7 ∧ v8 = .slice A8 (rowsTo L k i).length c8 ∧ Hid (WhR wm wr L k i (.slice A7 (rowsTo L k i).length c7) (.slice A8 (rowsTo L k i).length c8) Ar Cr))
    case atStart => exact ⟨0, by omega, rfl, none, 0, none, 0, by rw [rowsTo_zero]; rfl, by rw [rowsTo_zero]; rfl, HSTART⟩
    case round =>
      clear HSTART c1 c3
      obtain ⟨i, hi0, rfl, A7, c7, A8, c8, rfl, rfl, HW⟩ := hrel
      have HBW := Lib.hid (below_then HBM.out HBM.out.size HW.out.2.2)
      have c1 := cell_below HBW.out HC1.out
      by_cases hlt : i < s
      · obtain ⟨ad, rfl, f1⟩ := (HR.out.below HBW.out).at_ hlt
        have i1 : (i : Int) < (s : Int) := by omega
        have i0 : (0 : Int) ≤ (i : Int) := by omega
        by_cases h0 : L i = 0
        · have d1 : ((L i : Nat) : Int) ≤ 0 := by omega
          have e0 := rowsTo_no (k := k) h0
          have HN : Hid (WhR wm wr L k (i + 1) (.slice A7 (rowsTo L k (i + 1)).length c7) (.slice A8 (rowsTo L k (i + 1)).length c8) Ar Cr) := by rw [e0]; exact Lib.hid (HW.out.skip e0)
          have E0 := Lib.hid e0
          clear h0 e0
          go_wp2_with (fail)
          go_roundg (s - (i + 1))
          case measure => omega
          case rel => exact ⟨i + 1, by omega, by go_num, A7, c7, A8, c8, by rw [E0.out], by rw [E0.out], HN⟩
        · have d1 : (0 : Int) < ((L i : Nat) : Int) := by omega
          by_cases hf : (rowsTo L k i).length < k
          · have d2 : (((rowsTo L k i).length : Nat) : Int) < (k : Int) := by omega
            have e0 := rowsTo_yes (k := k) (show 0 < L i by omega) hf
            have E0 := Lib.hid e0
            have H7 := Lib.hid HW.out.1
            clear h0 e0
            obtain ⟨n7, hn7⟩ : ∃ n7, n7 = (rowsTo L k i).length := ⟨_, rfl⟩
            have HN7 := Lib.hid hn7
            have n72 : n7 ≤ 255 := by omega
            go_wp2_with (first | (at_builtin; refine wpList_append_own _ rfl (.tmp 67) (.tmp 69) 37 rfl wm.heap.size 3 i3 (.int .i64 0) 1 8 Try.underlying37 hi3 hz30 hz31 hz32 rfl (by decide) (.slice A7 (rowsTo L k i).length c7) (rowsTo L k i).length _ (by rfl) (H7.out.alloc _) ⟨wr.heap.size, 0, none⟩ 1 1 [.int .i64 (i : Int)] (by rfl) rfl (one_news _ _ _ rfl) (one_one _ rfl) (by unfold maxLen; omega) (by omega) (by have := HW.out.2.2.size; simp; omega) ?_; intro v7 w7 hown7 hg7 hz; clear hz; replace hown7 := Lib.hid hown7; replace hg7 := Lib.hid hg7) | (at_builtin; refine wpList_append_own _ rfl (.tmp 71) (.tmp 73) 28 rfl wm.heap.size 22 i56 (.slice none 0 0) 1 24 Try.underlying28 hi hz0 hz1 hz2 rfl (by decide) (.slice A8 (rowsTo L k i).length c8) (rowsTo L k i).length _ (by rfl) (HW.out.own8 hg7.out _) ⟨w7.heap.size, 0, none⟩ 1 1 [.slice (Ar i) (L i) (Cr i)] (by rfl) rfl (one_news _ _ _ rfl) (one_one _ rfl) (by unfold maxLen; omega) (by omega) (by have := HW.out.2.2.size; have := hg7.out.size; simp at this; simp; omega) ?_; intro v8 w8 hown8 hg8 hz; clear hz; have HN := Lib.hid (HW.out.take E0.out hown7.out hg7.out hown8 hg8); clear hown8 hg8))
            obtain ⟨A7', c7', rfl, _⟩ := own_form hown7.out
            obtain ⟨A8', c8', rfl, _⟩ := own_form HN.out.2.1
            go_roundg (s - (i + 1))
            case measure => omega
            case rel => exact ⟨i + 1, by omega, by go_num, A7', c7', A8', c8', by rw [E0.out, List.length_append]; rfl, rfl, by have := HN; rw [E0.out, List.length_append] at this ⊢; exact this⟩
          · have d2 : (k : Int) ≤ (((rowsTo L k i).length : Nat) : Int) := by omega
            have e0 := rowsTo_full (L := L) (k := k) (i := i) hf
            have HN : Hid (WhR wm wr L k (i + 1) (.slice A7 (rowsTo L k (i + 1)).length c7) (.slice A8 (rowsTo L k (i + 1)).length c8) Ar Cr) := by rw [e0]; exact Lib.hid (HW.out.skip e0)
            have E0 := Lib.hid e0
            clear h0 e0 hf
            go_wp2_with (fail)
            go_roundg (s - (i + 1))
            case measure => omega
            case rel => exact ⟨i + 1, by omega, by go_num, A7, c7, A8, c8, by rw [E0.out], by rw [E0.out], HN⟩
      · obtain rfl : i = s := by omega
        by_cases hf : (rowsTo L k i).length < k
        · have d2 : (((rowsTo L k i).length : Nat) : Int) < (k : Int) := by omega
          have HF := Lib.hid hf
          go_wp2_with (go_at_call 31; refine (give_c 16 _).mono ?_; rintro e w' ⟨rfl, rfl⟩)
          exact ⟨rfl, .inl ⟨HF.out, rfl, HBW.out⟩⟩
        · have hck : (rowsTo L k i).length = k := by have := rowsTo_len L k i; omega
          have HCK := Lib.hid hck
          have d2 : (k : Int) ≤ (((rowsTo L k i).length : Nat) : Int) := by omega
          have HW7 := Lib.hid (show RdF wr A7 k (fun j => .int .i64 (rowN L k i j : Nat)) from by
            have h := HW.out.1
            rw [hck] at h
            exact RdF.of_own h (fun j hj => by rw [List.getElem?_map, rowN_at (by omega)]; rfl))
          have HW8 := Lib.hid (show RdM wr A8 k (fun _ => q) (fun j => G (rowN L k i j)) from by
            have h := HW.out.2.1
            rw [hck] at h
            refine ⟨fun j => Ar (rowN L k i j), fun j => Cr (rowN L k i j), RdF.congr (RdF.of_own h (f := fun j => .slice (Ar (rowN L k i j)) (L (rowN L k i j)) (Cr (rowN L k i j))) (fun j hj => by rw [List.getElem?_map, rowN_at (by omega)]; rfl)) (fun j hj => ?_), fun j hj => ?_⟩
            · have hm := rowN_mem (L := L) (k := k) (i := i) (j := j) (by omega)
              rcases HLQ.out _ hm.1 with h0 | h0
              · omega
              · rw [h0]
            · have hm := rowN_mem (L := L) (k := k) (i := i) (j := j) (by omega)
              have h1 := HROW.out _ hm.1
              rcases HLQ.out _ hm.1 with h0 | h0
              · omega
              · rw [h0] at h1
                refine ⟨?_, RdF.below h1 HBW.out⟩
                have := HCR.out _ hm.1
                show q ≤ Cr (rowN L k i j)
                omega)
          have HRN := Lib.hid (fun j (hj : j < k) => (rowN_mem (L := L) (k := k) (i := i) (j := j) (by omega)).1)
          obtain ⟨Mr, Mc, hM1, hM2⟩ := HU.out.below HW.out.2.2
          have HMR := Lib.hid hM1
          have HMW := Lib.hid hM2
          clear hM1 hM2
          rw [hck] at d2
          go_wp2_with (fail)
          rw [hck]
          obtain ⟨wz, rfl⟩ : ∃ wz : World, wz = wr := ⟨_, rfl⟩
          have HST : Hid (RowAt (wz.alloc (.cells (madeCells #[.slice none 0 0] k) 22)) wz.heap.size 22 k (fun j => if j < 0 then .slice (Mr (rowN L k i j)) k (Mc (rowN L k i j)) else .slice none 0 0) ∧ Below wz.heap.size wz (wz.alloc (.cells (madeCells #[.slice none 0 0] k) 22))) :=
            Lib.hid ⟨RowAt.of_is ((World.rowIs_made wz (.slice none 0 0) k 22).congr (fun j hj => by simp)), box_below _ _⟩
          clear hck hf d2 c1
          go_loopg [91] k (fun kq v91 w2 => ∃ j : Nat, j + kq = k ∧ v91 = .int .i64 (j : Int) ∧ Hid (RowAt w2 wz.heap.size 22 k (fun x => if x < j then .slice (Mr (rowN L k i x)) k (Mc (rowN L k i x)) else .slice none 0 0) ∧ Below wz.heap.size wz w2))
          case atStart => exact ⟨0, by omega, rfl, HST⟩
          case round =>
            clear HST
            obtain ⟨j, hj0, rfl, HJ⟩ := hrel
            by_cases hlj : j < k
            · obtain ⟨ad7, rfl, f1⟩ := (RdF.below HW7.out HJ.out.2).at_ hlj
              have hrn := HRN.out j hlj
              obtain ⟨adm, hadm, f2⟩ := (HMR.out.below HJ.out.2).at_ (show rowN L k i j < k + m by have := HS.out; omega)
              injection hadm with hadm
              subst hadm
              rw [add_plain] at f2
              have f3 := HJ.out.1.cell hlj
              rw [if_neg (Nat.lt_irrefl j)] at f3
              have fz := HJ.out.1.frozen j
              obtain ⟨rj, hrj⟩ : ∃ rj, rj = rowN L k i j := ⟨_, rfl⟩
              rw [← hrj] at f1 f2 hrn
              have HRJ := Lib.hid hrj
              have HSS := HS.out
              have j1 : (j : Int) < (k : Int) := by omega
              have j0 : (0 : Int) ≤ (j : Int) := by omega
              have r1 : (rj : Int) < (i : Int) := by omega
              have r0 : (0 : Int) ≤ (rj : Int) := by omega
              have HN : Hid (RowAt (wr.setCell ⟨wz.heap.size, j, none⟩ (.slice (Mr rj) k (Mc rj))) wz.heap.size 22 k (fun x => if x < j + 1 then .slice (Mr (rowN L k i x)) k (Mc (rowN L k i x)) else .slice none 0 0) ∧ Below wz.heap.size wz (wr.setCell ⟨wz.heap.size, j, none⟩ (.slice (Mr rj) k (Mc rj)))) := Lib.hid
                ⟨(HJ.out.1.set j _).congr (fun x hx => by
                  by_cases e : x = j
                  · subst e; simp [hrj]
                  · simp only [e, if_false]
                    by_cases h1 : x < j
                    · simp [h1, show x < j + 1 by omega]
                    · simp [h1, show ¬ x < j + 1 by omega]), HJ.out.2.setCell (Nat.le_refl _) _⟩
              clear hrj HSS
              go_wp2_with (fail)
              go_roundg (k - (j + 1))
              case measure => omega
              case rel => exact ⟨j + 1, by omega, by go_num, HN⟩
            · obtain rfl : k = j := by omega
              have hPart : RdM wr (some ⟨wz.heap.size, 0, none⟩) k (fun _ => k) (rowsF (unitCau k) fun j => (rowN L k i j : Int)) :=
                ⟨fun j => Mr (rowN L k i j), fun j => Mc (rowN L k i j), (HJ.out.1.congr (fun x hx => by rw [if_pos hx])).rd, fun x hx => by
                  have h1 := HRN.out x hx
                  have h2 := HMW.out (rowN L k i x) (by have := HS.out; omega)
                  refine ⟨h2.1, RdF.congr (RdF.below h2.2 HJ.out.2) (fun y hy => ?_)⟩
                  show vb _ = vb (unitCau k ((rowN L k i x : Nat) : Int).toNat y)
                  rw [Int.toNat_natCast]⟩
              have hinv := rows_inverse (k := k) (m := m) (fun j => (rowN L k i j : Int)) (rowsTo L k i) (fun x hx => by rw [rowN_at (by have := HCK.out; omega), Int.toNat_natCast]) (rowsTo_nodup L k i) HCK.out (fun r hr => by have := (rowsTo_mem hr).1; have := HS.out; omega) (by have := HS.out; omega)
              have HX := Lib.hid (inverse_c (some ⟨wz.heap.size, 0, none⟩) k k (fun _ => k) (rowsF (unitCau k) fun j => (rowN L k i j : Int)) wr hPart (by omega) (fun _ _ => by omega))
              have HB5 := Lib.hid (below_then HBW.out HBW.out.size HJ.out.2)
              have H8 := Lib.hid (HW8.out.below HJ.out.2)
              obtain ⟨sx, hsx, _⟩ := hinv
              have HG := Lib.hid hsx
              clear hPart hsx HJ
              go_wp2_with (fail)
              refine HX.out.mono ?_
              rintro e w5 ⟨v, ⟨_, A', O', hgj, rfl, g, cap, bs, rfl, hcap, hM⟩ | ⟨_, hgj, _⟩ | ⟨hok, _⟩⟩
              · have HGJ := Lib.hid hgj
                have HT := Lib.hid (rstimes_c (some ⟨g, 0, none⟩) A8 k cap k c8 q (fun _ => k) O' (fun j => G (rowN L k i j)) w5 hM.1.rd (H8.out.below hM.2.2.2.2) (by omega) (by omega) hq2 hk hq1 (fun _ _ => Nat.le_refl _) (fun _ _ => by omega))
                have HB6 := Lib.hid (below_then HB5.out HB5.out.size hM.2.2.2.2)
                clear hgj hM
                go_wp2_with (fail)
                refine HT.out.mono ?_
                rintro e w6 ⟨v, rfl, hv⟩
                have HV := Lib.hid (NewMat.lower hv HB6.out)
                clear hv
                go_wp2_with (fail)
                go_ret
                exact .inr ⟨HCK.out, _, A', O', rfl, HGJ.out, HV.out⟩
              · rw [HG.out] at hgj
                cases hgj
              · exact absurd hok (by rw [show invOk k (fun _ => k) = true from by unfold invOk rightB; rw [decide_eq_true (by simp; omega), decide_eq_true rfl]; rfl]; decide)
end Go.Proofs.Ytccfnhocjiehnaa
