/- The document's data: the shards that hold the bytes, of those that are there. -/
import Derived.Test.YtccfnhocjiehnaaDocThere
import Derived.Test.YtccfnhocjiehnaaDocUnit
import Derived.Test.YtccfnhocjiehnaaRefInv
namespace Go.Proofs.Ytccfnhocjiehnaa
open Go.RowKit
set_option linter.unusedVariables false
set_option linter.unusedSimpArgs false

theorem cut_at {X G : Prop} (hx : X) (hf : Hid X → G) : G := hf (Lib.hid hx)
theorem RdF.cellS {w : World} {ad : Addr} {n : Nat} {f : Nat → Value} (h : RdF w (some ad) n f) {j : Nat} (hj : j < n) : w.cell? (ad.add j) = some (f j) := by
  obtain ⟨a, e, hc⟩ := h.at_ hj
  injection e with e
  subst e
  exact hc
theorem UnitCau.grow {w2 w3 : World} {base k m : Nat} {bs1 cs1 bs2 cs2 : Nat → Nat} {A' : Option Addr} {c' : Nat} {v : Value} {xs : List Value} (hrow : ∀ i, i < k → k ≤ cs1 i ∧ RowAt w2 (bs1 i) 5 k (fun j => vb (unitE i j)))
    (hP : ∀ i, i < m → k ≤ cs2 i ∧ RowAt w2 (bs2 i) 5 k (fun j => vb (cauE k i j))) (hown2 : w2.ownsRow base 22 1 v k xs) (hg : w2.grownBy w3 v.ownBlock)
    (hown : w3.ownsRow base 22 1 (.slice A' (k + m) c') (k + m) (rowVals k k bs1 cs1 ++ rowVals m k bs2 cs2)) : UnitCau w3 A' k m :=
  UnitCau.more (w := w3) (Pr := fun i => some ⟨bs2 i, 0, none⟩) (Pc := cs2) (fun i hi => ⟨(hrow i hi).1, (hrow i hi).2.grown hg (own_typed hown2 (hrow i hi).2 (by decide))⟩)
    (fun i hi => ⟨(hP i hi).1, ((hP i hi).2.grown hg (own_typed hown2 (hP i hi).2 (by decide))).rd⟩) (Below.refl _ _) hown
/-- The rows that were picked. -/
structure PartS (w wr : World) (k i : Nat) (A : Option Addr) (c : Nat) (Mr : Nat → Option Addr) (Mc : Nat → Nat) (rn : Nat → Nat) : Prop where
  own : wr.ownsRow w.heap.size 22 1 (.slice A i c) i ((List.range i).map fun a => .slice (Mr (rn a)) k (Mc (rn a)))
  below : Below w.heap.size w wr
theorem PartS.step {w wr w4 : World} {k i : Nat} {A : Option Addr} {c : Nat} {Mr : Nat → Option Addr} {Mc : Nat → Nat} {rn : Nat → Nat} {v : Value} {o : Obj} (h : PartS w wr k i A c Mr Mc rn)
    (hown : w4.ownsRow w.heap.size 22 1 v (i + 1) (((List.range i).map fun a => Value.slice (Mr (rn a)) k (Mc (rn a))) ++ [.slice (Mr (rn i)) k (Mc (rn i))])) (hg : (wr.alloc o).grownBy w4 (Value.slice A i c).ownBlock) :
    ∃ A' c', v = .slice A' (i + 1) c' ∧ PartS w w4 k (i + 1) A' c' Mr Mc rn := by
  obtain ⟨A', c', rfl, _⟩ := own_form hown
  refine ⟨A', c', rfl, ?_, (h.below.alloc h.below.size o).grown hg (by have := h.below.size; simp; omega) (own_base h.own)⟩
  rw [List.range_succ, List.map_append]
  exact hown
/-- A row that is summed up. -/
structure AccR (w wr : World) (q : Nat) (f : Nat → Gf.E) : Prop where
  row : wr.rowIs w.heap.size 5 q (fun y => vb (f y))
  below : Below w.heap.size w wr
theorem AccR.start (w : World) (q : Nat) : AccR w (w.alloc (.cells (madeCells #[.int .u8 0] q) 5)) q (fun _ => 0) := ⟨World.rowIs_made w (.int .u8 0) q 5, box_below w _⟩
theorem AccR.congr {w wr : World} {q : Nat} {f g : Nat → Gf.E} (h : AccR w wr q f) (e : ∀ y, y < q → f y = g y) : AccR w wr q g := ⟨rowIs_congr h.row (fun y hy => by rw [e y hy]), h.below⟩
theorem AccR.set {w wr : World} {q : Nat} {f : Nat → Gf.E} (h : AccR w wr q f) (x : Nat) (z : Gf.E) : AccR w ((wr.drewN 1).setCell ⟨w.heap.size, x, none⟩ (.int .u8 (z.val : Int))) q (fun y => if y = x then z else f y) :=
  ⟨rowIs_congr ((show (wr.drewN 1).rowIs w.heap.size 5 q (fun y => vb (f y)) from h.row).set x _) (fun y hy => by split <;> rfl), (below_drewN h.below 1).setCell (Nat.le_refl _) _⟩
theorem right_square {k : Nat} (h1 : 1 ≤ k) (h2 : k ≤ 255) : rightB k (fun _ => k) = true := by
  exact decide_eq_true ⟨h1, h2, h1, h2, fun _ _ => rfl⟩
theorem rowN_pres {L : Nat → Nat} {k s j : Nat} (hj : j < k) : rowN L k s j = (presTo L s).getD j 0 := by
  unfold rowN rowsTo
  rw [List.getD_eq_getElem?_getD, List.getElem?_take_of_lt hj, ← List.getD_eq_getElem?_getD]

set_option maxRecDepth 100000 in
set_option maxHeartbeats 16000000 in
theorem docdata_c (b k m s : Nat) (A : Option Addr) (c q : Nat) (L : Nat → Nat) (G : Nat → Nat → Gf.E) (Al : Option Addr) (cl : Nat) (w : World) (hs : s = k + m) (hc : DocR w b k m) (hk : 1 ≤ k) (hkm : s ≤ 255) (ha : RdM w A s L G) (hl : ∀ i, i < s → L i = 0 ∨ L i = q) (hq1 : 1 ≤ q) (hq2 : q ≤ 1048576)
    (hal : RdF w Al (presTo L s).length (fun j => .int .i64 (((presTo L s).getD j 0 : Nat) : Int))) (hlen : k ≤ (presTo L s).length) :
    Calls Try.prog 45 #[.pointer (some ⟨b, 0, none⟩), .slice A s c, .slice Al (presTo L s).length cl, .int .i64 q] w fun e w' => ∃ v As cs w1 A' O', e = .returned v ∧ gjTo k (rowsF (unitCau k) fun j => (rowN L k s j : Int)) k = some (A', O') ∧ Below w.heap.size w w1 ∧ CopyR w1 w' k v As cs (fun _ => q) (timesF O' (fun a => G (rowN L k s a)) k) := by
  obtain ⟨i56, hi, hz0, hz1, hz2⟩ := info_parts info56
  have hmk := run_make_row' (P := Try.prog) 22 5 (.int .u8 0) 1 Try.underlying22 info5 rfl .i64 .i64 q (by omega) (by omega)
  have hrl : (rowsTo L k s).length = k := by unfold rowsTo; rw [List.length_take]; omega
  obtain ⟨sx, hsx, _⟩ := rows_inverse (k := k) (m := m) (fun j => (rowN L k s j : Int)) (rowsTo L k s) (fun x hx => by rw [rowN_at (by omega), Int.toNat_natCast]) (rowsTo_nodup L k s) hrl (fun r hr => by have := (rowsTo_mem hr).1; omega) (by omega)
  have HSX := Lib.hid hsx
  obtain ⟨rn, hrn⟩ : ∃ rn, rn = rowN L k s := ⟨_, rfl⟩
  have HRS := Lib.hid (fun j (hj : j < k) => show rn j < s ∧ L (rn j) = q from by
    rw [hrn]
    have h1 := rowN_mem (L := L) (k := k) (i := s) (j := j) (by omega)
    rcases hl _ h1.1 with h | h
    · omega
    · exact ⟨h1.1, h⟩)
  obtain ⟨al, rfl, _⟩ := hal.at_ (show 0 < (presTo L s).length by omega)
  have HAL := Lib.hid (show RdF w (some al) k (fun j => .int .i64 ((rn j : Nat) : Int)) from fun _ => ⟨al, rfl, fun j hj => by rw [hal.cellS (j := j) (by omega)]; show some (Value.int .i64 (((presTo L s).getD j 0 : Nat) : Int)) = some (.int .i64 ((rn j : Nat) : Int)); rw [hrn, rowN_pres hj]⟩)
  obtain ⟨Ar, Cr, ha1, ha2⟩ := ha
  obtain ⟨sa, rfl, _⟩ := ha1.at_ (show 0 < s by omega)
  have HA1 := Lib.hid ha1
  have HA2 := Lib.hid ha2
  have HC := Lib.hid hc
  have c1 := hc.1
  obtain ⟨l9, hl9⟩ : ∃ l9, l9 = (presTo L s).length := ⟨_, rfl⟩
  rw [← hl9] at hlen ⊢
  have HS := Lib.hid hs
  rw [← hrn] at HSX ⊢
  have k1 : (1 : Int) ≤ (k : Int) := by omega
  have s255 : (s : Int) ≤ 255 := by omega
  have l91 : (k : Int) ≤ (l9 : Int) := by omega
  have hm255 : m ≤ 255 := by omega
  have k255 : k ≤ 255 := by omega
  have km255 : k + m ≤ 255 := by omega
  clear hal ha1 ha2 hc hl hs hrn hsx hrl hl9
  go_enter Try.func45, Try.ntmps45
  go_wp2_with (fail)
  refine (runit_own k _ hk (by omega)).mono ?_
  rintro e w1 ⟨g1, cap1, bs1, rfl, hM1, hcap1, hown1⟩
  have HM1 := Lib.hid hM1
  have HO1 := Lib.hid hown1
  have HB1 := Lib.hid hM1.2.2.2.2
  have c1 := (HC.out.below HB1.out).1
  have c2 := (HC.out.below HB1.out).2
  clear hM1 hown1
  by_cases hm : m = 0
  · subst hm
    have HU := Lib.hid (show UnitCau w1 (some ⟨g1, 0, none⟩) k 0 from UnitCau.zero HM1.out.1)
    obtain ⟨wu, hwu⟩ : ∃ wu, wu = w1 := ⟨_, rfl⟩
    subst hwu
    have HBU := HB1
    have hsk : s = k := by have := HS.out; omega
    have HSK : Hid (s = k) := Lib.hid hsk
    clear hsk HO1
    go_wp2_with (fail)
    have HCU := Lib.hid (HC.out.below HBU.out)
    obtain ⟨Mr, Mc, hm3, hm4⟩ := HU.out
    have HMR := Lib.hid hm3
    have HMW := Lib.hid hm4
    clear hm3 hm4 c1 c2 HU
    have HST : Hid (PartS wu wu k 0 none 0 Mr Mc rn) := Lib.hid ⟨World.ownsRow_nil _ _ _ _, Below.refl _ _⟩
    go_loopg [13, 14] k (fun kq v13 v14 wr => ∃ (i : Nat) (A13 : Option Addr) (c13 : Nat), i + kq = k ∧ v14 = .int .i64 (i : Int) ∧ v13 = .slice A13 i c13 ∧ Hid (PartS wu wr k i A13 c13 Mr Mc rn))
    case atStart => exact ⟨0, none, 0, by omega, rfl, rfl, HST⟩
    case round =>
      clear HST
      obtain ⟨i, A13, c13, hi0, rfl, rfl, HP⟩ := hrel
      have c1 := (HCU.out.below HP.out.below).1
      by_cases hlt : i < k
      · have i1 : (i : Int) < (k : Int) := by omega
        have i0 : (0 : Int) ≤ (i : Int) := by omega
        have i2 : (i : Int) < (l9 : Int) := by omega
        have i255 : i ≤ 255 := by omega
        have f1 := (RdF.below (RdF.below HAL.out HBU.out) HP.out.below).cellS hlt
        have f2 := (RdF.below HMR.out HP.out.below).cellS (show rn i < k + 0 by have := (HRS.out i hlt).1; have := HS.out; omega)
        rw [add_plain] at f2
        have hrs := (HRS.out i hlt).1
        obtain ⟨rj, hrj⟩ : ∃ rj, rj = rn i := ⟨_, rfl⟩
        rw [← hrj] at f1 f2 hrs
        have r1 : (rj : Int) < (k : Int) := by have := HSK.out; omega
        have r0 : (0 : Int) ≤ (rj : Int) := by omega
        have HRJ := Lib.hid hrj
        clear hrj
        go_wp2_with (at_builtin; refine wpList_append_own _ rfl (.tmp 58) (.tmp 66) 28 rfl wu.heap.size 22 i56 (.slice none 0 0) 1 24 Try.underlying28 hi hz0 hz1 hz2 rfl (by decide) (.slice A13 i c13) i _ (by rfl) (HP.out.own.alloc _) ⟨wr.heap.size, 0, none⟩ 1 1 [.slice (Mr rj) k (Mc rj)] (by rfl) rfl (one_news _ _ _ rfl) (one_one _ rfl) (by unfold maxLen; omega) (by omega) (by have := HP.out.below.size; simp; omega) ?_; intro v7 w7 hown7 hg7 hz; clear hz; rw [HRJ.out] at hown7; have HS7 := Lib.hid (HP.out.step hown7 hg7); clear hown7 hg7)
        obtain ⟨A14, c14, hv, hS⟩ := HS7.out
        subst hv
        replace hS := Lib.hid hS
        clear HS7
        go_roundg (k - (i + 1))
        case measure => omega
        case rel => exact ⟨i + 1, A14, c14, by omega, by go_num, rfl, hS⟩
      · obtain rfl : k = i := by omega
        have hPart : RdM wr A13 k (fun _ => k) (rowsF (unitCau k) fun j => (rn j : Int)) := ⟨fun j => Mr (rn j), fun j => Mc (rn j), RdF.of_own HP.out.own (f := fun j => .slice (Mr (rn j)) k (Mc (rn j))) (fun j hj => by rw [List.getElem?_map, List.getElem?_range hj]; rfl), fun x hx => by
          have h1 := (HRS.out x hx).1
          have h2 := HMW.out (rn x) (by have := HS.out; omega)
          refine ⟨h2.1, RdF.congr (RdF.below h2.2 HP.out.below) (fun y hy => ?_)⟩
          show vb _ = vb (unitCau k ((rn x : Nat) : Int).toNat y)
          rw [Int.toNat_natCast]⟩
        have HX := Lib.hid (rinverse_yes A13 k c13 (fun _ => k) _ wr hPart (by omega) (fun _ _ => by omega) (right_square hk k255) rfl)
        have HB5 := Lib.hid (below_then HBU.out HBU.out.size HP.out.below)
        clear hPart HP
        go_wp2_with (fail)
        refine HX.out.mono ?_
        rintro e w4 ⟨v, ⟨A', O', hgj, rfl, gI, capI, bsI, rfl, hcapI, hMI⟩ | ⟨hgj, _⟩⟩
        · have HGJ := Lib.hid hgj
          have HMI := Lib.hid hMI.1
          have HB4 := Lib.hid (below_then HB5.out HB5.out.size hMI.2.2.2.2)
          have HST2 := Lib.hid (CopyR.start w4 w4 (fun _ => q) (timesF O' (fun a => G (rn a)) k) (Below.refl _ _))
          obtain ⟨S, hS⟩ : ∃ S : Nat → Nat → Nat → Gf.E, S = fun j i y => sumE i (fun a => Gf.mul (O' j a) (G (rn a) y)) := ⟨_, rfl⟩
          have HSS := Lib.hid hS
          clear hgj hMI HX hS c1
          have c1 := (HC.out.below HB4.out).1
          go_wp2_with (fail)
          clear c1
          go_loopg [17, 18] k (fun kq v17 v18 wr => ∃ j : Nat, j + kq = k ∧ v18 = .int .i64 (j : Int) ∧ ∃ As cs, Hid (CopyR w4 wr j v17 As cs (fun _ => q) (timesF O' (fun a => G (rn a)) k)))
          case atStart => exact ⟨0, by omega, rfl, _, _, HST2⟩
          case round =>
            clear HST2
            obtain ⟨j, hj0, rfl, As, cs, HI⟩ := hrel
            obtain ⟨wo, hwo⟩ : ∃ wo, wo = wr := ⟨_, rfl⟩
            subst hwo
            have HBO := Lib.hid (below_then HB4.out HB4.out.size HI.out.below)
            have c1 := (HC.out.below HBO.out).1
            by_cases hlj : j < k
            · have j1 : (j : Int) < (k : Int) := by omega
              have j0 : (0 : Int) ≤ (j : Int) := by omega
              have HACC := Lib.hid ((AccR.start wo q).congr (g := S j 0) (fun y _ => by rw [HSS.out]; rfl))
              go_wp2_with (fail)
              clear c1
              go_loopg [20] k (fun iq v20 wr => ∃ i : Nat, i + iq = k ∧ v20 = .int .i64 (i : Int) ∧ Hid (AccR wo wr q (S j i)))
              case atStart => exact ⟨0, by omega, rfl, HACC⟩
              case round =>
                clear HACC
                obtain ⟨i, hi0, rfl, HACC⟩ := hrel
                have c1 := (HC.out.below (below_then HBO.out HBO.out.size HACC.out.below)).1
                by_cases hik : i < k
                · have i1 : (i : Int) < (k : Int) := by omega
                  have i0 : (0 : Int) ≤ (i : Int) := by omega
                  obtain ⟨csI, hI1, hI2⟩ := (HMI.out.below HI.out.below).below HACC.out.below
                  have f1 := hI1.cell hlj
                  have f2 := (hI2 j hlj).2.cell hik
                  obtain ⟨y0, hy0⟩ : ∃ y, y = O' j i := ⟨_, rfl⟩
                  rw [← hy0] at f2
                  unfold vb at f2
                  have HY0 := Lib.hid hy0
                  clear hI1 hI2 hy0
                  by_cases hz : y0 = 0
                  · have HN := Lib.hid (HACC.out.congr (g := S j (i + 1)) (fun y _ => by
                      rw [HSS.out]
                      show sumE i _ = Gf.add (sumE i _) (Gf.mul (O' j i) _)
                      rw [← HY0.out, hz, Gf.zero_mul, Gf.add_zero]))
                    have d0 : (y0.val : Int) = 0 := by rw [hz]; rfl
                    clear hz HACC
                    go_wp2_with (fail)
                    go_roundg (k - (i + 1))
                    case measure => omega
                    case rel => exact ⟨i + 1, by omega, by go_num, HN⟩
                  · have d0 : ((y0.val : Int) == 0) = false := by
                      rw [beq_eq_false_iff_ne]
                      intro h
                      exact hz (Fin.ext (show y0.val = 0 by omega))
                    have HA2X := Lib.hid (HACC.out.congr (g := fun y => if y < 0 then S j (i + 1) y else S j i y) (fun y _ => by rw [if_neg (by omega)]))
                    obtain ⟨wi, hwi⟩ : ∃ wi, wi = wr := ⟨_, rfl⟩
                    subst hwi
                    clear hz HACC
                    go_wp2_with (fail)
                    clear c1 f1 f2 d0
                    go_loopg [21] q (fun xq v21 wr => ∃ x : Nat, x + xq = q ∧ v21 = .int .i64 (x : Int) ∧ Hid (AccR wo wr q (fun y => if y < x then S j (i + 1) y else S j i y)))
                    case atStart => exact ⟨0, by omega, rfl, HA2X⟩
                    case round =>
                      clear HA2X
                      obtain ⟨x, hx0, rfl, HX2⟩ := hrel
                      have hbw := below_then HBO.out HBO.out.size HX2.out.below
                      by_cases hxq : x < q
                      · have x1 : (x : Int) < (q : Int) := by omega
                        have x0 : (0 : Int) ≤ (x : Int) := by omega
                        have g1 := HX2.out.row.cell hxq
                        rw [if_neg (Nat.lt_irrefl x)] at g1
                        have gz := HX2.out.row.frozen x
                        obtain ⟨csI, hI1, hI2⟩ := (HMI.out.below HI.out.below).below HX2.out.below
                        have f1 := hI1.cell hlj
                        have f2 := (hI2 j hlj).2.cell hik
                        rw [← HY0.out] at f2
                        have f3 := (RdF.below HAL.out hbw).cellS hik
                        have hrs := HRS.out i hik
                        obtain ⟨rj, hrj⟩ : ∃ rj, rj = rn i := ⟨_, rfl⟩
                        rw [← hrj] at f3 hrs
                        have f4 := (RdF.below HA1.out hbw).cellS hrs.1
                        have hu := RdF.below (HA2.out rj hrs.1).2 hbw
                        rw [hrs.2] at f4 hu
                        obtain ⟨bk, hbk, f5⟩ := hu.at_ hxq
                        rw [hbk] at f4
                        have rj1 : (rj : Int) < (s : Int) := by have := hrs.1; omega
                        have rj0 : (0 : Int) ≤ (rj : Int) := by omega
                        have i2 : (i : Int) < (l9 : Int) := by omega
                        unfold vb at g1 f2 f5
                        obtain ⟨s0, hs0⟩ : ∃ s0, s0 = S j i x := ⟨_, rfl⟩
                        rw [← hs0] at g1
                        obtain ⟨z0, hz0'⟩ : ∃ z0, z0 = G rj x := ⟨_, rfl⟩
                        rw [← hz0'] at f5
                        have e3 := u8_xor_nat s0.val (Gf.mul y0 z0).val s0.isLt (Gf.mul y0 z0).isLt
                        have HN := Lib.hid ((HX2.out.set x (Gf.add s0 (Gf.mul y0 z0))).congr (g := fun y => if y < x + 1 then S j (i + 1) y else S j i y) (fun y _ => by
                          by_cases e : y = x
                          · subst e; rw [if_pos rfl, if_pos (by omega), hs0, hz0', HY0.out, hrj, HSS.out]; rfl
                          · rw [if_neg e]
                            by_cases e2 : y < x
                            · rw [if_pos e2, if_pos (by omega)]
                            · rw [if_neg e2, if_neg (by omega)]))
                        clear hbw hI1 hI2 hrs hrj hu hbk hs0 hz0' HX2
                        go_wp2_with (fail)
                        refine wp_region_still_tail 26 (by kernel_rfl) (by kernel_rfl) ?_
                        simp only [List.take_succ_cons, List.take_zero, List.drop_succ_cons, List.drop_zero]
                        repeat (first | still_step | still_call ((rmul_v _ _ _).mono fun _ _ h => ⟨h.1, h.2.symm⟩))
                        refine wpStill_nil ?_
                        change wpList _ _ _ _ _ wr.drew
                        go_wp2_with (fail)
                        go_roundg (q - (x + 1))
                        case measure => omega
                        case rel => exact ⟨x + 1, by omega, by go_num, HN⟩
                      · obtain rfl : q = x := by omega
                        have HN := Lib.hid (HX2.out.congr (g := S j (i + 1)) (fun y hy => by rw [if_pos hy]))
                        clear hbw HX2
                        go_wp2_with (fail)
                        go_roundg (k - (i + 1))
                        case measure => omega
                        case rel => exact ⟨i + 1, by omega, by go_num, HN⟩
                · obtain rfl : k = i := by omega
                  have HB := Lib.hid HACC.out.below
                  have HO := Lib.hid (show wr.ownsRow wo.heap.size 5 1 (.slice (some ⟨wo.heap.size, 0, none⟩) q q) q (newsB q (timesF O' (fun a => G (rn a)) k j)) from own_of_is (rowIs_congr HACC.out.row (fun y hy => by rw [HSS.out]; rfl)) (Nat.le_refl _) (by unfold maxLen; omega))
                  clear HACC
                  go_wp2_with (at_builtin; refine wpList_append_own _ rfl (.tmp 130) (.tmp 132) 28 rfl w4.heap.size 22 i56 (.slice none 0 0) 1 24 Try.underlying28 hi hz0 hz1 hz2 rfl (by decide) _ j _ rfl (HI.out.ownUp HB.out _) _ 1 1 [.slice (some ⟨wo.heap.size, 0, none⟩) q q] rfl rfl (one_news _ _ _ rfl) (one_one _ rfl) (by unfold maxLen; omega) (by omega) (by have := HI.out.below.size; have := HB.out.size; simp; omega) ?_; intro v2 w9 hown2 hgrow2 hz; clear hz; have HS9 := Lib.hid (HI.out.step HB.out HO.out hown2 hgrow2); clear hown2 hgrow2)
                  obtain ⟨As2, cs2, hS⟩ := HS9.out
                  replace hS := Lib.hid hS
                  clear HS9
                  go_roundg (k - (j + 1))
                  case measure => omega
                  case rel => exact ⟨j + 1, by omega, by go_num, _, _, hS⟩
            · obtain rfl : k = j := by omega
              go_wp2_with (fail)
              go_ret
              exact ⟨_, As, cs, w4, A', O', rfl, HGJ.out, HB4.out, HI.out⟩
        · rw [HSX.out] at hgj
          cases hgj
  · have hm1 : (1 : Int) ≤ (m : Int) := by omega
    have hm0 : (0 : Int) < (m : Int) := by omega
    go_wp2_with (fail)
    apply cut_at
    case hf =>
      intro hX
      refine wp_region_noPanic ?_
      go_region_law (go_simp; go_at_call 55; refine (rcauchy_yes m k _ (by omega) (by omega) (by omega)).mono ?_; rintro e w2 ⟨v, rfl, g2, cap2, bs2, rfl, hcap2, hM2, hy1, hy2, hy3, hb2⟩; clear hy1 hy2 hy3; replace hM2 := Lib.hid hM2; replace hb2 := Lib.hid hb2)
      all_goals refine NoPanic.normal ?_
      all_goals
        obtain ⟨cs2, hq1, hq2⟩ := hM2.out
        have HNW := Lib.hid (show ∀ j u, (rowVals m k bs2 cs2)[j]? = some u → w2.cell? ((⟨g2, 0, none⟩ : Addr).add j) = some u from fun j u hj => by
          have hl : j < m := by
            have := (List.getElem?_eq_some_iff.1 hj).1
            rwa [rowVals_len] at this
          rw [rowVals_at hl] at hj
          injection hj with hj
          rw [← hj, add_plain]; exact hq1.cell hl)
        have HO2 := Lib.hid (show w2.ownsRow w.heap.size 22 1 (.slice (some ⟨g1, 0, none⟩) k cap1) k (rowVals k k bs1 (fun _ => k)) from own_below (w := w1.drew) HO1.out hb2.out)
        have HX1 := Lib.hid (show (rowVals m k bs2 cs2).length = m * 1 by rw [rowVals_len, Nat.mul_one])
        have HX2 := Lib.hid (show k + m ≤ maxLen by unfold maxLen; omega)
        have HX3 := Lib.hid (show (k + m) * 24 ≤ 140737488355328 by omega)
        have HX4 := Lib.hid (show w.heap.size ≤ w2.heap.size from Nat.le_trans HB1.out.size hb2.out.size)
        have HMORE : Hid (∀ v5 w5, w5.ownsRow w.heap.size 22 1 v5 (k + m) (rowVals k k bs1 (fun _ => k) ++ rowVals m k bs2 cs2) → w2.grownBy w5 (Value.slice (some ⟨g1, 0, none⟩) k cap1).ownBlock → ∃ g5 c5, v5 = .slice (some ⟨g5, 0, none⟩) s c5 ∧ Hid (UnitCau w5 (some ⟨g5, 0, none⟩) k m) ∧ Hid (Below w.heap.size w w5)) := Lib.hid (fun v5 w5 ho hg => by
          obtain ⟨g5, c5, cur5, rfl, _⟩ : ∃ g5 c5 cur5, v5 = .slice (some ⟨g5, 0, none⟩) (k + m) c5 ∧ w5.heap[g5]? = some (.cells cur5 22 (0, 0)) := by
            rcases ho.2 with ⟨_, h⟩ | ⟨g, cap, cur, rfl, _, h, _⟩
            · omega
            · exact ⟨g, cap, cur, rfl, h⟩
          have hrow : ∀ i, i < k → k ≤ k ∧ RowAt w2 (bs1 i) 5 k (fun j => vb (unitE i j)) := fun i hi => ⟨Nat.le_refl _, by
            obtain ⟨cs1, _, h⟩ := HM1.out.1
            exact ((h i hi).2.drewN 1).below hb2.out⟩
          exact ⟨g5, c5, by rw [HS.out], Lib.hid (UnitCau.grow (cs1 := fun _ => k) hrow hq2 HO2.out hg ho), Lib.hid ((below_then (below_drewN HB1.out 1) HB1.out.size hb2.out).grown hg HX4.out (own_base HO2.out))⟩)
        clear hq1 hq2
        go_wp2_with (at_builtin; refine wpList_append_own _ rfl (.tmp 47) (.tmp 48) 28 rfl w.heap.size 22 i56 (.slice none 0 0) 1 24 Try.underlying28 hi hz0 hz1 hz2 rfl (by decide) (.slice (some ⟨g1, 0, none⟩) k cap1) k (rowVals k k bs1 (fun _ => k)) (by rfl) HO2.out ⟨g2, 0, none⟩ m cap2 (rowVals m k bs2 cs2) (by rfl) HX1.out HNW.out (rowVals_one _ _ _ _) HX2.out HX3.out HX4.out ?_; intro v5 w5 hown5 hg5 hz; clear hz; obtain ⟨g5, c5, hv5, hU5, hB5⟩ := HMORE.out v5 w5 hown5 hg5; subst hv5; clear hown5 hg5)
        clear HMORE HX4 HX3 HX2 HX1 HO2 HNW cs2 hb2 hM2 bs2 hcap2
        clear w2
        rename_i KK hKK
        revert hKK
        revert KK
        revert hU5 hB5
        revert w5 c5 g5 cap2 g2
        exact hX.out
    case hx =>
    intro g2 cap2 w5 g5 c5 HU HBU KK hKK
    obtain ⟨wu, hwu⟩ : ∃ wu, wu = w5 := ⟨_, rfl⟩
    subst hwu
    have HSK : Hid (s = s) := Lib.hid rfl
    clear HO1
    have HCU := Lib.hid (HC.out.below HBU.out)
    obtain ⟨Mr, Mc, hm3, hm4⟩ := HU.out
    have HMR := Lib.hid hm3
    have HMW := Lib.hid hm4
    clear hm3 hm4 c1 c2 HU
    have HST : Hid (PartS wu wu k 0 none 0 Mr Mc rn) := Lib.hid ⟨World.ownsRow_nil _ _ _ _, Below.refl _ _⟩
    go_loopg [13, 14] k (fun kq v13 v14 wr => ∃ (i : Nat) (A13 : Option Addr) (c13 : Nat), i + kq = k ∧ v14 = .int .i64 (i : Int) ∧ v13 = .slice A13 i c13 ∧ Hid (PartS wu wr k i A13 c13 Mr Mc rn))
    case atStart => exact ⟨0, none, 0, by omega, rfl, rfl, HST⟩
    case round =>
      clear HST
      obtain ⟨i, A13, c13, hi0, rfl, rfl, HP⟩ := hrel
      have c1 := (HCU.out.below HP.out.below).1
      by_cases hlt : i < k
      · have i1 : (i : Int) < (k : Int) := by omega
        have i0 : (0 : Int) ≤ (i : Int) := by omega
        have i2 : (i : Int) < (l9 : Int) := by omega
        have i255 : i ≤ 255 := by omega
        have f1 := (RdF.below (RdF.below HAL.out HBU.out) HP.out.below).cellS hlt
        have f2 := (RdF.below HMR.out HP.out.below).cellS (show rn i < k + m by have := (HRS.out i hlt).1; have := HS.out; omega)
        rw [add_plain] at f2
        have hrs := (HRS.out i hlt).1
        obtain ⟨rj, hrj⟩ : ∃ rj, rj = rn i := ⟨_, rfl⟩
        rw [← hrj] at f1 f2 hrs
        have r1 : (rj : Int) < (s : Int) := by have := HSK.out; omega
        have r0 : (0 : Int) ≤ (rj : Int) := by omega
        have HRJ := Lib.hid hrj
        clear hrj
        go_wp2_with (at_builtin; refine wpList_append_own _ rfl (.tmp 58) (.tmp 66) 28 rfl wu.heap.size 22 i56 (.slice none 0 0) 1 24 Try.underlying28 hi hz0 hz1 hz2 rfl (by decide) (.slice A13 i c13) i _ (by rfl) (HP.out.own.alloc _) ⟨wr.heap.size, 0, none⟩ 1 1 [.slice (Mr rj) k (Mc rj)] (by rfl) rfl (one_news _ _ _ rfl) (one_one _ rfl) (by unfold maxLen; omega) (by omega) (by have := HP.out.below.size; simp; omega) ?_; intro v7 w7 hown7 hg7 hz; clear hz; rw [HRJ.out] at hown7; have HS7 := Lib.hid (HP.out.step hown7 hg7); clear hown7 hg7)
        obtain ⟨A14, c14, hv, hS⟩ := HS7.out
        subst hv
        replace hS := Lib.hid hS
        clear HS7
        go_roundg (k - (i + 1))
        case measure => omega
        case rel => exact ⟨i + 1, A14, c14, by omega, by go_num, rfl, hS⟩
      · obtain rfl : k = i := by omega
        have hPart : RdM wr A13 k (fun _ => k) (rowsF (unitCau k) fun j => (rn j : Int)) := ⟨fun j => Mr (rn j), fun j => Mc (rn j), RdF.of_own HP.out.own (f := fun j => .slice (Mr (rn j)) k (Mc (rn j))) (fun j hj => by rw [List.getElem?_map, List.getElem?_range hj]; rfl), fun x hx => by
          have h1 := (HRS.out x hx).1
          have h2 := HMW.out (rn x) (by have := HS.out; omega)
          refine ⟨h2.1, RdF.congr (RdF.below h2.2 HP.out.below) (fun y hy => ?_)⟩
          show vb _ = vb (unitCau k ((rn x : Nat) : Int).toNat y)
          rw [Int.toNat_natCast]⟩
        have HX := Lib.hid (rinverse_yes A13 k c13 (fun _ => k) _ wr hPart (by omega) (fun _ _ => by omega) (right_square hk k255) rfl)
        have HB5 := Lib.hid (below_then HBU.out HBU.out.size HP.out.below)
        clear hPart HP
        go_wp2_with (fail)
        refine HX.out.mono ?_
        rintro e w4 ⟨v, ⟨A', O', hgj, rfl, gI, capI, bsI, rfl, hcapI, hMI⟩ | ⟨hgj, _⟩⟩
        · have HGJ := Lib.hid hgj
          have HMI := Lib.hid hMI.1
          have HB4 := Lib.hid (below_then HB5.out HB5.out.size hMI.2.2.2.2)
          have HST2 := Lib.hid (CopyR.start w4 w4 (fun _ => q) (timesF O' (fun a => G (rn a)) k) (Below.refl _ _))
          obtain ⟨S, hS⟩ : ∃ S : Nat → Nat → Nat → Gf.E, S = fun j i y => sumE i (fun a => Gf.mul (O' j a) (G (rn a) y)) := ⟨_, rfl⟩
          have HSS := Lib.hid hS
          clear hgj hMI HX hS c1
          have c1 := (HC.out.below HB4.out).1
          go_wp2_with (fail)
          clear c1
          go_loopg [17, 18] k (fun kq v17 v18 wr => ∃ j : Nat, j + kq = k ∧ v18 = .int .i64 (j : Int) ∧ ∃ As cs, Hid (CopyR w4 wr j v17 As cs (fun _ => q) (timesF O' (fun a => G (rn a)) k)))
          case atStart => exact ⟨0, by omega, rfl, _, _, HST2⟩
          case round =>
            clear HST2
            obtain ⟨j, hj0, rfl, As, cs, HI⟩ := hrel
            obtain ⟨wo, hwo⟩ : ∃ wo, wo = wr := ⟨_, rfl⟩
            subst hwo
            have HBO := Lib.hid (below_then HB4.out HB4.out.size HI.out.below)
            have c1 := (HC.out.below HBO.out).1
            by_cases hlj : j < k
            · have j1 : (j : Int) < (k : Int) := by omega
              have j0 : (0 : Int) ≤ (j : Int) := by omega
              have HACC := Lib.hid ((AccR.start wo q).congr (g := S j 0) (fun y _ => by rw [HSS.out]; rfl))
              go_wp2_with (fail)
              clear c1
              go_loopg [20] k (fun iq v20 wr => ∃ i : Nat, i + iq = k ∧ v20 = .int .i64 (i : Int) ∧ Hid (AccR wo wr q (S j i)))
              case atStart => exact ⟨0, by omega, rfl, HACC⟩
              case round =>
                clear HACC
                obtain ⟨i, hi0, rfl, HACC⟩ := hrel
                have c1 := (HC.out.below (below_then HBO.out HBO.out.size HACC.out.below)).1
                by_cases hik : i < k
                · have i1 : (i : Int) < (k : Int) := by omega
                  have i0 : (0 : Int) ≤ (i : Int) := by omega
                  obtain ⟨csI, hI1, hI2⟩ := (HMI.out.below HI.out.below).below HACC.out.below
                  have f1 := hI1.cell hlj
                  have f2 := (hI2 j hlj).2.cell hik
                  obtain ⟨y0, hy0⟩ : ∃ y, y = O' j i := ⟨_, rfl⟩
                  rw [← hy0] at f2
                  unfold vb at f2
                  have HY0 := Lib.hid hy0
                  clear hI1 hI2 hy0
                  by_cases hz : y0 = 0
                  · have HN := Lib.hid (HACC.out.congr (g := S j (i + 1)) (fun y _ => by
                      rw [HSS.out]
                      show sumE i _ = Gf.add (sumE i _) (Gf.mul (O' j i) _)
                      rw [← HY0.out, hz, Gf.zero_mul, Gf.add_zero]))
                    have d0 : (y0.val : Int) = 0 := by rw [hz]; rfl
                    clear hz HACC
                    go_wp2_with (fail)
                    go_roundg (k - (i + 1))
                    case measure => omega
                    case rel => exact ⟨i + 1, by omega, by go_num, HN⟩
                  · have d0 : ((y0.val : Int) == 0) = false := by
                      rw [beq_eq_false_iff_ne]
                      intro h
                      exact hz (Fin.ext (show y0.val = 0 by omega))
                    have HA2X := Lib.hid (HACC.out.congr (g := fun y => if y < 0 then S j (i + 1) y else S j i y) (fun y _ => by rw [if_neg (by omega)]))
                    obtain ⟨wi, hwi⟩ : ∃ wi, wi = wr := ⟨_, rfl⟩
                    subst hwi
                    clear hz HACC
                    go_wp2_with (fail)
                    clear c1 f1 f2 d0
                    go_loopg [21] q (fun xq v21 wr => ∃ x : Nat, x + xq = q ∧ v21 = .int .i64 (x : Int) ∧ Hid (AccR wo wr q (fun y => if y < x then S j (i + 1) y else S j i y)))
                    case atStart => exact ⟨0, by omega, rfl, HA2X⟩
                    case round =>
                      clear HA2X
                      obtain ⟨x, hx0, rfl, HX2⟩ := hrel
                      have hbw := below_then HBO.out HBO.out.size HX2.out.below
                      by_cases hxq : x < q
                      · have x1 : (x : Int) < (q : Int) := by omega
                        have x0 : (0 : Int) ≤ (x : Int) := by omega
                        have g1 := HX2.out.row.cell hxq
                        rw [if_neg (Nat.lt_irrefl x)] at g1
                        have gz := HX2.out.row.frozen x
                        obtain ⟨csI, hI1, hI2⟩ := (HMI.out.below HI.out.below).below HX2.out.below
                        have f1 := hI1.cell hlj
                        have f2 := (hI2 j hlj).2.cell hik
                        rw [← HY0.out] at f2
                        have f3 := (RdF.below HAL.out hbw).cellS hik
                        have hrs := HRS.out i hik
                        obtain ⟨rj, hrj⟩ : ∃ rj, rj = rn i := ⟨_, rfl⟩
                        rw [← hrj] at f3 hrs
                        have f4 := (RdF.below HA1.out hbw).cellS hrs.1
                        have hu := RdF.below (HA2.out rj hrs.1).2 hbw
                        rw [hrs.2] at f4 hu
                        obtain ⟨bk, hbk, f5⟩ := hu.at_ hxq
                        rw [hbk] at f4
                        have rj1 : (rj : Int) < (s : Int) := by have := hrs.1; omega
                        have rj0 : (0 : Int) ≤ (rj : Int) := by omega
                        have i2 : (i : Int) < (l9 : Int) := by omega
                        unfold vb at g1 f2 f5
                        obtain ⟨s0, hs0⟩ : ∃ s0, s0 = S j i x := ⟨_, rfl⟩
                        rw [← hs0] at g1
                        obtain ⟨z0, hz0'⟩ : ∃ z0, z0 = G rj x := ⟨_, rfl⟩
                        rw [← hz0'] at f5
                        have e3 := u8_xor_nat s0.val (Gf.mul y0 z0).val s0.isLt (Gf.mul y0 z0).isLt
                        have HN := Lib.hid ((HX2.out.set x (Gf.add s0 (Gf.mul y0 z0))).congr (g := fun y => if y < x + 1 then S j (i + 1) y else S j i y) (fun y _ => by
                          by_cases e : y = x
                          · subst e; rw [if_pos rfl, if_pos (by omega), hs0, hz0', HY0.out, hrj, HSS.out]; rfl
                          · rw [if_neg e]
                            by_cases e2 : y < x
                            · rw [if_pos e2, if_pos (by omega)]
                            · rw [if_neg e2, if_neg (by omega)]))
                        clear hbw hI1 hI2 hrs hrj hu hbk hs0 hz0' HX2
                        go_wp2_with (fail)
                        refine wp_region_still_tail 26 (by kernel_rfl) (by kernel_rfl) ?_
                        simp only [List.take_succ_cons, List.take_zero, List.drop_succ_cons, List.drop_zero]
                        repeat (first | still_step | still_call ((rmul_v _ _ _).mono fun _ _ h => ⟨h.1, h.2.symm⟩))
                        refine wpStill_nil ?_
                        change wpList _ _ _ _ _ wr.drew
                        go_wp2_with (fail)
                        go_roundg (q - (x + 1))
                        case measure => omega
                        case rel => exact ⟨x + 1, by omega, by go_num, HN⟩
                      · obtain rfl : q = x := by omega
                        have HN := Lib.hid (HX2.out.congr (g := S j (i + 1)) (fun y hy => by rw [if_pos hy]))
                        clear hbw HX2
                        go_wp2_with (fail)
                        go_roundg (k - (i + 1))
                        case measure => omega
                        case rel => exact ⟨i + 1, by omega, by go_num, HN⟩
                · obtain rfl : k = i := by omega
                  have HB := Lib.hid HACC.out.below
                  have HO := Lib.hid (show wr.ownsRow wo.heap.size 5 1 (.slice (some ⟨wo.heap.size, 0, none⟩) q q) q (newsB q (timesF O' (fun a => G (rn a)) k j)) from own_of_is (rowIs_congr HACC.out.row (fun y hy => by rw [HSS.out]; rfl)) (Nat.le_refl _) (by unfold maxLen; omega))
                  clear HACC
                  go_wp2_with (at_builtin; refine wpList_append_own _ rfl (.tmp 130) (.tmp 132) 28 rfl w4.heap.size 22 i56 (.slice none 0 0) 1 24 Try.underlying28 hi hz0 hz1 hz2 rfl (by decide) _ j _ rfl (HI.out.ownUp HB.out _) _ 1 1 [.slice (some ⟨wo.heap.size, 0, none⟩) q q] rfl rfl (one_news _ _ _ rfl) (one_one _ rfl) (by unfold maxLen; omega) (by omega) (by have := HI.out.below.size; have := HB.out.size; simp; omega) ?_; intro v2 w9 hown2 hgrow2 hz; clear hz; have HS9 := Lib.hid (HI.out.step HB.out HO.out hown2 hgrow2); clear hown2 hgrow2)
                  obtain ⟨As2, cs2, hS⟩ := HS9.out
                  replace hS := Lib.hid hS
                  clear HS9
                  go_roundg (k - (j + 1))
                  case measure => omega
                  case rel => exact ⟨j + 1, by omega, by go_num, _, _, hS⟩
            · obtain rfl : k = j := by omega
              go_wp2_with (fail)
              go_ret
              exact ⟨_, As, cs, w4, A', O', rfl, HGJ.out, HB4.out, HI.out⟩
        · rw [HSX.out] at hgj
          cases hgj
end Go.Proofs.Ytccfnhocjiehnaa
