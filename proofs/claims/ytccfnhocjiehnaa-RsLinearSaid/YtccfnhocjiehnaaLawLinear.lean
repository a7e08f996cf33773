/- RsLinear holds: shards of two rows of bytes, added byte by byte, are those of the sum; one byte of one shard that is changed is found. No condition. -/
import Derived.Test.YtccfnhocjiehnaaOpen
import Derived.Test.YtccfnhocjiehnaaRsKnown
import Derived.Test.YtccfnhocjiehnaaCheckC
import Derived.Test.YtccfnhocjiehnaaRsLin
import Derived.Test.YtccfnhocjiehnaaInverse
namespace Go.Proofs.Ytccfnhocjiehnaa.rsLinear
open Go.ChangeShapes Go.WideShapes Go.ChangeAt Go.RowKit
open Go.ChangeMaps (open_string shut_string)
set_option linter.unusedVariables false
set_option linter.unusedSimpArgs false

set_option maxRecDepth 100000 in
set_option maxHeartbeats 4000000 in
theorem walk_out (k m : Int) (A B : Option Addr) (n ac nb bc : Nat) (t : Int) (w : World) (hn : n ≤ 4611686018427387904) (hnb : nb ≤ 4611686018427387904) (h : k < 1 ∨ (1 ≤ k ∧ m < 1) ∨ (1 ≤ k ∧ 1 ≤ m ∧ 12 < k) ∨ (1 ≤ k ∧ 1 ≤ m ∧ k ≤ 12 ∧ 12 < m) ∨ (1 ≤ k ∧ 1 ≤ m ∧ k ≤ 12 ∧ m ≤ 12 ∧ 1000 < n) ∨ (1 ≤ k ∧ 1 ≤ m ∧ k ≤ 12 ∧ m ≤ 12 ∧ n ≤ 1000 ∧ nb < n)) :
    Calls Try.prog 3 #[.int .i64 k, .int .i64 m, .slice A n ac, .slice B nb bc, .int .i64 t] w fun e w' => e = .returned (.bool true) ∧ Below w.heap.size w w' := by
  have hnot : ∀ (x : Bool) (w : World), (Op.unary .not (.bool x)).run Try.prog w = .ok (.bool (!x)) w := fun _ _ => rfl
  have e1 : 1000 < n → (1000 : Int) < (n : Int) := fun h => by omega
  have e2 : n ≤ 1000 → (n : Int) ≤ 1000 := fun h => by omega
  have e3 : nb < n → (nb : Int) < (n : Int) := fun h => by omega
  rcases h with h | ⟨h1, h⟩ | ⟨h1, h2, h⟩ | ⟨h1, h2, h3, h⟩ | ⟨h1, h2, h3, h4, h⟩ | ⟨h1, h2, h3, h4, h5, h⟩
  case inr.inr.inr.inr.inl =>
    have h' := e1 h
    clear e1 e2 e3 h
    go_enter Try.func3, Try.ntmps3
    go_wp2_with (go_at_call 7; refine (rsknown_c _).mono ?_; rintro e w1 ⟨rfl, hb⟩; replace hb := Lib.hid hb)
    go_ret
    exact ⟨rfl, hb.out⟩
  case inr.inr.inr.inr.inr =>
    have h5' := e2 h5
    have h' := e3 h
    clear e1 e2 e3 h h5
    go_enter Try.func3, Try.ntmps3
    go_wp2_with (go_at_call 7; refine (rsknown_c _).mono ?_; rintro e w1 ⟨rfl, hb⟩; replace hb := Lib.hid hb)
    go_ret
    exact ⟨rfl, hb.out⟩
  all_goals
    clear e1 e2 e3
    go_enter Try.func3, Try.ntmps3
    go_wp2_with (go_at_call 7; refine (rsknown_c _).mono ?_; rintro e w1 ⟨rfl, hb⟩; replace hb := Lib.hid hb)
    go_ret
    exact ⟨rfl, hb.out⟩

/-- The sum so far. -/
def sumF (i : Nat) (f g : Nat → Gf.E) : Nat → Gf.E := fun j => if j < i then Gf.add (f j) (g j) else 0
def SumR (w wr : World) (gs n i : Nat) (f g : Nat → Gf.E) : Prop := RowAt wr gs 5 n (fun j => vb (sumF i f g j)) ∧ Below w.heap.size w wr ∧ w.heap.size ≤ gs

set_option maxRecDepth 100000 in
set_option maxHeartbeats 16000000 in
theorem walk_in (k m : Nat) (A B : Option Addr) (n ac nb bc : Nat) (da db : Nat → Gf.E) (t : Int) (w : World) (hk : 1 ≤ k) (hm : 1 ≤ m) (hk2 : k ≤ 12) (hm2 : m ≤ 12) (hn : n ≤ 1000) (hnb : n ≤ nb) (hbc : nb ≤ bc) (ha : RdB w A n da) (hb0 : RdB w B nb db) (ht : -9223372036854775808 ≤ t ∧ t ≤ 9223372036854775807) :
    Calls Try.prog 3 #[.int .i64 k, .int .i64 m, .slice A n ac, .slice B nb bc, .int .i64 t] w fun e w' => e = .returned (.bool true) ∧ Below w.heap.size w w' := by
  have hnot : ∀ (x : Bool) (w : World), (Op.unary .not (.bool x)).run Try.prog w = .ok (.bool (!x)) w := fun _ _ => rfl
  have hne : ∀ (g : Nat) (W : World), (binOp .eql 24 (.pointer (some ⟨g, 0, none⟩)) (.pointer none)).run Try.prog W = .ok (.bool false) W := fun _ _ => by simp [go_sem]
  have hmk := run_make_row' (P := Try.prog) 22 5 (.int .u8 0) 1 Try.underlying22 info5 rfl .i64 .i64 n (by omega) (by omega)
  have k1 : (1 : Int) ≤ (k : Int) := by omega
  have k2 : (k : Int) ≤ 12 := by omega
  have m1 : (1 : Int) ≤ (m : Int) := by omega
  have m2 : (m : Int) ≤ 12 := by omega
  have n1 : (n : Int) ≤ 1000 := by omega
  have n2 : (n : Int) ≤ (nb : Int) := by omega
  have n3 : (n : Int) ≤ (bc : Int) := by omega
  have n4 : n ≤ bc := by omega
  have HA := Lib.hid ha
  have HB := Lib.hid hb0
  clear ha hb0
  go_enter Try.func3, Try.ntmps3
  go_wp2_with (first | (go_at_call 7; refine (rsknown_c _).mono ?_; rintro e w1 ⟨rfl, hb⟩; replace hb := Lib.hid hb) | (go_at_call 8; refine (new_yes k m _ hk (by omega)).mono ?_; rintro e w2 ⟨cb, rfl, hC, hcb, hb2⟩; replace hC := Lib.hid hC; replace hb2 := Lib.hid hb2))
  have hS0 : SumR w2 (w2.alloc (.cells (madeCells #[.int .u8 0] n) 5)) w2.heap.size n 0 da db :=
    ⟨RowAt.of_is ((World.rowIs_made w2 (.int .u8 0) n 5).congr (fun j hj => by unfold sumF; rw [if_neg (Nat.not_lt_zero j)]; rfl)), box_below _ _, Nat.le_refl _⟩
  have HS0 := Lib.hid hS0
  have HB2 := Lib.hid (below_then hb.out hb.out.size hb2.out)
  clear hS0 hmk
  go_loopg [14] n (fun kq v14 wr => ∃ i : Nat, i + kq = n ∧ v14 = .int .i64 (i : Int) ∧ Hid (SumR w2 wr w2.heap.size n i da db))
  case atStart => exact ⟨0, by omega, rfl, HS0⟩
  case round =>
    clear HS0
    obtain ⟨i, hi, rfl, HS⟩ := hrel
    by_cases hlt : i < n
    · have hbw := below_then HB2.out HB2.out.size HS.out.2.1
      obtain ⟨ax, rfl, f1⟩ := (RdF.below HA.out hbw).at_ hlt
      obtain ⟨bx, rfl, f2⟩ := (RdF.below HB.out hbw).at_ (show i < nb by omega)
      have f3 := HS.out.1.cell hlt
      have fz := HS.out.1.frozen i
      unfold vb at f1 f2 f3
      have i1 : (i : Int) < (n : Int) := by omega
      have i0 : (0 : Int) ≤ (i : Int) := by omega
      have e3 := u8_xor_nat (da i).val (db i).val (da i).isLt (db i).isLt
      have HN : Hid (SumR w2 ((wr.drewN 1).setCell ⟨w2.heap.size, i, none⟩ (.int .u8 ((Gf.add (da i) (db i)).val : Int))) w2.heap.size n (i + 1) da db) := Lib.hid
        ⟨((HS.out.1.drewN 1).set i (vb (Gf.add (da i) (db i)))).congr (fun j hj => by
          by_cases e : j = i
          · subst e; simp [sumF]
          · simp only [e, if_false]
            unfold sumF
            by_cases h1 : j < i
            · rw [if_pos h1, if_pos (by omega)]
            · rw [if_neg h1, if_neg (by omega)]), (below_drewN HS.out.2.1 1).setCell (Nat.le_refl _) _, Nat.le_refl _⟩
      clear hbw HS
      go_wp2_with (fail)
      refine wp_region_still_tail 12 (by kernel_rfl) (by kernel_rfl) ?_
      simp only [List.take_succ_cons, List.take_zero, List.drop_succ_cons, List.drop_zero]
      repeat (first | still_step)
      refine wpStill_nil ?_
      change wpList _ _ _ _ _ wr.drew
      go_wp2_with (fail)
      go_roundg (n - (i + 1))
      case measure => omega
      case rel => exact ⟨i + 1, by omega, by go_num, HN⟩
    · obtain rfl : i = n := by omega
      rename_i w20
      have HD := Lib.hid (show RdB wr (some ⟨w2.heap.size, 0, none⟩) i (fun j => Gf.add (da j) (db j)) from (HS.out.1.congr (fun j hj => by unfold sumF; rw [if_pos hj])).rd)
      have HC2 := Lib.hid (hC.out.below HS.out.2.1)
      have HW := Lib.hid (below_then HB2.out HB2.out.size HS.out.2.1)
      clear HS
      obtain ⟨s, hs⟩ : ∃ s, s = k + m := ⟨_, rfl⟩
      obtain ⟨q, hq⟩ : ∃ q, q = wide k i := ⟨_, rfl⟩
      have q1 : 1 ≤ q := by rw [hq]; exact wide_pos k i
      have q2 : q ≤ 1012 := by
        have h1 := wide_le i hk
        have h2 : 1 * wide k i ≤ k * wide k i := Nat.mul_le_mul_right _ hk
        omega
      have s1 : 2 ≤ s := by omega
      have s2 : s ≤ 24 := by omega
      have HE := Lib.hid (fun (D : Option Addr) (dc : Nat) (d : Nat → Gf.E) (W : World) (hC : CodeR W cb k m) (hd : RdB W D i d) => encode_c cb k m D i dc d W hC hk (by omega) hd (by omega))
      rw [← hs, ← hq] at HE
      have HSK := Lib.hid hs
      have HQK := Lib.hid hq
      clear hs hq
      go_wp2_with (fail)
      refine (HE.out A ac da _ HC2.out (RdF.below HA.out HW.out)).mono ?_
      rintro e w4 ⟨v, rfl, g4, p4, b4, rfl, hp4, hX⟩
      have HX := Lib.hid hX
      have HC4 := Lib.hid (HC2.out.below hX.2.2.2.2)
      have HD4 := Lib.hid (RdF.below HD.out hX.2.2.2.2)
      have HW4 := Lib.hid (below_then HW.out HW.out.size hX.2.2.2.2)
      clear hX
      go_wp2_with (fail)
      refine (HE.out B bc db _ HC4.out (fun h0 => by obtain ⟨ad, e, hc⟩ := RdF.below HB.out HW4.out (by omega); exact ⟨ad, e, fun j hj => hc j (by omega)⟩)).mono ?_
      rintro e w5 ⟨v, rfl, g5, p5, b5, rfl, hp5, hY⟩
      have HX5 := Lib.hid (HX.out.1.below hY.2.2.2.2)
      have HY := Lib.hid hY
      have HC5 := Lib.hid (HC4.out.below hY.2.2.2.2)
      have HD5 := Lib.hid (RdF.below HD4.out hY.2.2.2.2)
      have HW5 := Lib.hid (below_then HW4.out HW4.out.size hY.2.2.2.2)
      clear hY
      go_wp2_with (fail)
      refine (HE.out (some ⟨w2.heap.size, 0, none⟩) i (fun j => Gf.add (da j) (db j)) _ HC5.out HD5.out).mono ?_
      rintro e w6 ⟨v, rfl, g6, p6, b6, rfl, hp6, hZ⟩
      have HX6 := Lib.hid (HX5.out.below hZ.2.2.2.2)
      have HY6 := Lib.hid (HY.out.1.below hZ.2.2.2.2)
      have HC6 := Lib.hid (HC5.out.below hZ.2.2.2.2)
      have HW6 := Lib.hid (below_then HW5.out HW5.out.size hZ.2.2.2.2)
      have HZ := Lib.hid (show OwnMat w5 w6 g6 s q b6 _ from hZ)
      clear hZ HE HC2 HC4 HD HD4 HD5
      go_wp2_with (fail)
      go_loopg [18] s (fun kq v18 wr => ∃ a : Nat, a + kq = s ∧ v18 = .int .i64 (a : Int) ∧ Hid (Drew w6 wr))
      case atStart => exact ⟨0, by omega, rfl, Lib.hid (Drew.refl _)⟩
      case round =>
        obtain ⟨a, ha, rfl, HD⟩ := hrel
        rename_i wr1
        by_cases hla : a < s
        · have a1 : (a : Int) < (s : Int) := by omega
          have a0 : (0 : Int) ≤ (a : Int) := by omega
          obtain ⟨cs6, z1, z2⟩ := HZ.out.1.below HD.out.below
          have fz1 := z1.cell hla
          clear z1 z2
          go_wp2_with (fail)
          go_loopg [19] q (fun kq v19 wr => ∃ x : Nat, x + kq = q ∧ v19 = .int .i64 (x : Int) ∧ Hid (Drew w6 wr))
          case atStart => exact ⟨0, by omega, rfl, HD⟩
          case round =>
            clear HD fz1
            obtain ⟨x, hx, rfl, HD⟩ := hrel
            rename_i wr2
            obtain ⟨nq, rfl⟩ := HD.out
            obtain ⟨cs4, x1, x2⟩ := HX6.out
            obtain ⟨cs5, y1, y2⟩ := HY6.out
            obtain ⟨cs6, z1, z2⟩ := HZ.out.1
            have fx1 := x1.cell hla
            have fy1 := y1.cell hla
            have fz1 := z1.cell hla
            by_cases hlx : x < q
            · have fx2 := (x2 a hla).2.cell hlx
              have fy2 := (y2 a hla).2.cell hlx
              have fz2 := (z2 a hla).2.cell hlx
              unfold vb at fx2 fy2 fz2
              have x1' : (x : Int) < (q : Int) := by omega
              have x0' : (0 : Int) ≤ (x : Int) := by omega
              have hez : encF k q i (fun j => Gf.add (da j) (db j)) a x = Gf.add (encF k q i da a x) (encF k q i db a x) := encF_add k q i da db a x
              rw [hez] at fz2
              obtain ⟨ex, hex⟩ : ∃ ex, ex = encF k q i da a x := ⟨_, rfl⟩
              obtain ⟨ey, hey⟩ : ∃ ey, ey = encF k q i db a x := ⟨_, rfl⟩
              rw [← hex] at fx2 fz2
              rw [← hey] at fy2 fz2
              have e3 := u8_xor_nat ex.val ey.val ex.isLt ey.isLt
              have c1 : (((ex.val ^^^ ey.val : Nat) : Int) != ((Gf.add ex ey).val : Int)) = false := by rw [bne_eq_false_iff_eq]; rfl
              clear x1 x2 y1 y2 z1 z2 hez hex hey HD
              go_wp2_with (fail)
              go_quiet (fail)
              go_wp2_with (fail)
              go_roundg (q - (x + 1))
              case measure => omega
              case rel => exact ⟨x + 1, by omega, by go_num, Lib.hid (by repeat (first | exact Drew.refl _ | apply Drew.step))⟩
            · obtain rfl : x = q := by omega
              clear x1 x2 y1 y2 z1 z2
              go_wp2_with (fail)
              go_roundg (s - (a + 1))
              case measure => omega
              case rel => exact ⟨a + 1, by omega, by go_num, HD⟩
        · obtain rfl : a = s := by omega
          obtain ⟨N, hN⟩ : ∃ N, N = a * q := ⟨_, rfl⟩
          have hN1 : 1 ≤ N := by rw [hN]; exact Nat.mul_pos (by omega) (by omega)
          have hN2 : N ≤ 30000 := by
            have h1 : a * q ≤ 24 * q := Nat.mul_le_mul_right _ s2
            omega
          obtain ⟨r, hr⟩ : ∃ r, r = t.tmod (N : Int) := ⟨_, rfl⟩
          have hr1 : r < (N : Int) := by rw [hr]; exact Int.tmod_lt_of_pos t (by omega)
          have hr2 : -(N : Int) < r := by
            have h1 := Int.tmod_lt_of_pos (-t) (b := (N : Int)) (by omega)
            rw [Int.neg_tmod, ← hr] at h1
            omega
          obtain ⟨p, hp1, hp2⟩ : ∃ p : Nat, p < N ∧ (if r < 0 then r + (N : Int) else r) = (p : Int) := by
            by_cases h : r < 0
            · rw [if_pos h]; exact ⟨(r + N).toNat, by omega, by omega⟩
            · rw [if_neg h]; exact ⟨r.toNat, by omega, by omega⟩
          have hi0 : p / q < a := by
            rw [Nat.div_lt_iff_lt_mul (by omega)]; omega
          have hj0 : p % q < q := Nat.mod_lt _ (by omega)
          obtain ⟨i0, hi0'⟩ : ∃ i0, i0 = p / q := ⟨_, rfl⟩
          obtain ⟨j0, hj0'⟩ : ∃ j0, j0 = p % q := ⟨_, rfl⟩
          rw [← hi0'] at hi0
          rw [← hj0'] at hj0
          have t1 : ((p : Int)).tdiv (q : Int) = (i0 : Int) := by rw [hi0']; rfl
          have t2 : ((p : Int)).tmod (q : Int) = (j0 : Int) := by rw [hj0']; rfl
          have t3 : (p : Int) / (q : Int) = (i0 : Int) := by rw [hi0']; rfl
          have t4 : (p : Int) % (q : Int) = (j0 : Int) := by rw [hj0']; rfl
          have hZ7 := OwnMat.over HZ.out HD.out.below
          have HZ7 := Lib.hid hZ7
          obtain ⟨cs6, z1, z2⟩ := hZ7.1
          have f0 := z1.cell (show 0 < a by omega)
          have f1 := z1.cell hi0
          have f2 := (z2 i0 hi0).2.cell hj0
          have fz := (z2 i0 hi0).2.frozen j0
          have hmul : (a : Int) * (q : Int) = (N : Int) := by rw [hN, Int.natCast_mul]
          have h00 : (0 : Int) < (a : Int) := by omega
          have h01 : 0 < a := by omega
          have q01 : ¬ (q : Int) = 0 := by omega
          have q02 : ¬ q = 0 := by omega
          have q03 : (0 : Int) < (q : Int) := by omega
          have w1 : IntKind.i64.wrap (i0 : Int) = (i0 : Int) := by rw [IntKind.wrap_i64]; omega
          have bb1 : (i0 : Int) < (a : Int) := by omega
          have bb2 : (j0 : Int) < (q : Int) := by omega
          have bb3 : (0 : Int) ≤ (i0 : Int) := by omega
          have bb4 : (0 : Int) ≤ (j0 : Int) := by omega
          have bb5 : (N : Int) ≤ 30000 := by omega
          have bb6 : (1 : Int) ≤ (N : Int) := by omega
          have bb7 : (p : Int) < (N : Int) := by omega
          have bb8 : (0 : Int) ≤ (p : Int) := by omega
          have hrm := hr.symm
          have HNN := Lib.hid hN
          have HP2 := Lib.hid hp2
          unfold vb at f2
          clear z1 z2 hr hi0' hj0' hN hp2 hZ7
          obtain ⟨ez, hez⟩ : ∃ ez, ez = encF k q i (fun j => Gf.add (da j) (db j)) i0 j0 := ⟨_, rfl⟩
          rw [← hez] at f2
          have e5 : Go.bits .xor .u8 (ez.val : Int) 90 = ((Gf.add ez 90).val : Int) := u8_xor_nat ez.val 90 ez.isLt (by omega)
          obtain ⟨w8, hw8⟩ : ∃ w8, w8 = (wr.drewN 1).setCell ⟨b6 i0, j0, none⟩ (.int .u8 ((Gf.add ez 90).val : Int)) := ⟨_, rfl⟩
          have hO8 : OwnMat w5 w8 g6 a q b6 (upd (encF k q i (fun j => Gf.add (da j) (db j))) i0 j0 (Gf.add ez 90)) := by
            rw [hw8]; exact (HZ7.out.drewN 1).set hi0 hj0 (Gf.add ez 90)
          have HB8 := Lib.hid (below_then HW5.out HW5.out.size hO8.2.2.2.2)
          have hck := check_yes cb k m (some ⟨g6, 0, none⟩) p6 q (upd (encF k q i (fun j => Gf.add (da j) (db j))) i0 j0 (Gf.add ez 90)) w8 (HC5.out.below hO8.2.2.2.2) hk (by omega) (by rw [← HSK.out]; exact hO8.1.rd) (by rw [← HSK.out]; exact hp6) q1 (by omega)
          rw [← HSK.out, hez, changed (fun j => Gf.add (da j) (db j)) hk hm (by omega) (by rw [← HSK.out]; exact hi0) hj0 (x := 90) (by decide), hw8] at hck
          have HCK := Lib.hid hck
          rw [hw8] at HB8
          clear hO8 hck hw8 hez
          by_cases hrn : r < 0
          · have hp2 := HP2.out
            rw [if_pos hrn] at hp2
            go_wp2_with (fail)
            refine wp_region_still_tail 34 (by kernel_rfl) (by kernel_rfl) ?_
            simp only [List.take_succ_cons, List.take_zero, List.drop_succ_cons, List.drop_zero]
            repeat (first | still_step)
            refine wpStill_nil ?_
            change wpList _ _ _ _ _ wr.drew
            go_wp2_with (fail)
            refine HCK.out.mono ?_
            rintro e w9 ⟨rfl, hb9⟩
            have HB9 := Lib.hid (below_then HB8.out HB8.out.size hb9)
            clear hb9
            go_wp2_with (fail)
            go_ret
            exact ⟨rfl, HB9.out⟩
          · have hp2 := HP2.out
            rw [if_neg hrn] at hp2
            subst hp2
            go_wp2_with (fail)
            refine wp_region_still_tail 34 (by kernel_rfl) (by kernel_rfl) ?_
            simp only [List.take_succ_cons, List.take_zero, List.drop_succ_cons, List.drop_zero]
            repeat (first | still_step)
            refine wpStill_nil ?_
            change wpList _ _ _ _ _ wr.drew
            go_wp2_with (fail)
            refine HCK.out.mono ?_
            rintro e w9 ⟨rfl, hb9⟩
            have HB9 := Lib.hid (below_then HB8.out HB8.out.size hb9)
            clear hb9
            go_wp2_with (fail)
            go_ret
            exact ⟨rfl, HB9.out⟩

theorem walk (a0 a1 : Int) (a2 : Option Addr) (len2 cap2 : Nat) (a3 : Option Addr) (len3 cap3 : Nat) (a4 : Int) (w : World) (w0 : (Lit.int .i64 a0).wf = true) (w1 : (Lit.int .i64 a1).wf = true) (y2 : len2 * 1 ≤ 140737488351232) (w2 : IsBytes w a2 len2 cap2) (y3 : len3 * 1 ≤ 140737488351232) (w3 : IsBytes w a3 len3 cap3) (w4 : (Lit.int .i64 a4).wf = true) :
    Calls Try.prog 3 #[.int .i64 a0, .int .i64 a1, .slice a2 len2 cap2, .slice a3 len3 cap3, .int .i64 a4] w fun e w' => e = .returned (.bool true) ∧ Below w.heap.size w w' := by
  obtain ⟨f2, h2, c2⟩ := w2
  obtain ⟨f3, h3, c3⟩ := w3
  by_cases h : 1 ≤ a0 ∧ 1 ≤ a1 ∧ a0 ≤ 12 ∧ a1 ≤ 12 ∧ len2 ≤ 1000 ∧ len2 ≤ len3
  · obtain ⟨g1, g2, g3, g4, g5, g6⟩ := h
    obtain ⟨k, rfl⟩ := Int.eq_ofNat_of_zero_le (show 0 ≤ a0 by omega)
    obtain ⟨m, rfl⟩ := Int.eq_ofNat_of_zero_le (show 0 ≤ a1 by omega)
    exact walk_in k m a2 a3 len2 cap2 len3 cap3 f2 f3 a4 w (by omega) (by omega) (by omega) (by omega) g5 g6 c3 h2 h3 (int_of w4)
  · exact walk_out a0 a1 a2 a3 len2 cap2 len3 cap3 a4 w (by omega) (by omega) (by omega)

set_option maxRecDepth 100000 in
theorem lifted (os : Os) (started : os.Started) (H : Type) (enc : TypeId × Value → H) :
    ReturnsInHanded {} Try.checked os 3 .any (Rows.rsLinearSpec.pre6 enc Try.prog Try.f3 Rows.rsLinearRow.domain false) (Rows.rsLinearSpec.post enc Try.prog Try.f3 false true false false) := by
  refine returnsInHanded_of_change_sized (C := Try.checked) own started (by kernel_rfl) Try.func3
    (ChangeSpec.witness6 (enc := enc) (C := Try.checked) false ⟨#[], #[.int .i64 0, .int .i64 0, .slice none 0 0, .slice none 0 0, .int .i64 0], []⟩ 8 (by kernel_rfl) (by kernel_rfl) (by kernel_rfl) (by kernel_rfl)) ?_
  intro W base args ds gs before hval0 hW hcnd hsz0 _
  have hsz : (DataW.weightsEach Try.prog (Try.f3.params.toList ++ Rows.rsLinearSpec.plain.varTypes Try.prog) (ds ++ gs)).all (· ≤ reachBytes) = true := hsz0
  have hval : ∀ (j : Nat) t v, Try.f3.params[j]? = some t → args[j]? = some v → Value.okWide Try.prog W .any base t v := hval0
  have hW' := hW
  obtain ⟨p, q, hA0, hV, rfl, hfz, hnd⟩ := hW
  have hA : DataW.TrodAll enc Try.prog W 0 (fun _ => true) true Try.f3.params.toList args.toList ds p := hA0
  rw [Try.params3] at hA hval hsz
  obtain ⟨v0, vs0, d0, ds0, p0, q0, hargs, rfl, rfl, h0, r0⟩ := trodAll_cons hA
  obtain ⟨v1, vs1, d1, ds1, p1, q1, rfl, rfl, rfl, h1, r1⟩ := trodAll_cons r0
  obtain ⟨v2, vs2, d2, ds2, p2, q2, rfl, rfl, rfl, h2, r2⟩ := trodAll_cons r1
  obtain ⟨v3, vs3, d3, ds3, p3, q3, rfl, rfl, rfl, h3, r3⟩ := trodAll_cons r2
  obtain ⟨v4, vs4, d4, ds4, p4, q4, rfl, rfl, rfl, h4, r4⟩ := trodAll_cons r3
  obtain ⟨rfl, rfl, rfl⟩ := trodAll_nil r4
  obtain rfl : args = #[v0, v1, v2, v3, v4] := by cases args; simp_all
  obtain ⟨rfl, rfl⟩ := trodVars_none hV
  obtain ⟨a0, rfl, rfl, rfl, w0⟩ := open_int Try.underlying3 (hval 0 3 v0 rfl rfl) h0
  obtain ⟨a1, rfl, rfl, rfl, w1⟩ := open_int Try.underlying3 (hval 1 3 v1 rfl rfl) h1
  obtain ⟨a2, len2, cap2, rfl⟩ := okWide_slice Try.underlying22 (hval 2 22 v2 rfl rfl)
  have k2 := h2
  have lt2 : ∀ x ∈ p2, x.block < W.heap.size := by obtain ⟨m, hm⟩ := k2; exact DataW.trod_lt m _ _ _ hm
  obtain ⟨y2, w2⟩ := bytes_of hsz (j := 2) rfl rfl h2
  obtain ⟨a3, len3, cap3, rfl⟩ := okWide_slice Try.underlying22 (hval 3 22 v3 rfl rfl)
  have k3 := h3
  have lt3 : ∀ x ∈ p3, x.block < W.heap.size := by obtain ⟨m, hm⟩ := k3; exact DataW.trod_lt m _ _ _ hm
  obtain ⟨y3, w3⟩ := bytes_of hsz (j := 3) rfl rfl h3
  obtain ⟨a4, rfl, rfl, rfl, w4⟩ := open_int Try.underlying3 (hval 4 3 v4 rfl rfl) h4
  clear hA0 hval0 hsz0 hsz
  refine (walk a0 a1 a2 len2 cap2 a3 len3 cap3 a4 W w0 w1 y2 w2 y3 w3 w4).mono fun e W' ⟨he, bel⟩ => ?_
  subst he
  exact ⟨_, rfl, _, _, _, [], _, [], hW', trodAll_mk1 (shut_bool Try.underlying4 _), (trodAll_cons_mk (shut_int Try.underlying3 w0) (trodAll_cons_mk (shut_int Try.underlying3 w1) (trodAll_cons_mk (Below.trod laidOut (by kernel_rfl) (of_decide_eq_true (by kernel_rfl)) k2 bel lt2) (trodAll_cons_mk (Below.trod laidOut (by kernel_rfl) (of_decide_eq_true (by kernel_rfl)) k3 bel lt3) (trodAll_cons_mk (shut_int Try.underlying3 w4) trodAll_mk0))))), rfl, bel.frame _, fun h => by cases h⟩
theorem over : Rows.rsLinearRow.holds Try.pinned (OpenSpec.ofChange Rows.rsLinearSpec) :=
  OpenClaim.holds_of_wide 3 Try.f3 rfl rfl rfl rfl rfl rfl rfl ⟨rfl, rfl, rfl, rfl, rfl⟩ rfl rfl rfl rfl rfl (by kernel_rfl) Try.func3 (by kernel_rfl)
    (of_decide_eq_true (by kernel_rfl)) (by unfold Func.isWrapper; first | (rw [if_pos (by decide +kernel)]; kernel_rfl) | (rw [if_neg (by decide +kernel)]; exact ⟨rfl, rfl⟩))
    (fun os started H enc _ => lifted os started H enc)
theorem proved : Rows.RsLinearSaid := over
#print axioms proved
end Go.Proofs.Ytccfnhocjiehnaa.rsLinear
namespace Go.Proofs.Ytccfnhocjiehnaa
/-- The row, under a short name, for the claim. -/
theorem rsLinear_holds : Rows.RsLinearSaid := rsLinear.proved
end Go.Proofs.Ytccfnhocjiehnaa
