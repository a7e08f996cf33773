/- The document's code: New, Width, Split. -/
import Derived.Test.YtccfnhocjiehnaaSplit
import Derived.Test.YtccfnhocjiehnaaRsMend
namespace Go.Proofs.Ytccfnhocjiehnaa
open Go.RowKit
set_option linter.unusedVariables false
set_option linter.unusedSimpArgs false

/-- The document's code lies in block b: k, m. -/
def DocR (w : World) (b k m : Nat) : Prop := w.cell? ⟨b, 0, none⟩ = some (.int .i64 k) ∧ w.cell? ⟨b, 1, none⟩ = some (.int .i64 m)
theorem DocR.below {w w1 : World} {b k m : Nat} (h : DocR w b k m) (hb : Below w.heap.size w w1) : DocR w1 b k m := ⟨cell_below hb h.1, cell_below hb h.2⟩

theorem docnew_no (k m : Int) (w : World) (h : newOk k m = false) (h1 : -9223372036854775808 ≤ k) (h2 : -9223372036854775808 ≤ m) (h3 : m ≤ 9223372036854775807) :
    Calls Try.prog 15 #[.int .i64 k, .int .i64 m] w fun e w' => e = .returned (.tuple #[.pointer none, .int .i64 1]) ∧ w = w' := by
  have h' : k < 1 ∨ m < 0 ∨ 255 < k + m := by
    unfold newOk at h
    have := of_decide_eq_false h
    omega
  clear h
  by_cases a1 : k < 1
  · clear h'
    go_enter Try.func15, Try.ntmps15
    go_wp2
    go_ret2
    exact ⟨rfl, rfl⟩
  · have a1 : 1 ≤ k := by omega
    by_cases a2 : m < 0
    · clear h'
      go_enter Try.func15, Try.ntmps15
      go_wp2
      go_ret2
      exact ⟨rfl, rfl⟩
    · have a2 : 0 ≤ m := by omega
      by_cases a3 : 255 < k
      · clear h'
        go_enter Try.func15, Try.ntmps15
        go_wp2
        go_ret2
        exact ⟨rfl, rfl⟩
      · have a3 : k ≤ 255 := by omega
        have a5 : 255 - k < m := by omega
        clear h'
        go_enter Try.func15, Try.ntmps15
        go_wp2
        go_ret2
        exact ⟨rfl, rfl⟩
set_option maxHeartbeats 1000000 in
theorem docnew_yes (k m : Nat) (w : World) (h1 : 1 ≤ k) (h2 : k + m ≤ 255) :
    Calls Try.prog 15 #[.int .i64 k, .int .i64 m] w fun e w' => ∃ b : Nat, e = .returned (.tuple #[.pointer (some ⟨b, 0, none⟩), .int .i64 0]) ∧ DocR w' b k m ∧ Below w.heap.size w w' := by
  have a1 : (1 : Int) ≤ (k : Int) := by omega
  have a2 : (0 : Int) ≤ (m : Int) := by omega
  have a3 : (k : Int) ≤ 255 := by omega
  have a4 : (m : Int) ≤ 255 := by omega
  have a5 : (m : Int) ≤ 255 - (k : Int) := by omega
  go_enter Try.func15, Try.ntmps15
  go_wp2_with (fail)
  go_ret2
  have hblk := alloc_blk w _ _ (Below.refl (w.alloc (.cells #[.int .i64 (k : Int), .int .i64 (m : Int)] 71)).heap.size _)
  exact ⟨w.heap.size, rfl, ⟨by rw [cell_of_row _ w.heap.size 0 _ _ _ hblk]; rfl, by rw [cell_of_row _ w.heap.size 1 _ _ _ hblk]; rfl⟩, box_below w _⟩

theorem width_c (k n : Nat) (w : World) (h1 : 1 ≤ k) (h2 : k ≤ 255) (hn : n ≤ 65536) :
    Calls Try.prog 40 #[.int .i64 k, .int .i64 n] w fun e w' => e = .returned (.int .i64 (wide k n)) ∧ w = w' := by
  obtain ⟨q0, hq0⟩ : ∃ q0, q0 = n / k := ⟨_, rfl⟩
  obtain ⟨p, hp⟩ : ∃ p, p = q0 * k := ⟨_, rfl⟩
  have hd := Nat.div_add_mod n k
  have hm := Nat.mod_lt n (show k > 0 by omega)
  rw [Nat.mul_comm, ← hq0, ← hp] at hd
  have hq1 : q0 ≤ n := by rw [hq0]; exact Nat.div_le_self _ _
  have hw : wide k n = if p < n then q0 + 1 else if q0 < 1 then 1 else q0 := by
    unfold wide
    by_cases h : p < n
    · rw [if_pos h, show n + k - 1 = (n % k + k - 1) + q0 * k by omega, Nat.add_mul_div_right _ _ (by omega), show n % k + k - 1 = (n % k - 1) + 1 * k by omega, Nat.add_mul_div_right _ _ (by omega), Nat.div_eq_of_lt (by omega)]
      omega
    · rw [if_neg h, show n + k - 1 = (k - 1) + q0 * k by omega, Nat.add_mul_div_right _ _ (by omega), Nat.div_eq_of_lt (by omega)]
      split <;> omega
  have hdiv : (n : Int) / (k : Int) = (q0 : Int) := by rw [hq0]; rfl
  have hmul : (q0 : Int) * (k : Int) = (p : Int) := by rw [hp, Int.natCast_mul]
  have hk0 : ¬ (k : Int) = 0 := by omega
  have b1 : q0 ≤ 65536 := by omega
  have b2 : p ≤ 65536 := by omega
  have HW := Lib.hid hw
  clear hw hd hm hq0 hp
  by_cases h : p < n
  · have d1 : (p : Int) < (n : Int) := by omega
    go_enter Try.func40, Try.ntmps40
    go_wp2_with (fail)
    go_ret
    exact ⟨by rw [HW.out, if_pos h]; rfl, rfl⟩
  · have d1 : (n : Int) ≤ (p : Int) := by omega
    by_cases h0 : q0 < 1
    · have d2 : (q0 : Int) < 1 := by omega
      go_enter Try.func40, Try.ntmps40
      go_wp2_with (fail)
      go_ret
      exact ⟨by rw [HW.out, if_neg h, if_pos h0]; rfl, rfl⟩
    · have d2 : (1 : Int) ≤ (q0 : Int) := by omega
      go_enter Try.func40, Try.ntmps40
      go_wp2_with (fail)
      go_ret
      exact ⟨by rw [HW.out, if_neg h, if_neg h0]; rfl, rfl⟩

theorem own_of_is {w : World} {base b q : Nat} {f : Nat → Gf.E} (h : w.rowIs b 5 q (fun j => vb (f j))) (hb : base ≤ b) (hq : q ≤ maxLen) : w.ownsRow base 5 1 (.slice (some ⟨b, 0, none⟩) q q) q (newsB q f) := by
  obtain ⟨c, h1, h2, h3⟩ := h
  refine ⟨by rw [newsB_len, Nat.mul_one], .inr ⟨b, q, c, rfl, hb, h1, Nat.le_refl _, hq, by rw [h2, Nat.mul_one], ?_⟩⟩
  refine List.ext_getElem? fun i => ?_
  by_cases hi : i < q
  · rw [newsB_at hi, List.getElem?_take_of_lt (by omega), Array.getElem?_toList, h3 i hi]
  · rw [List.getElem?_eq_none (by simp; omega), List.getElem?_eq_none (by rw [newsB_len]; omega)]
theorem rowIs_congr {w : World} {b q : Nat} {t : TypeId} {f g : Nat → Value} (h : w.rowIs b t q f) (e : ∀ j, j < q → f j = g j) : w.rowIs b t q g := by
  obtain ⟨c, h1, h2, h3⟩ := h
  exact ⟨c, h1, h2, fun i hi => by rw [h3 i hi, e i hi]⟩
/-- A row that is being filled. -/
def fillF (j : Nat) (f : Nat → Gf.E) (x : Nat) : Gf.E := if x < j then f x else 0
structure FillR (w wr : World) (b q j : Nat) (f : Nat → Gf.E) : Prop where
  row : wr.rowIs b 5 q (fun x => vb (fillF j f x))
  below : Below w.heap.size w wr
theorem FillR.start (w : World) (q : Nat) (f : Nat → Gf.E) : FillR w (w.alloc (.cells (madeCells #[.int .u8 0] q) 5)) w.heap.size q 0 f :=
  ⟨rowIs_congr (World.rowIs_made w (.int .u8 0) q 5) (fun j hj => by unfold fillF; rw [if_neg (by omega)]; rfl), box_below w _⟩
theorem FillR.step {w wr : World} {q j : Nat} {f : Nat → Gf.E} (h : FillR w wr w.heap.size q j f) (hj : j < q) : FillR w (wr.setCell ⟨w.heap.size, j, none⟩ (.int .u8 ((f j).val : Int))) w.heap.size q (j + 1) f :=
  ⟨rowIs_congr (h.row.set j _) (fun x hx => by
    unfold fillF
    by_cases e : x = j
    · subst e; rw [if_pos rfl, if_pos (by omega)]; rfl
    · rw [if_neg e]
      by_cases e2 : x < j
      · rw [if_pos e2, if_pos (by omega)]
      · rw [if_neg e2, if_neg (by omega)]), h.below.setCell (Nat.le_refl _) _⟩
theorem FillR.done {w wr : World} {q j : Nat} {f : Nat → Gf.E} (h : FillR w wr w.heap.size q j f) (hz : ∀ x, j ≤ x → x < q → f x = 0) (hq : q ≤ maxLen) : wr.ownsRow w.heap.size 5 1 (.slice (some ⟨w.heap.size, 0, none⟩) q q) q (newsB q f) :=
  own_of_is (rowIs_congr h.row (fun x hx => by
    unfold fillF
    by_cases e : x < j
    · rw [if_pos e]
    · rw [if_neg e, hz x (by omega) hx])) (Nat.le_refl _) hq

set_option maxRecDepth 100000 in
set_option maxHeartbeats 4000000 in
theorem docsplit_c (b k m : Nat) (D : Option Addr) (n dc : Nat) (d : Nat → Gf.E) (w : World) (hc : DocR w b k m) (hk : 1 ≤ k) (hk2 : k ≤ 255) (hd : RdB w D n d) (hn : n ≤ 65536) :
    Calls Try.prog 19 #[.pointer (some ⟨b, 0, none⟩), .slice D n dc] w fun e w' => ∃ v As cs w1, e = .returned v ∧ Below w.heap.size w w1 ∧ CopyR w1 w' k v As cs (fun _ => wide k n) (splitF (wide k n) n d) := by
  have c1 := hc.1
  obtain ⟨i56, hi, hz0, hz1, hz2⟩ := info_parts info56
  have HWI := Lib.hid (width_c k n w hk hk2 hn)
  obtain ⟨q, hq⟩ : ∃ q, q = wide k n := ⟨_, rfl⟩
  have hq1 : 1 ≤ q := by rw [hq]; exact wide_pos k n
  have hq2 : k * q ≤ 70000 := by have := wide_le n hk; rw [hq]; omega
  have hq3 : q ≤ 70000 := by
    have h2 : 1 * q ≤ k * q := Nat.mul_le_mul_right _ hk
    omega
  rw [← hq] at HWI
  rw [← hq]
  have HQ2 := Lib.hid hq2
  have hmk := run_make_row' (P := Try.prog) 22 5 (.int .u8 0) 1 Try.underlying22 info5 rfl .i64 .i64 q (by omega) (by omega)
  have HD := Lib.hid hd
  have HC := Lib.hid hc
  have HST := Lib.hid (CopyR.start w w (fun _ => q) (splitF q n d) (Below.refl _ _))
  clear hq hq2 hd hc
  go_enter Try.func19, Try.ntmps19
  go_wp2_with (go_at_call 40; refine HWI.out.mono ?_; rintro e w1 ⟨rfl, rfl⟩)
  go_loopg [6, 7] k (fun kq v6 v7 wr => ∃ i : Nat, i + kq = k ∧ v7 = .int .i64 (i : Int) ∧ ∃ As cs, Hid (CopyR w wr i v6 As cs (fun _ => q) (splitF q n d)))
  case atStart => exact ⟨0, by omega, rfl, _, _, HST⟩
  case round =>
    clear HST
    obtain ⟨i, hi0, rfl, As, cs, HI⟩ := hrel
    obtain ⟨wo, hwo⟩ : ∃ wo, wo = wr := ⟨_, rfl⟩
    subst hwo
    have c1 := (HC.out.below HI.out.below).1
    by_cases hlt : i < k
    · have i1 : (i : Int) < (k : Int) := by omega
      have i0 : (0 : Int) ≤ (i : Int) := by omega
      obtain ⟨a, ha⟩ : ∃ a, a = i * q := ⟨_, rfl⟩
      have haN : a + q ≤ 70000 := by
        have h1 : (i + 1) * q ≤ k * q := Nat.mul_le_mul_right q hlt
        have := HQ2.out
        rw [Nat.succ_mul] at h1
        omega
      have hma : (i : Int) * (q : Int) = (a : Int) := by rw [ha, Int.natCast_mul]
      have HAA := Lib.hid ha
      have HF := Lib.hid (FillR.start wo q (splitF q n d i))
      clear ha
      go_wp2_with (fail)
      go_loopg [9] q (fun jq v9 wx => ∃ j : Nat, j + jq = q ∧ v9 = .int .i64 (j : Int) ∧ Hid (FillR wo wx wo.heap.size q j (splitF q n d i)))
      case atStart => exact ⟨0, by omega, rfl, HF⟩
      case round =>
        clear HF
        obtain ⟨j, hj0, rfl, HF⟩ := hrel
        have j0 : (0 : Int) ≤ (j : Int) := by omega
        have c1 := cell_below HF.out.below c1
        by_cases hjq : j < q
        · have j1 : (j : Int) < (q : Int) := by omega
          by_cases hin : a + j < n
          · obtain ⟨ad, rfl, hg⟩ := (RdF.below (RdF.below HD.out HI.out.below) HF.out.below).at_ hin
            obtain ⟨p, hp⟩ : ∃ p, p = a + j := ⟨_, rfl⟩
            rw [← hp] at hg
            have hpj : (a : Int) + (j : Int) = (p : Int) := by omega
            have p1 : (p : Int) < (n : Int) := by omega
            have p0 : (0 : Int) ≤ (p : Int) := by omega
            have fr := HF.out.row.cell hjq
            have fz := HF.out.row.frozen j
            have hN := HF.out.step hjq
            have e : splitF q n d i j = d p := by unfold splitF; rw [← HAA.out, if_pos hin, hp]
            rw [e] at hN
            have HN := Lib.hid hN
            unfold vb at hg
            clear hN e hp hin
            go_wp2_with (fail)
            go_roundg (q - (j + 1))
            case measure => omega
            case rel => exact ⟨j + 1, by omega, by go_num, HN⟩
          · have d1 : (n : Int) ≤ (a : Int) + (j : Int) := by omega
            have HNI := Lib.hid hin
            clear hin
            have HB := Lib.hid HF.out.below
            have HO := Lib.hid (HF.out.done (fun x hx1 hx2 => by unfold splitF; rw [← HAA.out, if_neg (by have := HNI.out; omega)]) (by unfold maxLen; omega))
            clear HF
            go_wp2_with (at_builtin; refine wpList_append_own _ rfl (.tmp 53) (.tmp 55) 28 rfl w.heap.size 22 i56 (.slice none 0 0) 1 24 Try.underlying28 hi hz0 hz1 hz2 rfl (by decide) _ i _ rfl (HI.out.ownUp HB.out _) _ 1 1 [.slice (some ⟨wo.heap.size, 0, none⟩) q q] rfl rfl (one_news _ _ _ rfl) (one_one _ rfl) (by unfold maxLen; omega) (by omega) (by have := HI.out.below.size; have := HB.out.size; simp; omega) ?_; intro v2 w4 hown2 hgrow2 hz; clear hz; have HS := Lib.hid (HI.out.step HB.out HO.out hown2 hgrow2); clear hown2 hgrow2)
            obtain ⟨As2, cs2, hS⟩ := HS.out
            replace hS := Lib.hid hS
            clear HS
            go_roundg (k - (i + 1))
            case measure => omega
            case rel => exact ⟨i + 1, by omega, by go_num, _, _, hS⟩
        · obtain rfl : j = q := by omega
          have HB := Lib.hid HF.out.below
          have HO := Lib.hid (HF.out.done (fun x hx1 hx2 => by omega) (by unfold maxLen; omega))
          clear HF
          go_wp2_with (at_builtin; refine wpList_append_own _ rfl (.tmp 53) (.tmp 55) 28 rfl w.heap.size 22 i56 (.slice none 0 0) 1 24 Try.underlying28 hi hz0 hz1 hz2 rfl (by decide) _ i _ rfl (HI.out.ownUp HB.out _) _ 1 1 [.slice (some ⟨wo.heap.size, 0, none⟩) j j] rfl rfl (one_news _ _ _ rfl) (one_one _ rfl) (by unfold maxLen; omega) (by omega) (by have := HI.out.below.size; have := HB.out.size; simp; omega) ?_; intro v2 w4 hown2 hgrow2 hz; clear hz; have HS := Lib.hid (HI.out.step HB.out HO.out hown2 hgrow2); clear hown2 hgrow2)
          obtain ⟨As2, cs2, hS⟩ := HS.out
          replace hS := Lib.hid hS
          clear HS
          go_roundg (k - (i + 1))
          case measure => omega
          case rel => exact ⟨i + 1, by omega, by go_num, _, _, hS⟩
    · obtain rfl : i = k := by omega
      go_wp2_with (fail)
      go_ret
      exact ⟨_, As, cs, w, rfl, Below.refl _ _, HI.out⟩
end Go.Proofs.Ytccfnhocjiehnaa
